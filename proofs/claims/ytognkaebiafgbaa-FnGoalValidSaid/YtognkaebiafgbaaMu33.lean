/-
  append of a term that shares nothing: the step inside a drawn region and in a plain list; the loop over a term's arguments whose results share nothing.
-/
import Derived.Laws.IdiomStrings
import Derived.Test.YtognkaebiafgbaaMu20
import Derived.Test.YtognkaebiafgbaaMu9
namespace Go.Proofs.Ytognkaebiafgbaa
open Go.RowKit
set_option linter.unusedVariables false
theorem step_append_ow {P : Program} {ops : Array Oper} {o : Oper} {a : Act} {w0 w1 : World} {K : Act → World → Prop} {Q : Exit → Act → World → Prop} {E : Prop}
    (hgd : o.guard = none) (s x : Operand) (ty : TypeId)
    (ho : o.op = .call { callee := .builtin .append, args := #[s, x], argTypes := #[ty, ty] })
    (z : Nat) (i : TypeInfo) (ht : P.underlying ty = some (.slice 25)) (hi : P.info? 25 = some i) (hz : i.zero = some (.agg #[.int .i64 0, .int .i64 0, .string ⟨#[]⟩, .slice none 0 0]))
    (hsize : i.size = 4) (hby : i.bytes = 56)
    (v : Value) (ts : List Tm) (t : Tm) (a2 : Option Addr) (c2 : Nat) (hs : a.eval s = v) (happ : OwnS (fun b => z ≤ b ∧ b < w0.heap.size) ts v w1) {nb : Nat} (hx : a.eval x = .slice (some ⟨nb, 0, none⟩) 1 1)
    (hv1 : Tm.own (fun b => w0.heap.size ≤ b) w1 t (.slice a2 t.kids.length c2)) (hw : w0.heap.size ≤ w1.heap.size) (hzw : z ≤ w0.heap.size)
    (hl : ts.length < 1048576) (hnb : nb = w1.heap.size)
    (h : ∀ av cv w2, OwnS (fun b => z ≤ b ∧ b < w2.heap.size) (ts ++ [t]) (.slice av (ts.length + 1) cv) w2 → Fr (fun b => z ≤ b) w1 w2 → K (a.put o.dst (.slice av (ts.length + 1) cv)) w2) :
    if Region.wanted o (yielded ops a.tmps) = true then Oper.wp P o a (w1.alloc (.cells #[.int .i64 t.kind, .int .i64 t.n, .string t.name, .slice a2 t.kids.length c2] 25)) K Q else E := by
  subst hnb
  obtain ⟨xs, how, hzz, hfl⟩ := happ
  have hb := own_bound _ _ hv1
  refine step_append_fresh hgd s x ty ho 0 25 i _ 4 56 ht hi hz hsize hby rfl (by decide) v ts.length xs hs (own_ext how (Ext.alloc _ _)) ⟨w1.heap.size, 0, none⟩ 1 1 (tcells t a2 c2) hx rfl (fun j u h => cell_four _ _ _ j u h) (by simp [tcells, Value.oneCell']) (by unfold maxLen; omega) (by omega) (by omega) ?_
  intro v2 w2 ho2 hg2 hfr2
  obtain ⟨av, cv, rfl⟩ := own_form ho2
  have hn := ownS_next how hzz hfl hb (fun b h1 h2 => by omega) (fun b h => h.2) (fun b h => by omega) ho2 hg2 hfr2
  refine h av cv w2 ((hn.bound).mono (M := fun _ => False) (fun b hb => ⟨?_, hb.2⟩) (Fr.refl _ _) (fun _ _ h => h)) ((Fr.alloc _ _).trans (Fr.of_grown hg2 (fun k hk => (hzz k hk).1)))
  rcases hb.1 with h | h | h <;> omega
structure KidO (w : World) (O R z : Nat) (ts : List Tm) (u0 u1 u2 : Value) (av : Option Addr) (cv : Nat) (wr : World) : Prop where
  app : OwnS (fun b => z ≤ b ∧ b < wr.heap.size) ts (.slice av ts.length cv) wr
  ext : Ext w wr
  box : BoxT wr O u0 u1 u2 (.slice av ts.length cv)
  res : BoxT wr R (.int .i64 0) (.int .i64 0) (.string ⟨#[]⟩) (.slice none 0 0)
theorem BoxT.set3 {w : World} {b : Nat} {v0 v1 v2 v3 : Value} (h : BoxT w b v0 v1 v2 v3) (u : Value) : BoxT (w.setCell ⟨b, 3, none⟩ u) b v0 v1 v2 u := by
  obtain ⟨c0, c1, c2, c3, f0, f1, f2, f3⟩ := h
  exact ⟨cell_off (by decide) c0, cell_off (by decide) c1, cell_off (by decide) c2, cell_same c3, by rw [World.frozen?_setCell]; exact f0, by rw [World.frozen?_setCell]; exact f1, by rw [World.frozen?_setCell]; exact f2, by rw [World.frozen?_setCell]; exact f3⟩
theorem KidO.next {w wr w1 w2 : World} {O R z : Nat} {ts : List Tm} {t : Tm} {u0 u1 u2 : Value} {av av2 : Option Addr} {cv cv2 : Nat} (h : KidO w O R z ts u0 u1 u2 av cv wr) (hO : w.heap.size ≤ O) (hOz : O < z) (hRz : R < z) (hR : R ≠ O) (e1 : Ext wr w1)
    (hA : OwnS (fun b => z ≤ b ∧ b < w2.heap.size) (ts ++ [t]) (.slice av2 (ts.length + 1) cv2) w2) (hf : Fr (fun b => z ≤ b) w1 w2) : KidO w O R z (ts ++ [t]) u0 u1 u2 av2 cv2 (w2.setCell ⟨O, 3, none⟩ (.slice av2 (ts.length + 1) cv2)) := by
  have hlen : (ts ++ [t]).length = ts.length + 1 := by simp
  refine ⟨?_, ?_, ?_, ?_⟩
  · rw [hlen]
    exact hA.mono (M := fun k => k = O) (fun b hb => ⟨hb.1, by simpa [World.setCell] using hb.2⟩) (Fr.setCell _ rfl) (fun b hb h => by omega)
  · exact ((Fr.of_ext (M := fun b => w.heap.size ≤ b) (h.ext.trans e1)).trans ((hf.mono (fun k _ h => by omega)).trans (Fr.setCell _ hO))).toExt (fun k hk h => by omega)
  · rw [hlen]
    exact ((h.box.ext e1).fr hf (by omega)).set3 _
  · exact ((h.res.ext e1).fr hf (by omega)).fr (M := fun k => k = O) (Fr.setCell _ rfl) hR
end Go.Proofs.Ytognkaebiafgbaa

namespace Go.Proofs.Ytognkaebiafgbaa
open Go.RowKit
set_option linter.unusedVariables false
def ClOw (c : Cl) (v : Value) (w w' : World) : Prop := ∃ a ca b cb m, v = .agg #[.int .i64 c.head.kind, .int .i64 c.head.n, .string c.head.name, .slice a c.head.kids.length ca, .slice b c.body.length cb] ∧
  Tm.own (fun k => w.heap.size ≤ k ∧ k < m) w' c.head (.slice a c.head.kids.length ca) ∧ OwnS (fun k => m ≤ k ∧ k < w'.heap.size) c.body (.slice b c.body.length cb) w' ∧ w.heap.size ≤ m ∧ m ≤ w'.heap.size
def ClOne (c : Cl) (w : World) (e : Ending) (w' : World) : Prop := ∃ v, e = .returned v ∧ ClOw c v w w' ∧ Ext w w'
def ClTwo (c : Cl) (b : Bool) (w : World) (e : Ending) (w' : World) : Prop := ∃ v, e = .returned (.tuple #[v, .bool b]) ∧ ClOw c v w w' ∧ Ext w w'
theorem ClOw.fr {c : Cl} {v : Value} {w w1 w2 X : World} {b : Nat} (h : ClOw c v w1 w2) (f : Fr (fun k => k = b) w2 X) (hb : b < w1.heap.size) (hw : w.heap.size ≤ w1.heap.size) : ClOw c v w X := by
  obtain ⟨a, ca, b', cb, m, rfl, h1, h2, h3, h4⟩ := h
  have hs := f.size
  exact ⟨a, ca, b', cb, m, rfl, own_mono (fun k hk => ⟨by omega, hk.2⟩) f (fun k hk e => by omega) _ _ h1, h2.mono (fun k hk => ⟨hk.1, by omega⟩) f (fun k hk e => by omega), by omega, by omega⟩
theorem cl_zero {w X : World} (h : w.heap.size ≤ X.heap.size) : ClOw ⟨.mk 0 0 ⟨#[]⟩ [], []⟩ (.agg #[.int .i64 0, .int .i64 0, .string ⟨#[]⟩, .slice none 0 0, .slice none 0 0]) w X :=
  ⟨none, 0, none, 0, w.heap.size, rfl, own_nil _ _ _ _ _ (by decide), OwnS.nil _ _, Nat.le_refl _, h⟩
theorem ret5b_set {P : Program} {fn : Func} {R : Ending → World → Prop} {a : Act} {Y : World} {p q T b : Nat} {u0 u1 u2 u3 u4 v0 v1 v2 v3 v4 y : Value}
    (hres : fn.results = #[.cell p T, .tmp q]) (hT : ∀ w, (isAgg T).run P w = .ok true w) (hs : ∀ w, (sizeOf T).run P w = .ok 5 w) (hp : a.tmps.getD p undef = .pointer (some ⟨b, 0, none⟩)) (hq : a.tmps.getD q undef = y) (hd : a.defers = [])
    (h : BoxC Y b u0 u1 u2 u3 u4)
    (hR : ∀ X, Fr (fun k => k = b) Y X → R (.returned (.tuple #[.agg #[v0, v1, v2, v3, v4], y])) X) :
    bodyPost P fn R .ret a ((((((Y.setCell ⟨b, 0, none⟩ v0).setCell ⟨b, 1, none⟩ v1).setCell ⟨b, 2, none⟩ v2).setCell ⟨b, 3, none⟩ v3)).setCell ⟨b, 4, none⟩ v4) := by
  have h' := (h.setHead v0 v1 v2 v3).setBody v4
  obtain ⟨c0, c1, c2, c3, c4, _⟩ := h'
  refine bodyPost_ret (v := .tuple #[.agg #[v0, v1, v2, v3, v4], y]) ?_ hd (hR _ (Fr.of_grown (set5_grown Y b v0 v1 v2 v3 v4) (fun k e => by cases e; rfl)))
  have hl := load5 (P := P) (T := T) (b := b) hT hs c0 c1 c2 c3 c4
  simp only [results, hres]
  have hp' : a.tmps[p]?.getD undef = .pointer (some ⟨b, 0, none⟩) := by simpa using hp
  have hq' : a.tmps[q]?.getD undef = y := by simpa using hq
  unfold set4 at hl
  simp [hp', hq', asAddr, hl]
end Go.Proofs.Ytognkaebiafgbaa

namespace Go.Proofs.Ytognkaebiafgbaa
open Go.RowKit
set_option linter.unusedVariables false
theorem own_at {F : Nat → Prop} {w : World} {t : Tm} {a : Option Addr} {c : Nat} (h : OwnS F t.kids (.slice a t.kids.length c) w) (hn : t.name.size ≤ 1048576) (hl : t.kids.length ≤ 1048576) :
    Tm.at F w t (.agg #[.int .i64 t.kind, .int .i64 t.n, .string t.name, .slice a t.kids.length c]) := own_flat t a c (own_iff.2 ⟨hn, hl, h⟩)
theorem OwnS.zone {F F' : Nat → Prop} {w : World} {ts : List Tm} {v : Value} (h : OwnS F ts v w) (hF : ∀ b, F b → F' b) : OwnS F' ts v w := h.mono (M := fun _ => False) hF (Fr.refl _ _) (fun _ _ h => h)
theorem own_kids {F : Nat → Prop} {w : World} {t : Tm} {v : Value} (h : Tm.own F w t v) : OwnS F t.kids v w := (own_iff.1 h).2.2
end Go.Proofs.Ytognkaebiafgbaa
