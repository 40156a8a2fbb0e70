/-
  append of a term that shares nothing: the step inside a drawn region and in a plain list; the loop over a term's arguments whose results share nothing.
-/
import Derived.Test.YtdelhgodhkbjdaaMg22
import Derived.Test.YtdelhgodhkbjdaaMg14
namespace Go.Proofs.Ytdelhgodhkbjdaa
open Go.RowKit
set_option linter.unusedVariables false

/-- append of one term inside a region that draws its order: all in zone Z from some block on -/
theorem step_append_ow {P : Program} {ops : Array Oper} {o : Oper} {a : Act} {w0 w1 : World} {K : Act → World → Prop} {Q : Exit → Act → World → Prop} {E : Prop}
    (hgd : o.guard = none) (s x : Operand) (ty : TypeId)
    (ho : o.op = .call { callee := .builtin .append, args := #[s, x], argTypes := #[ty, ty] })
    (z : Nat) (i : TypeInfo) (ht : P.underlying ty = some (.slice 25)) (hi : P.info? 25 = some i) (hz : i.zero = some (.agg #[.int .i64 0, .int .i64 0, .string ⟨#[]⟩, .slice none 0 0]))
    (hsize : i.size = 4) (hby : i.bytes = 56)
    (v : Value) (ts : List Tm) (t : Tm) (a2 : Option Addr) (c2 : Nat) (hs : a.eval s = v) (happ : OwnS (fun b => z ≤ b ∧ b < w0.heap.size) ts v w1) {nb : Nat} (hx : a.eval x = .slice (some ⟨nb, 0, none⟩) 1 1)
    (hv1 : Tm.own (fun b => w0.heap.size ≤ b) w1 t (.slice a2 t.kids.length c2)) (hw : w0.heap.size ≤ w1.heap.size) (hzw : z ≤ w0.heap.size)
    (hl : ts.length < 1048576) (hnb : nb = w1.heap.size)
    (h : ∀ av cv w2, OwnS (fun b => z ≤ b ∧ b < w2.heap.size) (ts ++ [t]) (.slice av (ts.length + 1) cv) w2 → Fr (fun b => z ≤ b) w1 w2 → K (a.put o.dst (.slice av (ts.length + 1) cv)) w2) :
    if Region.wanted o (yielded ops a.tmps) = true then Oper.wp P o a (w1.alloc (.cells #[.int .i64 t.kind, .int .i64 t.n, .string t.name, .slice a2 t.kids.length c2] 25)) K Q else E := by
  subst hnb
  obtain ⟨xs, how, hzz, hfl⟩ := happ
  have hb := own_bound _ _ hv1
  refine step_append_fresh hgd s x ty ho 0 25 i _ 4 56 ht hi hz hsize hby rfl (by decide) v ts.length xs hs (own_ext how (Ext.alloc _ _)) ⟨w1.heap.size, 0, none⟩ 1 1 (tcells t a2 c2) hx rfl (fun j u h => cell_four _ _ _ j u h) (by simp [tcells, Value.oneCell']) (by unfold maxLen; omega) (by omega) (by omega) ?_
  intro v2 w2 ho2 hg2 hfr2
  obtain ⟨av, cv, rfl⟩ := own_form ho2
  have hn := ownS_next how hzz hfl hb (fun b h1 h2 => by omega) (fun b h => h.2) (fun b h => by omega) ho2 hg2 hfr2
  refine h av cv w2 ((hn.bound).mono (M := fun _ => False) (fun b hb => ⟨?_, hb.2⟩) (Fr.refl _ _) (fun _ _ h => h)) ((Fr.alloc _ _).trans (Fr.of_grown hg2 (fun k hk => (hzz k hk).1)))
  rcases hb.1 with h | h | h <;> omega

/-- .. in a plain list -/
theorem wpList_append_ow {P : Program} {ops : Array Oper} {rest : List Oper} {o : Oper} {a : Act} {w0 w1 : World} {Q : Exit → Act → World → Prop}
    (hgd : o.guard = none) (s x : Operand) (ty : TypeId)
    (ho : o.op = .call { callee := .builtin .append, args := #[s, x], argTypes := #[ty, ty] })
    (z : Nat) (i : TypeInfo) (ht : P.underlying ty = some (.slice 25)) (hi : P.info? 25 = some i) (hz : i.zero = some (.agg #[.int .i64 0, .int .i64 0, .string ⟨#[]⟩, .slice none 0 0]))
    (hsize : i.size = 4) (hby : i.bytes = 56)
    (v : Value) (ts : List Tm) (t : Tm) (a2 : Option Addr) (c2 : Nat) (hs : a.eval s = v) (happ : OwnS (fun b => z ≤ b ∧ b < w0.heap.size) ts v w1) {nb : Nat} (hx : a.eval x = .slice (some ⟨nb, 0, none⟩) 1 1)
    (hv1 : Tm.own (fun b => w0.heap.size ≤ b) w1 t (.slice a2 t.kids.length c2)) (hw : w0.heap.size ≤ w1.heap.size) (hzw : z ≤ w0.heap.size)
    (hl : ts.length < 1048576) (hnb : nb = w1.heap.size)
    (h : ∀ av cv w2, OwnS (fun b => z ≤ b ∧ b < w2.heap.size) (ts ++ [t]) (.slice av (ts.length + 1) cv) w2 → Fr (fun b => z ≤ b) w1 w2 → wpList P ops Q rest (a.put o.dst (.slice av (ts.length + 1) cv)) w2) :
    wpList P ops Q (o :: rest) a (w1.alloc (.cells #[.int .i64 t.kind, .int .i64 t.n, .string t.name, .slice a2 t.kids.length c2] 25)) := by
  subst hnb
  obtain ⟨xs, how, hzz, hfl⟩ := happ
  have hb := own_bound _ _ hv1
  refine wpList_append_fresh hgd s x ty ho 0 25 i _ 4 56 ht hi hz hsize hby rfl (by decide) v ts.length xs hs (own_ext how (Ext.alloc _ _)) ⟨w1.heap.size, 0, none⟩ 1 1 (tcells t a2 c2) hx rfl (fun j u h => cell_four _ _ _ j u h) (by simp [tcells, Value.oneCell']) (by unfold maxLen; omega) (by omega) (by omega) ?_
  intro v2 w2 ho2 hg2 hfr2 _
  obtain ⟨av, cv, rfl⟩ := own_form ho2
  have hn := ownS_next how hzz hfl hb (fun b h1 h2 => by omega) (fun b h => h.2) (fun b h => by omega) ho2 hg2 hfr2
  refine h av cv w2 ((hn.bound).mono (M := fun _ => False) (fun b hb => ⟨?_, hb.2⟩) (Fr.refl _ _) (fun _ _ h => h)) ((Fr.alloc _ _).trans (Fr.of_grown hg2 (fun k hk => (hzz k hk).1)))
  rcases hb.1 with h | h | h <;> omega

/-- between the rounds of a loop that appends to the list of a box O; R: the box of the result -/
structure KidO (w : World) (O R z : Nat) (ts : List Tm) (u0 u1 u2 : Value) (av : Option Addr) (cv : Nat) (wr : World) : Prop where
  app : OwnS (fun b => z ≤ b ∧ b < wr.heap.size) ts (.slice av ts.length cv) wr
  ext : Ext w wr
  box : BoxT wr O u0 u1 u2 (.slice av ts.length cv)
  res : BoxT wr R (.int .i64 0) (.int .i64 0) (.string ⟨#[]⟩) (.slice none 0 0)
theorem BoxT.set3 {w : World} {b : Nat} {v0 v1 v2 v3 : Value} (h : BoxT w b v0 v1 v2 v3) (u : Value) : BoxT (w.setCell ⟨b, 3, none⟩ u) b v0 v1 v2 u := by
  obtain ⟨c0, c1, c2, c3, f0, f1, f2, f3⟩ := h
  exact ⟨cell_off (by decide) c0, cell_off (by decide) c1, cell_off (by decide) c2, cell_same c3, by rw [World.frozen?_setCell]; exact f0, by rw [World.frozen?_setCell]; exact f1, by rw [World.frozen?_setCell]; exact f2, by rw [World.frozen?_setCell]; exact f3⟩
theorem KidO.next {w wr w1 w2 : World} {O R z : Nat} {ts : List Tm} {t : Tm} {u0 u1 u2 : Value} {av av2 : Option Addr} {cv cv2 : Nat} (h : KidO w O R z ts u0 u1 u2 av cv wr) (hO : w.heap.size ≤ O) (hOz : O < z) (hRz : R < z) (hR : R ≠ O) (e1 : Ext wr w1)
    (hA : OwnS (fun b => z ≤ b ∧ b < w2.heap.size) (ts ++ [t]) (.slice av2 (ts.length + 1) cv2) w2) (hf : Fr (fun b => z ≤ b) w1 w2) : KidO w O R z (ts ++ [t]) u0 u1 u2 av2 cv2 (w2.setCell ⟨O, 3, none⟩ (.slice av2 (ts.length + 1) cv2)) := by
  have hlen : (ts ++ [t]).length = ts.length + 1 := by simp
  refine ⟨?_, ?_, ?_, ?_⟩
  · rw [hlen]
    exact hA.mono (M := fun k => k = O) (fun b hb => ⟨hb.1, by simpa [World.setCell] using hb.2⟩) (Fr.setCell _ rfl) (fun b hb h => by omega)
  · exact ((Fr.of_ext (M := fun b => w.heap.size ≤ b) (h.ext.trans e1)).trans ((hf.mono (fun k _ h => by omega)).trans (Fr.setCell _ hO))).toExt (fun k hk h => by omega)
  · rw [hlen]
    exact ((h.box.ext e1).fr hf (by omega)).set3 _
  · exact ((h.res.ext e1).fr hf (by omega)).fr (M := fun k => k = O) (Fr.setCell _ rfl) hR

end Go.Proofs.Ytdelhgodhkbjdaa
