/-
  Clauses whose rows all belong to one owner, no row twice; a list of them that grows by append.
-/
import Derived.Deep.CutBlock
import Derived.Test.YtognkaebiafgbaaGreatMv27
import Derived.Test.YtognkaebiafgbaaGreatMv25
import Derived.Test.YtognkaebiafgbaaGreatMv22
namespace Go.Proofs.YtognkaebiafgbaaGreat
open Go.RowKit
set_option linter.unusedVariables false
theorem info_cl : (Tryz.prog.info? 38).map (fun i => (i.zero, i.size, i.bytes)) = some (some (.agg #[.int .i64 0, .int .i64 0, .string ⟨#[]⟩, .slice none 0 0, .slice none 0 0]), 5, 80) := by kernel_rfl
theorem own_empty5 {w : World} {T b : Nat} (hb : b = w.heap.size) : (w.alloc (.cells #[] T)).ownsRow b T 5 (.slice (some ⟨b, 0, none⟩) 0 0) 0 [] := by
  subst hb
  refine ⟨rfl, .inr ⟨w.heap.size, 0, #[], rfl, Nat.le_refl _, ?_, by omega, by decide, rfl, rfl⟩⟩
  show (w.heap.push _)[w.heap.size]? = _
  simp
def ClP (F : Nat → Prop) (c : Cl) (a : Option Addr) (ca : Nat) (b : Option Addr) (cb : Nat) (w : World) : Prop :=
  c.body.length ≤ 1048576 ∧ ∃ F1 F2 : Nat → Prop, (∀ k, F1 k → F k ∧ ¬ F2 k) ∧ (∀ k, F2 k → F k) ∧ Tm.own F1 w c.head (.slice a c.head.kids.length ca) ∧ OwnS F2 c.body (.slice b c.body.length cb) w
theorem ClP.mono {F F' M : Nat → Prop} {c : Cl} {a b : Option Addr} {ca cb : Nat} {w w' : World} (h : ClP F c a ca b cb w) (hF : ∀ k, F k → F' k) (f : Fr M w w') (hM : ∀ k, F k → ¬ M k) : ClP F' c a ca b cb w' := by
  obtain ⟨hl, F1, F2, h1, h2, h3, h4⟩ := h
  exact ⟨hl, F1, F2, fun k hk => ⟨hF k (h1 k hk).1, (h1 k hk).2⟩, fun k hk => hF k (h2 k hk), own_mono (fun _ h => h) f (fun k hk => hM k (h1 k hk).1) _ _ h3, h4.mono (fun _ h => h) f (fun k hk => hM k (h2 k hk))⟩
theorem ClP.zone {F F' : Nat → Prop} {c : Cl} {a b : Option Addr} {ca cb : Nat} {w : World} (h : ClP F c a ca b cb w) (hF : ∀ k, F k → F' k) : ClP F' c a ca b cb w := h.mono (M := fun _ => False) hF (Fr.refl _ _) (fun _ _ h => h)
theorem ClP.ext {F : Nat → Prop} {c : Cl} {a b : Option Addr} {ca cb : Nat} {w w' : World} (h : ClP F c a ca b cb w) (e : Ext w w') : ClP F c a ca b cb w' := h.mono (M := fun _ => False) (fun _ h => h) (Fr.of_ext e) (fun _ _ h => h)
theorem ClP.bound {F : Nat → Prop} {c : Cl} {a b : Option Addr} {ca cb : Nat} {w : World} (h : ClP F c a ca b cb w) : ClP (fun k => F k ∧ k < w.heap.size) c a ca b cb w := by
  obtain ⟨hl, F1, F2, h1, h2, h3, h4⟩ := h
  exact ⟨hl, fun k => F1 k ∧ k < w.heap.size, fun k => F2 k ∧ k < w.heap.size, fun k hk => ⟨⟨(h1 k hk.1).1, hk.2⟩, fun h => (h1 k hk.1).2 h.1⟩, fun k hk => ⟨h2 k hk.1, hk.2⟩, own_bound _ _ h3, h4.bound⟩
theorem ClP.flat {F : Nat → Prop} {c : Cl} {a b : Option Addr} {ca cb : Nat} {w : World} (h : ClP F c a ca b cb w) :
    Tm.at F w c.head (.agg #[.int .i64 c.head.kind, .int .i64 c.head.n, .string c.head.name, .slice a c.head.kids.length ca]) ∧ Tm.sl F w c.body (.slice b c.body.length cb) := by
  obtain ⟨hl, F1, F2, h1, h2, h3, h4⟩ := h
  exact ⟨Tm.at_mono (fun k hk => (h1 k hk).1) (Agree.refl _) (own_flat _ _ _ h3), Tm.sl_mono (fun k hk => h2 k hk) (Agree.refl _) (h4.app.sl hl)⟩
theorem ClOw.ownP {c : Cl} {v : Value} {w0 w : World} (h : ClOw c v w0 w) (hl : c.body.length ≤ 1048576) : ∃ a ca b cb, v = .agg #[.int .i64 c.head.kind, .int .i64 c.head.n, .string c.head.name, .slice a c.head.kids.length ca, .slice b c.body.length cb] ∧ ClP (fun k => w0.heap.size ≤ k) c a ca b cb w := by
  obtain ⟨a, ca, b, cb, m, rfl, h2, h3, h4, h5⟩ := h
  exact ⟨a, ca, b, cb, rfl, hl, _, _, fun k hk => ⟨hk.1, fun h => by have h1 := hk.2; have h2 := h.1; omega⟩, fun k hk => (by have h1 := hk.1; show w0.heap.size ≤ k; omega), h2, h3⟩
def Cl.oflat (w : World) : List Cl → (Nat → Prop) → List Value → Prop
  | [], _, xs => xs = []
  | c :: cs, F, xs => ∃ (G F2 : Nat → Prop) (a : Option Addr) (ca : Nat) (b : Option Addr) (cb : Nat) (rest : List Value), xs = ccells c a ca b cb ++ rest ∧ (∀ k, G k → F k ∧ ¬ F2 k) ∧ (∀ k, F2 k → F k) ∧ ClP G c a ca b cb w ∧ Cl.oflat w cs F2 rest
theorem coflat_mono {M : Nat → Prop} {w w' : World} (f : Fr M w w') : ∀ (cs : List Cl) (xs : List Value) {F F' : Nat → Prop}, (∀ k, F k → F' k) → (∀ k, F k → ¬ M k) → Cl.oflat w cs F xs → Cl.oflat w' cs F' xs
  | [], xs, _, _, _, _, h => h
  | c :: cs, xs, F, F', hF, hM, h => by
    obtain ⟨G, F2, a, ca, b, cb, rest, h1, h2, h3, h4, h5⟩ := h
    exact ⟨G, F2, a, ca, b, cb, rest, h1, fun k hk => ⟨hF k (h2 k hk).1, (h2 k hk).2⟩, fun k hk => hF k (h3 k hk), h4.mono (fun _ h => h) f (fun k hk => hM k (h2 k hk).1), coflat_mono f cs rest (fun _ h => h) (fun k hk => hM k (h3 k hk)) h5⟩
theorem coflat_bound {w : World} : ∀ (cs : List Cl) (xs : List Value) {F : Nat → Prop}, Cl.oflat w cs F xs → Cl.oflat w cs (fun k => F k ∧ k < w.heap.size) xs
  | [], xs, _, h => h
  | c :: cs, xs, F, h => by
    obtain ⟨G, F2, a, ca, b, cb, rest, h1, h2, h3, h4, h5⟩ := h
    exact ⟨fun k => G k ∧ k < w.heap.size, fun k => F2 k ∧ k < w.heap.size, a, ca, b, cb, rest, h1, fun k hk => ⟨⟨(h2 k hk.1).1, hk.2⟩, fun h => (h2 k hk.1).2 h.1⟩, fun k hk => ⟨h3 k hk.1, hk.2⟩, h4.bound, coflat_bound cs rest h5⟩
theorem coflat_flat {w : World} : ∀ (cs : List Cl) (xs : List Value) {F : Nat → Prop}, Cl.oflat w cs F xs → Cl.flat F w cs xs
  | [], xs, _, h => h
  | c :: cs, xs, F, h => by
    obtain ⟨G, F2, a, ca, b, cb, rest, h1, h2, h3, h4, h5⟩ := h
    have hf := h4.flat
    exact ⟨a, ca, b, cb, rest, h1, ⟨Tm.at_mono (fun k hk => (h2 k hk).1) (Agree.refl _) hf.1, Tm.sl_mono (fun k hk => (h2 k hk).1) (Agree.refl _) hf.2⟩, cflat_mono h3 (Agree.refl _) (coflat_flat cs rest h5)⟩
theorem coflat_snoc {w : World} {c : Cl} {a b : Option Addr} {ca cb : Nat} {G : Nat → Prop} (hc : ClP G c a ca b cb w) : ∀ (cs : List Cl) (xs : List Value) {F : Nat → Prop}, Cl.oflat w cs F xs → (∀ k, F k → ¬ G k) → Cl.oflat w (cs ++ [c]) (fun k => F k ∨ G k) (xs ++ ccells c a ca b cb)
  | [], xs, F, h, _ => by
    have hx : xs = [] := h
    subst hx
    exact ⟨G, fun _ => False, a, ca, b, cb, [], by simp, fun k hk => ⟨.inr hk, fun h => h⟩, fun k hk => hk.elim, hc, rfl⟩
  | d :: cs, xs, F, h, hd => by
    obtain ⟨G1, F2, a1, ca1, b1, cb1, rest, rfl, h2, h3, h4, h5⟩ := h
    exact ⟨G1, fun k => F2 k ∨ G k, a1, ca1, b1, cb1, rest ++ ccells c a ca b cb, by simp, fun k hk => ⟨.inl (h2 k hk).1, fun h => h.elim (h2 k hk).2 (hd k (h2 k hk).1)⟩, fun k hk => hk.elim (fun h => .inl (h3 k h)) .inr, h4, coflat_snoc hc cs rest h5 (fun k hk => hd k (h3 k hk))⟩
def OwnP (F : Nat → Prop) (cs : List Cl) (v : Value) (w : World) : Prop :=
  ∃ xs, w.ownsRow 0 38 5 v cs.length xs ∧ (∀ g, v.ownBlock = some g → F g) ∧ Cl.oflat w cs (fun b => F b ∧ v.ownBlock ≠ some b) xs
theorem OwnP.mono {F F' M : Nat → Prop} {w w' : World} {cs : List Cl} {v : Value} (h : OwnP F cs v w) (hF : ∀ b, F b → F' b) (f : Fr M w w') (hM : ∀ b, F b → ¬ M b) : OwnP F' cs v w' := by
  obtain ⟨xs, h3, h4, h5⟩ := h
  exact ⟨xs, own_fr h3 f (fun g hg => hM g (h4 g hg)), fun g hg => hF g (h4 g hg), coflat_mono f _ _ (fun b hb => ⟨hF b hb.1, hb.2⟩) (fun b hb => hM b hb.1) h5⟩
theorem OwnP.zone {F F' : Nat → Prop} {w : World} {cs : List Cl} {v : Value} (h : OwnP F cs v w) (hF : ∀ b, F b → F' b) : OwnP F' cs v w := h.mono (M := fun _ => False) hF (Fr.refl _ _) (fun _ _ h => h)
theorem OwnP.ext {F : Nat → Prop} {w w' : World} {cs : List Cl} {v : Value} (h : OwnP F cs v w) (e : Ext w w') : OwnP F cs v w' := h.mono (M := fun _ => False) (fun _ h => h) (Fr.of_ext e) (fun _ _ h => h)
theorem OwnP.bound {F : Nat → Prop} {w : World} {cs : List Cl} {v : Value} (h : OwnP F cs v w) : OwnP (fun b => F b ∧ b < w.heap.size) cs v w := by
  obtain ⟨xs, h3, h4, h5⟩ := h
  exact ⟨xs, h3, fun g hg => ⟨h4 g hg, (h3.lt g hg).2⟩, coflat_mono (M := fun _ => False) (Fr.refl _ _) _ _ (fun b hb => ⟨⟨hb.1.1, hb.2⟩, hb.1.2⟩) (fun _ _ h => h) (coflat_bound _ _ h5)⟩
theorem OwnP.nil (F : Nat → Prop) (w : World) : OwnP F [] (.slice none 0 0) w := ⟨[], ⟨rfl, .inl ⟨rfl, rfl⟩⟩, by simp [Value.ownBlock], rfl⟩
theorem OwnP.empty {F : Nat → Prop} {w : World} {b : Nat} (hb : b = w.heap.size) (hz : F b) : OwnP F [] (.slice (some ⟨b, 0, none⟩) 0 0) (w.alloc (.cells #[] 38)) :=
  ⟨[], own_low (own_empty5 hb) (Nat.zero_le _), by intro g hg; simp [Value.ownBlock] at hg; subst hg; exact hz, rfl⟩
theorem OwnP.form {F : Nat → Prop} {cs : List Cl} {v : Value} {w : World} (h : OwnP F cs v w) : ∃ a c, v = .slice a cs.length c := by
  obtain ⟨xs, h, _⟩ := h
  exact own_form h
theorem OwnP.sl {F : Nat → Prop} {cs : List Cl} {v : Value} {w : World} (h : OwnP F cs v w) (hl : cs.length ≤ 1048576) : Cl.sl F w cs v := by
  obtain ⟨xs, ho, hz, hf⟩ := h
  refine Cl.sl_mono ?_ (Agree.refl _) (own_slC ho (coflat_flat _ _ hf) hl)
  rintro b (hb | hb)
  · exact hb.1
  · exact hz b hb
theorem ownP_next {F G : Nat → Prop} {ts : List Cl} {t : Cl} {v nv : Value} {w1 w2 : World} {xs : List Value} {a b : Option Addr} {ca cb : Nat} {o : Obj}
    (how : w1.ownsRow 0 38 5 v ts.length xs) (hz : ∀ g, v.ownBlock = some g → F g) (hfl : Cl.oflat w1 ts (fun b => F b ∧ v.ownBlock ≠ some b) xs)
    (hv1 : ClP G t a ca b cb w1) (hdis : ∀ b, F b → ¬ G b) (hG : ∀ b, G b → b < w1.heap.size) (hFl : ∀ b, F b → b < w1.heap.size)
    (ho2 : w2.ownsRow 0 38 5 nv (ts.length + 1) (xs ++ ccells t a ca b cb)) (hg : (w1.alloc o).grownBy w2 v.ownBlock)
    (hfr : ∀ g, nv.ownBlock = some g → v.ownBlock = some g ∨ (w1.alloc o).heap.size ≤ g) : OwnP (fun b => F b ∨ G b ∨ w1.heap.size ≤ b) (ts ++ [t]) nv w2 := by
  have hs3 : (w1.alloc o).heap.size = w1.heap.size + 1 := by simp
  have f : Fr (fun b => v.ownBlock = some b) w1 w2 := (Fr.alloc w1 o).trans (Fr.of_grown hg (fun k hk => hk))
  refine ⟨xs ++ ccells t a ca b cb, by simpa using ho2, ?_, ?_⟩
  · intro g hgg
    rcases hfr g hgg with h | h
    · exact .inl (hz g h)
    · exact .inr (.inr (by omega))
  · have hne : ∀ b, b < w1.heap.size → v.ownBlock ≠ some b → nv.ownBlock ≠ some b := by
      intro b hb h1 h2
      rcases hfr b h2 with h | h
      · exact h1 h
      · omega
    have hgv : ∀ b, G b → v.ownBlock ≠ some b := fun b hb h => hdis b (hz b h) hb
    have hs := coflat_snoc (hv1.mono (F' := G) (fun b hb => hb) f (fun b hb => hgv b hb)) ts xs (coflat_mono f ts xs (F' := fun b => F b ∧ v.ownBlock ≠ some b) (fun b hb => hb) (fun b hb => hb.2) hfl) (fun b hb => hdis b hb.1)
    refine coflat_mono (M := fun _ => False) (Fr.refl _ _) _ _ ?_ (fun b _ h => h) hs
    rintro b (hb | hb)
    · exact ⟨.inl hb.1, hne b (hFl b hb.1) hb.2⟩
    · exact ⟨.inr (.inl hb), hne b (hG b hb) (hgv b hb)⟩
theorem cell_five (w : World) (t : Cl) (T : Nat) {a b : Option Addr} {ca cb : Nat} (j : Nat) (u : Value) (h : (ccells t a ca b cb)[j]? = some u) :
    (w.alloc (.cells #[.int .i64 t.head.kind, .int .i64 t.head.n, .string t.head.name, .slice a t.head.kids.length ca, .slice b t.body.length cb] T)).cell? ((⟨w.heap.size, 0, none⟩ : Addr).add j) = some u := by
  rw [show (⟨w.heap.size, 0, none⟩ : Addr).add j = ⟨w.heap.size, 0 + j, none⟩ by unfold Addr.add; split <;> simp_all]
  exact cell_new _ _ _ _ _ (by simpa [ccells] using h)
theorem wpList_append_clx {P : Program} {ops : Array Oper} {rest : List Oper} {o : Oper} {a : Act} {w0 w1 : World} {Q : Exit → Act → World → Prop} (X : Nat → Prop)
    (hgd : o.guard = none) (s x : Operand) (ty : TypeId)
    (ho : o.op = .call { callee := .builtin .append, args := #[s, x], argTypes := #[ty, ty] })
    (z : Nat) (i : TypeInfo) (ht : P.underlying ty = some (.slice 38)) (hi : P.info? 38 = some i) (hz : i.zero = some (.agg #[.int .i64 0, .int .i64 0, .string ⟨#[]⟩, .slice none 0 0, .slice none 0 0]))
    (hsize : i.size = 5) (hby : i.bytes = 80)
    (v : Value) (ts : List Cl) (t : Cl) (a2 b2 : Option Addr) (c2 d2 : Nat) (hs : a.eval s = v) (happ : OwnP (fun b => z ≤ b ∧ b < w0.heap.size ∧ ¬ X b) ts v w1) {nb : Nat} (hx : a.eval x = .slice (some ⟨nb, 0, none⟩) 1 1)
    (hv1 : ClP (fun b => w0.heap.size ≤ b ∧ ¬ X b) t a2 c2 b2 d2 w1) (hw : w0.heap.size ≤ w1.heap.size) (hzw : z ≤ w0.heap.size) (hX : ∀ b, X b → b < w1.heap.size)
    (hl : ts.length < 1048576) (hnb : nb = w1.heap.size)
    (h : ∀ av cv w2, OwnP (fun b => z ≤ b ∧ b < w2.heap.size ∧ ¬ X b) (ts ++ [t]) (.slice av (ts.length + 1) cv) w2 → Fr (fun b => z ≤ b ∧ ¬ X b) w1 w2 → wpList P ops Q rest (a.put o.dst (.slice av (ts.length + 1) cv)) w2) :
    wpList P ops Q (o :: rest) a (w1.alloc (.cells #[.int .i64 t.head.kind, .int .i64 t.head.n, .string t.head.name, .slice a2 t.head.kids.length c2, .slice b2 t.body.length d2] 38)) := by
  subst hnb
  obtain ⟨xs, how, hzz, hfl⟩ := happ
  have hb := hv1.bound
  refine wpList_append_fresh hgd s x ty ho 0 38 i _ 5 80 ht hi hz hsize hby rfl (by decide) v ts.length xs hs (own_ext how (Ext.alloc _ _)) ⟨w1.heap.size, 0, none⟩ 1 1 (ccells t a2 c2 b2 d2) hx rfl (fun j u h => cell_five _ _ _ j u h) (by simp [ccells, Value.oneCell']) (by unfold maxLen; omega) (by omega) (by omega) ?_
  intro v2 w2 ho2 hg2 hfr2 _
  obtain ⟨av, cv, rfl⟩ := own_form ho2
  have hn := ownP_next how hzz hfl hb (fun b h1 h2 => by omega) (fun b h => h.2) (fun b h => by omega) ho2 hg2 hfr2
  refine h av cv w2 ((hn.bound).zone (fun b hb => ⟨?_, hb.2, ?_⟩)) ((Fr.alloc _ _).trans (Fr.of_grown hg2 (fun k hk => ⟨(hzz k hk).1, (hzz k hk).2.2⟩)))
  · rcases hb.1 with h | h | h <;> omega
  · rcases hb.1 with h | h | h
    · exact h.2.2
    · exact h.1.2
    · intro hx; have := hX _ hx; omega
end Go.Proofs.YtognkaebiafgbaaGreat

namespace Go.Proofs.YtognkaebiafgbaaGreat
open Go.RowKit
set_option linter.unusedVariables false
def ClM (us ts : List Tm) (c : Cl) (v : Value) (lo hi : Nat) (w : World) : Prop := ∃ a ca b cb m, v = .agg #[.int .i64 c.head.kind, .int .i64 c.head.n, .string c.head.name, .slice a c.head.kids.length ca, .slice b c.body.length cb] ∧
  OwnS (fun k => lo ≤ k ∧ k < m) us (.slice a c.head.kids.length ca) w ∧ OwnS (fun k => m ≤ k ∧ k < hi) ts (.slice b c.body.length cb) w ∧ lo ≤ m ∧ m ≤ hi
theorem ClOw.rows {c : Cl} {v : Value} {w0 w : World} (h : ClOw c v w0 w) : ClM c.head.kids c.body c v w0.heap.size w.heap.size w := by
  obtain ⟨a, ca, b, cb, m, h1, h2, h3, h4, h5⟩ := h
  exact ⟨a, ca, b, cb, m, h1, own_kids h2, h3, h4, h5⟩
theorem ClM.fr {us ts : List Tm} {c : Cl} {v : Value} {lo hi : Nat} {w w' : World} {M : Nat → Prop} (h : ClM us ts c v lo hi w) (f : Fr M w w') (hM : ∀ k, lo ≤ k → k < hi → ¬ M k) : ClM us ts c v lo hi w' := by
  obtain ⟨a, ca, b, cb, m, h1, h2, h3, h4, h5⟩ := h
  exact ⟨a, ca, b, cb, m, h1, h2.mono (fun k hk => hk) f (fun k hk => hM k hk.1 (by have := hk.2; omega)), h3.mono (fun k hk => hk) f (fun k hk => hM k (by have := hk.1; omega) hk.2), h4, h5⟩
theorem ClM.ext {us ts : List Tm} {c : Cl} {v : Value} {lo hi : Nat} {w w' : World} (h : ClM us ts c v lo hi w) (e : Ext w w') : ClM us ts c v lo hi w' := h.fr (M := fun _ => False) (Fr.of_ext e) (fun _ _ _ h => h)
theorem ClM.form {us ts : List Tm} {c : Cl} {v : Value} {lo hi : Nat} {w : World} (h : ClM us ts c v lo hi w) : ∃ a ca b cb, v = .agg #[.int .i64 c.head.kind, .int .i64 c.head.n, .string c.head.name, .slice a c.head.kids.length ca, .slice b c.body.length cb] := by
  obtain ⟨a, ca, b, cb, m, rfl, _⟩ := h
  exact ⟨a, ca, b, cb, rfl⟩
theorem ClM.at {c : Cl} {v : Value} {lo hi : Nat} {w : World} (h : ClM c.head.kids c.body c v lo hi w) (h1 : c.head.name.size ≤ 1048576) (h2 : c.head.kids.length ≤ 1048576) (h3 : c.body.length ≤ 1048576) : Cl.at (fun k => k < hi) w c v := by
  obtain ⟨a, ca, b, cb, m, rfl, q1, q2, q3, q4⟩ := h
  exact ⟨_, _, rfl, Tm.at_mono (fun k hk => by have := hk.2; omega) (Agree.refl _) (own_at q1 h1 h2), Tm.sl_mono (fun k hk => hk.2) (Agree.refl _) (q2.app.sl h3)⟩
def Cl.mk3 (c : Cl) : Nat := 3 * Tm.szL c.head.kids + 3 * Tm.szL c.body
end Go.Proofs.YtognkaebiafgbaaGreat

namespace Go.Proofs.YtognkaebiafgbaaGreat
open Go.RowKit
set_option linter.unusedVariables false
def SpNm (s : ByteArray) (X : Option (List UInt8 × List UInt8)) (w : World) (e : Ending) (w' : World) : Prop :=
  ∃ i, e = .returned (.tuple #[.string (bs ((X.map Prod.fst).getD [])), .int .i64 i]) ∧ Ext w w' ∧ AtR s (X.map Prod.snd) i
def sgS (r : List UInt8) (n : Nat) (s : ByteArray) : Nat := if s.toList.isPrefixOf r = true then max n s.size else n
theorem sgS_le {r : List UInt8} {n : Nat} {s : ByteArray} (h : n ≤ r.length) : sgS r n s ≤ r.length := by
  unfold sgS
  split
  · rename_i hp
    have := (List.isPrefixOf_iff_prefix.1 hp).length_le
    rw [bl_len] at this
    omega
  · exact h
theorem sgS_snoc {r : List UInt8} {ss : List ByteArray} {j : Nat} {x : ByteArray} (h : ss[j]? = some x) : (ss.take (j + 1)).foldl (sgS r) 0 = sgS r ((ss.take j).foldl (sgS r) 0) x := by
  have hj : j < ss.length := by
    apply Decidable.byContradiction
    intro hn
    rw [List.getElem?_eq_none (by omega)] at h
    cases h
  have hx : ss[j] = x := by rw [List.getElem?_eq_getElem hj] at h; exact Option.some.inj h
  rw [List.take_succ_eq_append_getElem hj, List.foldl_append, hx]
  rfl
theorem tw_at {p : UInt8 → Bool} {r : List UInt8} {k : Nat} (hk : k ≤ r.length) (h1 : ∀ c ∈ r.take k, p c = true) (h2 : hdB p (some (r.drop k)) = false) : r.takeWhile p = r.take k ∧ r.dropWhile p = r.drop k := by
  have hr : r = r.take k ++ r.drop k := (List.take_append_drop k r).symm
  have e1 : (r.drop k).takeWhile p = [] := by
    cases h : r.drop k with
    | nil => rfl
    | cons c q =>
      rw [h] at h2
      have hc : p c = false := h2
      rw [List.takeWhile_cons_of_neg (by rw [hc]; decide)]
  have e2 : (r.drop k).dropWhile p = r.drop k := by
    cases h : r.drop k with
    | nil => rfl
    | cons c q =>
      rw [h] at h2
      have hc : p c = false := h2
      rw [List.dropWhile_cons_of_neg (by rw [hc]; decide)]
  refine ⟨?_, ?_⟩
  · conv => lhs; rw [hr]
    rw [List.takeWhile_append_of_pos h1, e1, List.append_nil]
  · conv => lhs; rw [hr]
    rw [List.dropWhile_append_of_pos h1, e2]
theorem tw_more {p : UInt8 → Bool} {r : List UInt8} {k : Nat} (h1 : ∀ c ∈ r.take k, p c = true) (h2 : hdB p (some (r.drop k)) = true) : k < r.length ∧ ∀ c ∈ r.take (k + 1), p c = true := by
  have hl : k < r.length := by
    apply Decidable.byContradiction
    intro hn
    rw [List.drop_eq_nil_of_le (by omega)] at h2
    cases h2
  refine ⟨hl, fun x hx => ?_⟩
  rw [List.take_succ_eq_append_getElem hl] at hx
  rcases List.mem_append.1 hx with hx | hx
  · exact h1 x hx
  · rw [List.mem_singleton.1 hx]
    rw [List.drop_eq_getElem_cons hl] at h2
    exact h2
theorem pre_take {x : ByteArray} {r : List UInt8} (h : x.toList.isPrefixOf r = true) : bs (r.take x.size) = x := by
  obtain ⟨q, hq⟩ := List.isPrefixOf_iff_prefix.1 h
  have : r.take x.size = x.toList := by rw [← hq, ← bl_len, List.take_left]
  rw [this, bs_of]
theorem pre_long {x : ByteArray} {r : List UInt8} (h : r.length < x.size) : x.toList.isPrefixOf r = false := by
  cases e : x.toList.isPrefixOf r with
  | false => rfl
  | true =>
    have := (List.isPrefixOf_iff_prefix.1 e).length_le
    rw [bl_len] at this
    omega
theorem ext_pre {s x : ByteArray} {n : Nat} {r : List UInt8} (hr : s.toList.drop n = r) : ((s.extract n (n + x.size)).toList == x.toList) = x.toList.isPrefixOf r := by
  have e : (s.extract n (n + x.size)).toList = r.take x.size := by
    rw [ByteArray.toList_eq, ByteArray.data_extract, Array.toList_extract, List.extract_eq_take_drop, ← ByteArray.toList_eq, hr, Nat.add_sub_cancel_left]
  rw [e, Bool.eq_iff_iff, beq_iff_eq]
  constructor
  · intro h
    rw [List.isPrefixOf_iff_prefix, ← h]
    exact List.take_prefix _ _
  · intro h
    obtain ⟨q, hq⟩ := List.isPrefixOf_iff_prefix.1 h
    rw [← hq, ← bl_len, List.take_left]
set_option maxRecDepth 100000 in
set_option maxHeartbeats 3000000 in
theorem specl1Name {s : ByteArray} {r : List UInt8} {i : Int} (hs : s.size ≤ 1048576) (hat : AtR s (some r) i) (w : World) :
    Calls Tryz.prog 94 #[.string s, .int .i64 i] w (SpNm s (nameP r) w) := by
  have hrl := hat.len
  obtain ⟨n, rfl, h1, h2⟩ := hat.good
  have H2 := Lib.hid h2
  clear h2 hat
  go_enter Tryz.func94, Tryz.ntmps94
  go_wp2_with fail
  go_loopw [6] (fun ev wr => ∃ k : Nat, k ≤ r.length ∧ ev = .int .i64 ((n + k : Nat) : Int) ∧ Hid (∀ c ∈ r.take k, smallB c = true) ∧ Hid (Ext w wr)) (fun ev _ => s.size + 1 - (intOf ev).toNat)
  case atStart => exact ⟨0, Nat.zero_le _, rfl, Lib.hid (by simp), Lib.hid (Ext.refl _)⟩
  case round =>
    obtain ⟨k, hk, rfl, HA, HE⟩ := hrel
    have hAt := AtR.mk (s := s) (n := n + k) (r := r.drop k) (by omega) (by rw [← List.drop_drop, H2.out])
    have SM := smallX hAt wr hs
    have HAt := Lib.hid hAt
    clear hAt
    cases hsm : hdB smallB (some (r.drop k))
    · rw [hsm] at SM
      have SM := Lib.hid SM
      have HTW := Lib.hid (tw_at hk HA.out hsm)
      have HT : Hid ((r.takeWhile smallB).length = k) := Lib.hid (by rw [HTW.out.1, List.length_take]; omega)
      clear hsm HA
      by_cases h6 : 6 < k
      · have HX : Hid (nameP r = none) := Lib.hid (by unfold nameP; rw [HT.out, if_pos h6])
        have c1 : (n : Int) + 6 < ((n + k : Nat) : Int) := by omega
        go_wp2_with fail
        refine SM.out.mono ?_
        rintro e w2 ⟨rfl, e2⟩
        have E2 := Lib.hid (HE.out.trans e2)
        clear e2
        go_wp2_with fail
        go_ret2
        rw [HX.out]
        exact ⟨-1, rfl, E2.out, AtR.no (by decide) (by decide)⟩
      · have c1 : ¬ (n : Int) + 6 < ((n + k : Nat) : Int) := by omega
        by_cases h0 : k = 0
        · subst h0
          go_wp2_with fail
          refine SM.out.mono ?_
          rintro e w2 ⟨rfl, e2⟩
          have E2 := Lib.hid (HE.out.trans e2)
          clear e2
          go_wp2_with fail
          refine (specl1Signs _).mono ?_
          rintro e w3 ⟨v, rfl, hv, e3⟩
          obtain ⟨av, cap, rfl, v1, v2, v3, v4⟩ := hv
          have V4 := Lib.hid v4
          have E3 := Lib.hid (E2.out.trans e3)
          clear e3 v4
          go_wp2_with fail
          go_loopw [7, 9] (fun q i wr => ∃ j m : Nat, j ≤ signs.length ∧ i = .int .i64 j ∧ q = .string (bs (r.take m)) ∧ Hid ((signs.take j).foldl (sgS r) 0 = m) ∧ m ≤ r.length ∧ Hid (Ext w3 wr)) (fun _ i _ => signs.length - (intOf i).toNat)
          case atStart => exact ⟨0, 0, Nat.zero_le _, rfl, rfl, Lib.hid rfl, Nat.zero_le _, Lib.hid (Ext.refl _)⟩
          case round =>
            obtain ⟨j, m, hj, rfl, rfl, HM, hm, HE3⟩ := hrel
            by_cases hjl : j < signs.length
            · rcases V4.out with h4 | ⟨bk, off, rfl, h5⟩
              · rw [h4] at hjl; simp at hjl
              · obtain ⟨x, hx⟩ : ∃ x, signs[j]? = some x := ⟨signs[j], by simp [hjl]⟩
                have hc := HE3.out.cell (h5 j x hx)
                have kc := cell_regrown hc
                have HS1 := Lib.hid (sgS_snoc (r := r) hx)
                have hxs := sgS_le (r := r) (n := m) (s := x) hm
                have hx3 : x.size ≤ 3 := (show ∀ y ∈ signs, y.size ≤ 3 by decide) x (List.mem_of_getElem? hx)
                have hbm : ((bs (r.take m)).size : Int) = m := by rw [bs_size, List.length_take]; omega
                rw [HM.out] at HS1
                clear hx h5
                by_cases hfit : n + x.size ≤ s.size
                · have hcmp := ext_pre (x := x) H2.out
                  have c2 : (n : Int) + (x.size : Int) ≤ (s.size : Int) := by omega
                  cases hp : x.toList.isPrefixOf r
                  · rw [hp] at hcmp
                    have hsg : sgS r m x = m := by unfold sgS; rw [if_neg (by rw [hp]; decide)]
                    have HN := Lib.hid (show (signs.take (j + 1)).foldl (sgS r) 0 = m by rw [HS1.out, hsg])
                    clear hp hsg
                    go_wp2_with fail
                    refine region_ext (by kernel_rfl) (by kernel_rfl) ?_
                    repeat (go_big_quiet_step (fail))
                    refine wpQuiet_nil ?_
                    intro w4 e4
                    have hc4 := e4.cell hc
                    go_wp2_with fail
                    exact ⟨⟨j + 1, m, by omega, by go_num, rfl, HN, hm, Lib.hid (HE3.out.trans e4)⟩, by simp [intOf]; omega⟩
                  · rw [hp] at hcmp
                    have hpt := pre_take hp
                    have hsg : sgS r m x = max m x.size := by unfold sgS; rw [if_pos hp]
                    by_cases hlen : m < x.size
                    · have HN := Lib.hid (show (signs.take (j + 1)).foldl (sgS r) 0 = x.size by rw [HS1.out, hsg]; omega)
                      have hxr : x.size ≤ r.length := by rw [hsg] at hxs; omega
                      have hd : decide (((bs (r.take m)).size : Int) < (x.size : Int)) = true := by rw [hbm]; exact decide_eq_true (by omega)
                      have hd2 : (bs (r.take m)).size < x.size := by omega
                      have HPT := Lib.hid hpt
                      clear hp hsg hpt hbm
                      go_wp2_with fail
                      refine region_ext (by kernel_rfl) (by kernel_rfl) ?_
                      repeat (go_big_quiet_step (fail))
                      refine wpQuiet_nil ?_
                      intro w4 e4
                      have hc4 := e4.cell hc
                      go_wp2_with fail
                      exact ⟨⟨j + 1, x.size, by omega, by go_num, (by rw [HPT.out]), HN, hxr, Lib.hid (HE3.out.trans e4)⟩, by simp [intOf]; omega⟩
                    · have HN := Lib.hid (show (signs.take (j + 1)).foldl (sgS r) 0 = m by rw [HS1.out, hsg]; omega)
                      have hd : decide (((bs (r.take m)).size : Int) < (x.size : Int)) = false := by rw [hbm]; exact decide_eq_false (by omega)
                      have hd2 : ¬ (bs (r.take m)).size < x.size := by omega
                      clear hp hsg hpt hbm
                      go_wp2_with fail
                      refine region_ext (by kernel_rfl) (by kernel_rfl) ?_
                      repeat (go_big_quiet_step (fail))
                      refine wpQuiet_nil ?_
                      intro w4 e4
                      have hc4 := e4.cell hc
                      go_wp2_with fail
                      exact ⟨⟨j + 1, m, by omega, by go_num, rfl, HN, hm, Lib.hid (HE3.out.trans e4)⟩, by simp [intOf]; omega⟩
                · have c2 : decide ((n : Int) + (x.size : Int) ≤ (s.size : Int)) = false := decide_eq_false (by omega)
                  have hsg : sgS r m x = m := by unfold sgS; rw [if_neg (by rw [pre_long (by omega)]; decide)]
                  have HN := Lib.hid (show (signs.take (j + 1)).foldl (sgS r) 0 = m by rw [HS1.out, hsg])
                  clear hsg
                  go_wp2_with fail
                  refine region_ext (by kernel_rfl) (by kernel_rfl) ?_
                  repeat (go_big_quiet_step (fail))
                  refine wpQuiet_nil ?_
                  intro w4 e4
                  have hc4 := e4.cell hc
                  go_wp2_with fail
                  exact ⟨⟨j + 1, m, by omega, by go_num, rfl, HN, hm, Lib.hid (HE3.out.trans e4)⟩, by simp [intOf]; omega⟩
            · have hm' : signN r = m := by
                have := HM.out
                rw [List.take_of_length_le (by omega)] at this
                exact this
              by_cases hm0 : m = 0
              · subst hm0
                have HX : Hid (nameP r = none) := Lib.hid (by unfold nameP; rw [HT.out, if_neg (by omega), if_neg (by omega), if_pos hm'])
                have hbe : (bs []).toList.isEmpty = true := by rw [bs_list]; rfl
                have hbe2 : (bs []).toList = [] := bs_list _
                have E4 := Lib.hid (E3.out.trans HE3.out)
                clear hm'
                go_wp2_with fail
                go_ret2
                rw [HX.out]
                exact ⟨-1, rfl, E4.out, AtR.no (by decide) (by decide)⟩
              · have HX : Hid (nameP r = some (r.take m, r.drop m)) := Lib.hid (by unfold nameP; rw [HT.out, if_neg (by omega), if_neg (by omega), if_neg (by omega), hm'])
                have hbe2 : ¬ (bs (r.take m)).toList = [] := by
                  rw [bs_list]
                  intro e
                  have h9 : (r.take m).length = m := by rw [List.length_take]; omega
                  rw [e] at h9
                  exact hm0 h9.symm
                have hbe : (bs (r.take m)).toList.isEmpty = false := by
                  cases h : (bs (r.take m)).toList with
                  | nil => exact absurd h hbe2
                  | cons a b => rfl
                have hbm : ((bs (r.take m)).size : Int) = m := by rw [bs_size, List.length_take]; omega
                have E4 := Lib.hid (E3.out.trans HE3.out)
                have HA4 := Lib.hid (show AtR s (some (r.drop m)) ((n : Int) + m) from (by
                  rw [show (n : Int) + (m : Int) = ((n + m : Nat) : Int) by omega]
                  exact AtR.mk (by omega) (by rw [← List.drop_drop, H2.out])))
                clear hm'
                go_wp2_with fail
                go_ret2
                rw [HX.out]
                exact ⟨(n : Int) + m, by first | rfl | simp, E4.out, HA4.out⟩
        · have HX : Hid (nameP r = some (r.take k, r.drop k)) := Lib.hid (by unfold nameP; rw [HT.out, if_neg h6, if_pos (by omega), HTW.out.1, HTW.out.2])
          have hex : s.extract n (n + k) = bs (r.take k) := ext_bs' (l := r.take k) (r := r.drop k) (by rw [H2.out, List.take_append_drop]) (by rw [List.length_take]; omega)
          have HEX := Lib.hid hex
          clear hex
          have c3 : (n : Int) < ((n + k : Nat) : Int) := by omega
          have hkc : n + k ≤ s.size := by omega
          go_wp2_with fail
          refine SM.out.mono ?_
          rintro e w2 ⟨rfl, e2⟩
          have E2 := Lib.hid (HE.out.trans e2)
          clear e2
          go_wp2_with fail
          go_ret2
          rw [HX.out]
          refine ⟨(n : Int) + (k : Int), ?_, E2.out, ?_⟩
          · show Ending.returned (.tuple #[.string (s.extract n (n + k)), .int .i64 ((n : Int) + (k : Int))]) = _
            rw [HEX.out]
            rfl
          · rw [show (n : Int) + (k : Int) = ((n + k : Nat) : Int) by omega]
            exact HAt.out
    · rw [hsm] at SM
      have SM := Lib.hid SM
      obtain ⟨hkl, hN⟩ := tw_more HA.out hsm
      have HN := Lib.hid hN
      have hkc : n + k < s.size := by omega
      clear hsm hN HA
      go_wp2_with fail
      refine SM.out.mono ?_
      rintro e w2 ⟨rfl, e2⟩
      have E2 := Lib.hid (HE.out.trans e2)
      clear e2
      go_wp2_with fail
      exact ⟨⟨k + 1, by omega, by go_num, HN, E2⟩, by simp [intOf]; omega⟩
end Go.Proofs.YtognkaebiafgbaaGreat
