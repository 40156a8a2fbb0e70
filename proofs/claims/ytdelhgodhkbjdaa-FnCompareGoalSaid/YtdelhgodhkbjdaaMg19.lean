/-
  What is known of a general term's variables: as a row of terms (the reference), as a map (the program).
-/
import Derived.Maps.Own
import Derived.Maps.OwnSet
import Derived.Maps.OwnOps
import Derived.Maps.Views
import Derived.Test.YtdelhgodhkbjdaaMg14
import Derived.Test.YtdelhgodhkbjdaaMg17
namespace Go.Proofs.Ytdelhgodhkbjdaa
open Go.RowKit Go.Maps
set_option linter.unusedVariables false

/-- a term's cells where its row's block is written elsewhere -/
theorem cells_keep {S : Nat → Prop} {w w' : World} {b o : Nat} {t : Tm} (h : Tm.cells S w b o t) (ha : Agree S w w') (hc : ∀ j v, j < 4 → w.cell? ⟨b, o + j, none⟩ = some v → w'.cell? ⟨b, o + j, none⟩ = some v) : Tm.cells S w' b o t := by
  obtain ⟨sv, h1, h2, h3, h4, h5, h6⟩ := Tm.cells_iff.1 h
  exact Tm.cells_iff.2 ⟨sv, hc 0 _ (by omega) h1, hc 1 _ (by omega) h2, hc 2 _ (by omega) h3, hc 3 _ (by omega) h4, h5, Tm.sl_mono (fun _ h => h) ha h6⟩
/-- the world behind the store of four cells in a row -/
def set4o (Y : World) (b a : Nat) (v0 v1 v2 v3 : Value) : World := (((Y.setCell ⟨b, a, none⟩ v0).setCell ⟨b, a + 1, none⟩ v1).setCell ⟨b, a + 2, none⟩ v2).setCell ⟨b, a + 3, none⟩ v3
theorem set4o_grown (Y : World) (b a : Nat) (v0 v1 v2 v3 : Value) : Y.grownBy (set4o Y b a v0 v1 v2 v3) (some b) :=
  grown_trans (grown_trans (grown_trans (grown_setCell _ _ _ _) (grown_setCell _ _ _ _)) (grown_setCell _ _ _ _)) (grown_setCell _ _ _ _)
theorem set4o_cells {Y : World} {b a : Nat} {u0 u1 u2 u3 : Value} (v0 v1 v2 v3 : Value) (h0 : Y.cell? ⟨b, a, none⟩ = some u0) (h1 : Y.cell? ⟨b, a + 1, none⟩ = some u1) (h2 : Y.cell? ⟨b, a + 2, none⟩ = some u2) (h3 : Y.cell? ⟨b, a + 3, none⟩ = some u3) :
    (set4o Y b a v0 v1 v2 v3).cell? ⟨b, a, none⟩ = some v0 ∧ (set4o Y b a v0 v1 v2 v3).cell? ⟨b, a + 1, none⟩ = some v1 ∧ (set4o Y b a v0 v1 v2 v3).cell? ⟨b, a + 2, none⟩ = some v2 ∧ (set4o Y b a v0 v1 v2 v3).cell? ⟨b, a + 3, none⟩ = some v3 :=
  ⟨cell_off (by omega) (cell_off (by omega) (cell_off (by omega) (cell_same h0))),
   cell_off (by omega) (cell_off (by omega) (cell_same (cell_off (by omega) h1))),
   cell_off (by omega) (cell_same (cell_off (by omega) (cell_off (by omega) h2))),
   cell_same (cell_off (by omega) (cell_off (by omega) (cell_off (by omega) h3)))⟩
theorem set4o_other {Y : World} {b a i : Nat} {u : Value} (v0 v1 v2 v3 : Value) (h : Y.cell? ⟨b, i, none⟩ = some u) (hi : i < a ∨ a + 4 ≤ i) : (set4o Y b a v0 v1 v2 v3).cell? ⟨b, i, none⟩ = some u :=
  cell_off (by omega) (cell_off (by omega) (cell_off (by omega) (cell_off (by omega) h)))
theorem set4o_frozen {Y : World} {b a : Nat} (v0 v1 v2 v3 : Value) (p : Addr) : (set4o Y b a v0 v1 v2 v3).frozen? p = Y.frozen? p := by
  unfold set4o
  rw [World.frozen?_setCell, World.frozen?_setCell, World.frozen?_setCell, World.frozen?_setCell]

/-- block kb is a row of 26 terms -/
def Kn (S : Nat → Prop) (w : World) (kb : Nat) (K : List Tm) : Prop :=
  ¬ S kb ∧ K.length = 26 ∧ ∀ i t, K[i]? = some t → Tm.cells S w kb (i * 4) t ∧ ∀ j, j < 4 → w.frozen? ⟨kb, i * 4 + j, none⟩ = false
theorem Kn.lt {S : Nat → Prop} {w : World} {kb : Nat} {K : List Tm} (h : Kn S w kb K) : kb < w.heap.size := by
  obtain ⟨_, hl, h⟩ := h
  obtain ⟨t, ht⟩ := getk (ts := K) (k := 0) (by omega)
  obtain ⟨sv, h1, _⟩ := Tm.cells_iff.1 (h 0 t ht).1
  exact block_lt_of_cell h1
theorem Kn.fr {S M : Nat → Prop} {w w' : World} {kb : Nat} {K : List Tm} (h : Kn S w kb K) (f : Fr M w w') (hM : ∀ k, M k → ¬ S k ∧ k ≠ kb) : Kn S w' kb K := by
  have hlt := h.lt
  obtain ⟨h0, hl, h⟩ := h
  refine ⟨h0, hl, fun i t ht => ⟨cells_keep (h i t ht).1 (f.agree (fun k hk hm => (hM k hm).1 hk)) (fun j v _ hc => f.cell (fun hm => (hM _ hm).2 rfl) hc), fun j hj => f.frozen hlt (fun hm => (hM _ hm).2 rfl) ((h i t ht).2 j hj)⟩⟩
theorem Kn.ext {S : Nat → Prop} {w w' : World} {kb : Nat} {K : List Tm} (h : Kn S w kb K) (f : Ext w w') : Kn S w' kb K := h.fr (M := fun _ => False) (Fr.of_ext f) (fun _ h => h.elim)
/-- the cells of one variable -/
theorem Kn.look {S : Nat → Prop} {w : World} {kb : Nat} {K : List Tm} (h : Kn S w kb K) {n : Int} (hn : 0 ≤ n ∧ n ≤ 25) : ∃ a c, w.cell? ⟨kb, n.toNat * 4, none⟩ = some (.int .i64 (lookK K n).kind) ∧ w.cell? ⟨kb, n.toNat * 4 + 1, none⟩ = some (.int .i64 (lookK K n).n) ∧
    w.cell? ⟨kb, n.toNat * 4 + 2, none⟩ = some (.string (lookK K n).name) ∧ w.cell? ⟨kb, n.toNat * 4 + 3, none⟩ = some (.slice a (lookK K n).kids.length c) ∧
    Tm.at S w (lookK K n) (.agg #[.int .i64 (lookK K n).kind, .int .i64 (lookK K n).n, .string (lookK K n).name, .slice a (lookK K n).kids.length c]) ∧
    w.frozen? ⟨kb, n.toNat * 4, none⟩ = false ∧ w.frozen? ⟨kb, n.toNat * 4 + 1, none⟩ = false ∧ w.frozen? ⟨kb, n.toNat * 4 + 2, none⟩ = false ∧ w.frozen? ⟨kb, n.toNat * 4 + 3, none⟩ = false := by
  obtain ⟨h0, hl, h⟩ := h
  obtain ⟨t, ht⟩ := getk (ts := K) (k := n.toNat) (by omega)
  have e : lookK K n = t := by unfold lookK; rw [ht]; rfl
  rw [e]
  obtain ⟨hc, hf⟩ := h _ t ht
  obtain ⟨a, c, c0, c1, c2, c3, c4⟩ := Tm.at_of_cells hc
  exact ⟨a, c, c0, c1, c2, c3, c4, hf 0 (by omega), hf 1 (by omega), hf 2 (by omega), hf 3 (by omega)⟩
theorem Kn.set {S : Nat → Prop} {w : World} {kb : Nat} {K : List Tm} (h : Kn S w kb K) {n : Int} (hn : 0 ≤ n ∧ n ≤ 25) {u : Tm} {a : Option Addr} {c : Nat} (hu : Tm.at S w u (.agg #[.int .i64 u.kind, .int .i64 u.n, .string u.name, .slice a u.kids.length c])) :
    Kn S (set4o w kb (n.toNat * 4) (.int .i64 u.kind) (.int .i64 u.n) (.string u.name) (.slice a u.kids.length c)) kb (K.set n.toNat u) := by
  obtain ⟨b0, d0, k0, k1, k2, k3, _⟩ := h.look hn
  obtain ⟨h0, hl, h⟩ := h
  have hag : Agree S w (set4o w kb (n.toNat * 4) (.int .i64 u.kind) (.int .i64 u.n) (.string u.name) (.slice a u.kids.length c)) := Agree.grown (set4o_grown _ _ _ _ _ _ _) (fun b e hb => by cases e; exact h0 hb)
  refine ⟨h0, by simp [hl], fun i t ht => ⟨?_, fun j hj => ?_⟩⟩
  · rw [List.getElem?_set] at ht
    split at ht
    · rename_i e
      subst e
      rw [if_pos (by omega)] at ht
      cases ht
      obtain ⟨z0, z1, z2, z3⟩ := set4o_cells (.int .i64 u.kind) (.int .i64 u.n) (.string u.name) (.slice a u.kids.length c) k0 k1 k2 k3
      obtain ⟨hs, sv, e, hk⟩ := Tm.at_iff.1 hu
      simp at e
      subst e
      exact Tm.cells_iff.2 ⟨_, z0, z1, z2, z3, hs, Tm.sl_mono (fun _ h => h) hag hk⟩
    · rename_i e
      exact cells_keep (h i t ht).1 hag (fun j v hj hc => set4o_other _ _ _ _ hc (by omega))
  · rw [set4o_frozen]
    have hi : i < K.length := by have := (List.getElem?_eq_some_iff.1 ht).1; simpa using this
    obtain ⟨t', ht'⟩ := getk hi
    exact (h i t' ht').2 j hj

/-- a map's element reads as itself -/
def heldR (v : Value) : Option (DataW Value × List MemPlace) := some (.held v, [])
def zeroV : Value := .agg #[.int .i64 0, .int .i64 0, .string ⟨#[]⟩, .slice none 0 0]
/-- what map D holds under a number -/
def look1 (S : Nat → Prop) (w : World) (D : DataW Value) (n : Int) (t : Tm) : Prop :=
  if t.kind = 0 then Maps.has D (.int .i64 n) = false else Maps.has D (.int .i64 n) = true ∧ ∃ v, (∀ z, D.atKey (.int .i64 n) z = .held v) ∧ Tm.at S w t v
/-- block b is a map of at most m entries that knows K -/
def Km (S : Nat → Prop) (w : World) (b m : Nat) (K : List Tm) : Prop :=
  ¬ S b ∧ K.length = 26 ∧ ∃ D, w.ownsMap Try.prog 3 heldR b m D ∧ IsMap D ∧ ∀ n : Int, 0 ≤ n ∧ n ≤ 25 → look1 S w D n (lookK K n)
theorem Km.lt {S : Nat → Prop} {w : World} {b m : Nat} {K : List Tm} (h : Km S w b m K) : b < w.heap.size := h.2.2.choose_spec.1.lt
theorem Km.mono {S : Nat → Prop} {w : World} {b m m' : Nat} {K : List Tm} (h : Km S w b m K) (hm : m ≤ m') : Km S w b m' K := by
  obtain ⟨h0, hl, D, h1, h2⟩ := h
  exact ⟨h0, hl, D, h1.mono hm, h2⟩
theorem look1.agree {S : Nat → Prop} {w w' : World} {D : DataW Value} {n : Int} {t : Tm} (h : look1 S w D n t) (ha : Agree S w w') : look1 S w' D n t := by
  unfold look1 at h ⊢
  split
  · rename_i e; rw [if_pos e] at h; exact h
  · rename_i e
    rw [if_neg e] at h
    obtain ⟨h1, v, h2, h3⟩ := h
    exact ⟨h1, v, h2, Tm.at_mono (fun _ h => h) ha h3⟩
theorem Km.fr {S M : Nat → Prop} {w w' : World} {b m : Nat} {K : List Tm} (h : Km S w b m K) (f : Fr M w w') (hM : ∀ k, M k → ¬ S k ∧ k ≠ b) : Km S w' b m K := by
  obtain ⟨h0, hl, D, ⟨es, clock, h1, h2⟩, h3, h4⟩ := h
  have hlt : b < w.heap.size := (Array.getElem?_eq_some_iff.1 h1).1
  exact ⟨h0, hl, D, ⟨es, clock, (f.block b hlt (fun hm => (hM b hm).2 rfl)).trans h1, h2⟩, h3, fun n hn => (h4 n hn).agree (f.agree (fun k hk hm => (hM k hm).1 hk))⟩
theorem Km.ext {S : Nat → Prop} {w w' : World} {b m : Nat} {K : List Tm} (h : Km S w b m K) (f : Ext w w') : Km S w' b m K := h.fr (M := fun _ => False) (Fr.of_ext f) (fun _ h => h.elim)
theorem Km.made (S : Nat → Prop) (w : World) (hS : ¬ S w.heap.size) : Km S (w.alloc (.map #[] 0)) w.heap.size 0 known0 :=
  ⟨hS, by simp [known0], .map [], World.ownsMap_made _ _ _ _, isMap_empty, fun n hn => by rw [look_known0]; unfold look1; rw [if_pos (show zeroT.kind = 0 from rfl)]; rfl⟩
/-- the store of a new variable -/
theorem Km.put {S : Nat → Prop} {w w' : World} {b m : Nat} {K : List Tm} {D : DataW Value} (h0 : ¬ S b) (hl : K.length = 26) (hD : IsMap D) (h : ∀ n : Int, 0 ≤ n ∧ n ≤ 25 → look1 S w D n (lookK K n)) {n : Int} (hn : 0 ≤ n ∧ n ≤ 25) {u : Tm} {v : Value} (hu : Tm.at S w u v) (hk : u.kind ≠ 0)
    (ho : w'.ownsMap Try.prog 3 heldR b m (D.put (.int .i64 n) (.held v))) (hg : w.grownBy w' (some b)) : Km S w' b m (K.set n.toNat u) := by
  have hag : Agree S w w' := Agree.grown hg (fun k e hb => by cases e; exact h0 hb)
  refine ⟨h0, by simp [hl], _, ho, hD.put _ _, fun i hi => ?_⟩
  rw [look_set hl hn hi]
  split
  · rename_i e
    subst e
    unfold look1
    rw [if_neg hk]
    exact ⟨Maps.has_put_same hD (by simp [WideAt.IsKeyLit]) _, v, fun z => Maps.atKey_put_same hD (by simp [WideAt.IsKeyLit]) _ z, Tm.at_mono (fun _ h => h) hag hu⟩
  · rename_i e
    have hne : Lit.int .i64 i ≠ Lit.int .i64 n := by intro h; cases h; exact e rfl
    have := (h i hi).agree hag
    unfold look1 at this ⊢
    rw [Maps.has_put_other hne]
    split
    · rename_i e1; rw [if_pos e1] at this; exact this
    · rename_i e1
      rw [if_neg e1] at this
      obtain ⟨h1, v1, h2, h3⟩ := this
      exact ⟨h1, v1, fun z => by rw [Maps.atKey_put_other hne]; exact h2 z, h3⟩

theorem small_wf {n : Int} (hn : 0 ≤ n ∧ n ≤ 25) : (Lit.int .i64 n).wf = true := by
  have h1 : (IntKind.i64.min : Int) ≤ 0 := by decide
  have h2 : (25 : Int) ≤ IntKind.i64.max := by decide
  simp only [Lit.wf, Bool.and_eq_true, decide_eq_true_eq]
  omega
theorem zero_term (w : World) : (zeroValue 25).run Try.prog w = .ok zeroV w := by kernel_rfl
theorem map_keyed : Maps.Keyed Try.prog 3 := int_keyed Try.underlying3
/-- a look-up at a variable that is not known -/
theorem wp_look_no {S : Nat → Prop} {w : World} {b mm : Nat} {K : List Tm} {n : Int} {ops : Array Oper} {rest : List Oper} {o : Oper} {a : Act} {Q : Exit → Act → World → Prop}
    (hg : o.guard = none) (m x : Operand) (hop : o.op = Op.lookup 89 m x true) (h : Km S w b mm K) (hn : 0 ≤ n ∧ n ≤ 25) (hk : (lookK K n).kind = 0) (hm : a.eval m = .map (some b)) (hx : a.eval x = .int .i64 n)
    (hK : wpList Try.prog ops Q rest (a.put o.dst (.tuple #[.agg #[.int .i64 0, .int .i64 0, .string ⟨#[]⟩, .slice none 0 0], .bool false])) w) : wpList Try.prog ops Q (o :: rest) a w := by
  obtain ⟨h0, hl, D, h1, h2, h3⟩ := h
  have h4 := h3 n hn
  unfold look1 at h4
  rw [if_pos hk] at h4
  refine wpList_lookup_own_ok w hg m x _ hop 3 25 map_keyed Try.underlying89 heldR (zero_term w) (.held zeroV) [] rfl b mm D hm h1 (.int .i64 n) (.int .i64 n) hx (keyOf_int_mk Try.underlying3 (small_wf hn)) ?_
  intro v ps hv
  rw [Maps.atKey_of_not_has h4] at hv
  simp only [heldR, Option.some.injEq, Prod.mk.injEq, DataW.held.injEq] at hv
  rw [hv.1, h4]
  exact hK
/-- .. at one that is known -/
theorem wp_look_yes {S : Nat → Prop} {w : World} {b mm : Nat} {K : List Tm} {n : Int} {ops : Array Oper} {rest : List Oper} {o : Oper} {a : Act} {Q : Exit → Act → World → Prop}
    (hg : o.guard = none) (m x : Operand) (hop : o.op = Op.lookup 89 m x true) (h : Km S w b mm K) (hn : 0 ≤ n ∧ n ≤ 25) (hk : (lookK K n).kind ≠ 0) (hm : a.eval m = .map (some b)) (hx : a.eval x = .int .i64 n)
    (hK : ∀ ad c, Tm.at S w (lookK K n) (.agg #[.int .i64 (lookK K n).kind, .int .i64 (lookK K n).n, .string (lookK K n).name, .slice ad (lookK K n).kids.length c]) →
      wpList Try.prog ops Q rest (a.put o.dst (.tuple #[.agg #[.int .i64 (lookK K n).kind, .int .i64 (lookK K n).n, .string (lookK K n).name, .slice ad (lookK K n).kids.length c], .bool true])) w) : wpList Try.prog ops Q (o :: rest) a w := by
  obtain ⟨h0, hl, D, h1, h2, h3⟩ := h
  have h4 := h3 n hn
  unfold look1 at h4
  rw [if_neg hk] at h4
  obtain ⟨h4, u, h5, h6⟩ := h4
  refine wpList_lookup_own_ok w hg m x _ hop 3 25 map_keyed Try.underlying89 heldR (zero_term w) (.held zeroV) [] rfl b mm D hm h1 (.int .i64 n) (.int .i64 n) hx (keyOf_int_mk Try.underlying3 (small_wf hn)) ?_
  intro v ps hv
  rw [h5] at hv
  simp only [heldR, Option.some.injEq, Prod.mk.injEq, DataW.held.injEq] at hv
  obtain ⟨rfl, _⟩ := hv
  obtain ⟨ad, c, rfl⟩ := at_form h6
  rw [h4]
  exact hK ad c h6
/-- the store of a new variable, at the operation -/
theorem wp_put_km {S : Nat → Prop} {w : World} {b mm : Nat} {K : List Tm} {n : Int} {u : Tm} {ops : Array Oper} {rest : List Oper} {o : Oper} {a : Act} {Q : Exit → Act → World → Prop}
    (hg : o.guard = none) (m x v : Operand) (hop : o.op = Op.mapUpdate 89 m x v) (h : Km S w b mm K) (hb : mm ≤ 1048576) (hn : 0 ≤ n ∧ n ≤ 25) (hk : u.kind ≠ 0) (uv : Value) (hu : Tm.at S w u uv) (hm : a.eval m = .map (some b)) (hx : a.eval x = .int .i64 n) (hv : a.eval v = uv)
    (hK : ∀ w', Km S w' b (mm + 1) (K.set n.toNat u) → Fr (fun k => k = b) w w' → wpList Try.prog ops Q rest (a.put o.dst undef) w') : wpList Try.prog ops Q (o :: rest) a w := by
  obtain ⟨h0, hl, D, h1, h2, h3⟩ := h
  refine wpList_mapUpdate_own w hg m x v _ hop 3 25 map_keyed Try.underlying89 heldR b mm D hm h1 (by unfold maxLen; omega) (.int .i64 n) uv (.int .i64 n) hx hv (keyOf_int_mk Try.underlying3 (small_wf hn)) (.held uv) [] rfl ?_
  intro w' ho hg'
  exact hK w' (Km.put h0 hl h2 h3 hn hu hk ho hg') (Fr.of_grown hg' (fun k e => by cases e; rfl))

end Go.Proofs.Ytdelhgodhkbjdaa
