/-
  Unification, plain: terms with what variables stand for laid in, their size and depth.
-/
import Derived.Maps.Own
import Derived.Maps.OwnSet
import Derived.Maps.OwnOps
import Derived.Maps.Views
import Derived.Test.YtognkaebiafgbaaGreatMv43
import Derived.Test.YtognkaebiafgbaaGreatMv7
import Derived.Test.YtognkaebiafgbaaGreatMv14
namespace Go.Proofs.YtognkaebiafgbaaGreat
open Go.RowKit
set_option linter.unusedVariables false
mutual
/-- a term with variables replaced (fuel) -/
def resF : Nat → List Tm → Tm → Option Tm
  | 0, _, _ => none
  | f + 1, K, t =>
    match walkF f K t with
    | some x => (resL f K x.kids).map fun ks => .mk x.kind x.n x.name ks
    | none => none
  termination_by f => (f, 0)
def resL : Nat → List Tm → List Tm → Option (List Tm)
  | _, _, [] => some []
  | f, K, t :: ts =>
    match resF f K t, resL f K ts with
    | some a, some vs => some (a :: vs)
    | _, _ => none
  termination_by f _ ts => (f, ts.length + 1)
end
theorem resL_nil (f : Nat) (K : List Tm) : resL f K [] = some [] := by unfold resL; rfl
theorem resL_cons (f : Nat) (K : List Tm) (t : Tm) (ts : List Tm) : resL f K (t :: ts) = match resF f K t, resL f K ts with
    | some a, some vs => some (a :: vs)
    | _, _ => none := by
  conv => lhs; unfold resL
theorem resF_succ {f : Nat} {K : List Tm} {t x : Tm} (hx : walkF f K t = some x) : resF (f + 1) K t = (resL f K x.kids).map fun ks => .mk x.kind x.n x.name ks := by
  conv => lhs; unfold resF
  rw [hx]
theorem resF_walk {f : Nat} {K : List Tm} {t T : Tm} (h : resF f K t = some T) : ∃ g x ks, f = g + 1 ∧ walkF g K t = some x ∧ resL g K x.kids = some ks ∧ T = .mk x.kind x.n x.name ks := by
  cases f with
  | zero => unfold resF at h; simp at h
  | succ f =>
    unfold resF at h
    cases hx : walkF f K t with
    | none => rw [hx] at h; simp at h
    | some x =>
      rw [hx] at h
      dsimp only at h
      cases hk : resL f K x.kids with
      | none => rw [hk] at h; simp at h
      | some ks => rw [hk] at h; simp at h; exact ⟨f, x, ks, rfl, hx, hk, h.symm⟩
theorem resL_at {f : Nat} {K : List Tm} : ∀ {ts vs : List Tm}, resL f K ts = some vs → ts.length = vs.length ∧ ∀ (j : Nat) (t : Tm), ts[j]? = some t → ∃ a, vs[j]? = some a ∧ resF f K t = some a
  | [], vs, h => by rw [resL_nil] at h; cases h; exact ⟨rfl, fun j t h => by simp at h⟩
  | t :: ts, vs, h => by
    rw [resL_cons] at h
    cases h1 : resF f K t with
    | none => rw [h1] at h; simp at h
    | some a =>
      cases h2 : resL f K ts with
      | none => rw [h1, h2] at h; simp at h
      | some vs' =>
        rw [h1, h2] at h
        simp at h; subst h
        obtain ⟨h3, h4⟩ := resL_at h2
        refine ⟨by simp [h3], fun j t' hj => ?_⟩
        cases j with
        | zero => simp at hj; subst hj; exact ⟨a, rfl, h1⟩
        | succ j => obtain ⟨b, h5, h6⟩ := h4 j t' (by simpa using hj); exact ⟨b, by simpa using h5, h6⟩
def RMonoF (f : Nat) : Prop := ∀ (g : Nat) (K : List Tm) (a : Tm) (r : Tm), resF f K a = some r → f ≤ g → resF g K a = some r
theorem rmonoL {f : Nat} (h : RMonoF f) (g : Nat) (K : List Tm) (hg : f ≤ g) : ∀ (ts vs : List Tm), resL f K ts = some vs → resL g K ts = some vs
  | [], vs, h1 => by rw [resL_nil] at h1 ⊢; exact h1
  | t :: ts, vs, h1 => by
    rw [resL_cons] at h1 ⊢
    cases h2 : resF f K t with
    | none => rw [h2] at h1; simp at h1
    | some a =>
      cases h3 : resL f K ts with
      | none => rw [h2, h3] at h1; simp at h1
      | some vs' =>
        rw [h2, h3] at h1
        rw [h g K t a h2 hg, rmonoL h g K hg ts vs' h3]
        exact h1
theorem rmono : ∀ f, RMonoF f
  | 0 => fun g K a r h => by unfold resF at h; simp at h
  | f + 1 => by
    intro g K a r h hg
    obtain ⟨f', x, ks, e, hx, hk, rfl⟩ := resF_walk h
    cases e
    cases g with
    | zero => omega
    | succ g =>
      rw [resF_succ (walk_mono hx (by omega)), rmonoL (rmono f) g K (by omega) _ _ hk]
      rfl
theorem resL_ex {K : List Tm} : ∀ (ts : List Tm), (∀ (j : Nat) (t : Tm), ts[j]? = some t → ∃ f r, resF f K t = some r) → ∃ f r, resL f K ts = some r
  | [], _ => ⟨0, _, resL_nil _ _⟩
  | t :: ts, h => by
    obtain ⟨f1, a, h1⟩ := h 0 t rfl
    obtain ⟨f2, vs, h2⟩ := resL_ex ts (fun j t' hj => h (j + 1) t' (by simpa using hj))
    refine ⟨max f1 f2, a :: vs, ?_⟩
    rw [resL_cons, rmono f1 _ K t a h1 (Nat.le_max_left _ _), rmonoL (rmono f2) _ K (Nat.le_max_right _ _) _ _ h2]
theorem res_ex {K : List Tm} {ρ : Int → Nat} (hv : VK K) (hr : Rk K ρ) (a : Tm) (d : Nat) (ha : shapeF a d = true) : ∃ f T, resF f K a = some T := by
  have main : ∀ (R s : Nat) (a : Tm) (d : Nat), shapeF a d = true → (∀ m, occV m a → ρ m < R) → Tm.sz a ≤ s → ∃ f r, resF f K a = some r := by
    intro R
    induction R using Nat.strongRecOn with
    | _ R IHR =>
      intro s
      induction s with
      | zero => intro a d _ _ hs; have := Tm.sz_pos a; omega
      | succ s IHs =>
        intro a d ha hR hs
        obtain ⟨x, hx, ⟨d1, hsx⟩, hxa⟩ := walk_ex hv hr (ρ a.n + 1) a d ha (fun _ => by omega)
        have kid : ∀ (j : Nat) (t : Tm), x.kids[j]? = some t → ∃ f r, resF f K t = some r := by
          intro j t ht
          obtain ⟨kx, nx, sx, kids⟩ := x
          replace ht : kids[j]? = some t := ht
          have hst := shape_kid hsx ht
          have hocc : ∀ m, occV m t → occV m (.mk kx nx sx kids) := fun m h => .inr (occL_mem ht h)
          rcases hxa with rfl | ⟨hk, hlt⟩
          · exact IHs t _ hst (fun m h => hR m (hocc m h)) (by have := kid_lt (k := kx) (n := nx) (s := sx) ht; omega)
          · exact IHR (ρ a.n) (hR _ (occ_var hk)) (Tm.sz t) t _ hst (fun m h => hlt m (hocc m h)) (Nat.le_refl _)
        obtain ⟨f, r, h⟩ := resL_ex x.kids kid
        refine ⟨max f (ρ a.n + 1 + 1) + 1, .mk x.kind x.n x.name r, ?_⟩
        rw [resF_succ (walk_mono hx (by omega)), rmonoL (rmono f) _ K (by omega) _ _ h]
        rfl
  obtain ⟨B, hB⟩ := rank_top ρ
  exact main B (Tm.sz a) a d ha (fun m hm => hB m (occ_shape a d ha hm).1 (occ_shape a d ha hm).2) (Nat.le_refl _)
mutual
/-- depth -/
def dep : Tm → Nat
  | .mk _ _ _ ks => 1 + depL ks
def depL : List Tm → Nat
  | [] => 0
  | t :: ts => max (dep t) (depL ts)
/-- each node is well-formed -/
def locF : Tm → Bool
  | .mk k n s ks => ownF k n s ks.length && locL ks
def locL : List Tm → Bool
  | [] => true
  | t :: ts => locF t && locL ts
end
theorem dep_mem : ∀ {ts : List Tm} {j : Nat} {t : Tm}, ts[j]? = some t → dep t ≤ depL ts
  | [], _, _, h => by simp at h
  | t0 :: ts, 0, t, h => by simp at h; subst h; simp only [depL]; omega
  | t0 :: ts, j + 1, t, h => by have := dep_mem (ts := ts) (j := j) (t := t) (by simpa using h); simp only [depL]; omega
theorem depL_le {D : Nat} : ∀ {ts : List Tm}, (∀ (j : Nat) (t : Tm), ts[j]? = some t → dep t ≤ D) → depL ts ≤ D
  | [], _ => by simp [depL]
  | t :: ts, h => by
    have h1 := h 0 t rfl
    have h2 := depL_le (ts := ts) (D := D) (fun j t' hj => h (j + 1) t' (by simpa using hj))
    simp only [depL]; omega
end Go.Proofs.YtognkaebiafgbaaGreat

namespace Go.Proofs.YtognkaebiafgbaaGreat
open Go.RowKit
set_option linter.unusedVariables false
theorem dep_pos (t : Tm) : 1 ≤ dep t := by
  obtain ⟨k, n, s, ks⟩ := t
  simp only [dep]; omega
def fits (T : Tm) (c d : Int) : Bool := decide (c + (Tm.sz T : Int) ≤ 120 ∧ d + (dep T : Int) ≤ 31)
theorem fits_pos {T : Tm} {c d : Int} (h : fits T c d = true) : c + 1 ≤ 120 ∧ d ≤ 30 := by
  unfold fits at h
  simp only [decide_eq_true_eq] at h
  have := Tm.sz_pos T
  have := dep_pos T
  omega
theorem fits_no {T : Tm} {c d : Int} (h : 120 < c + 1 ∨ 30 < d) : fits T c d = false := by
  cases hf : fits T c d with
  | false => rfl
  | true => have := fits_pos hf; omega
theorem szL_add : ∀ {ts : List Tm} {j : Nat} {t : Tm}, ts[j]? = some t → Tm.szL (ts.take (j + 1)) = Tm.szL (ts.take j) + Tm.sz t
  | [], _, _, h => by simp at h
  | t0 :: ts, 0, t, h => by simp at h; subst h; simp [Tm.szL]
  | t0 :: ts, j + 1, t, h => by
    simp only [List.take_succ_cons, Tm.szL]
    rw [szL_add (ts := ts) (j := j) (by simpa using h)]; omega
theorem szL_le2 (ts : List Tm) (j : Nat) : Tm.szL (ts.take j) ≤ Tm.szL ts := by
  induction ts generalizing j with
  | nil => simp
  | cons t ts ih =>
    cases j with
    | zero => simp [Tm.szL]
    | succ j => have := ih j; simp only [List.take_succ_cons, Tm.szL]; omega
theorem fits_kid {k n : Int} {s : ByteArray} {ks : List Tm} {j : Nat} {T : Tm} {c d : Int} (h : ks[j]? = some T) (hf : fits T (c + 1 + (Tm.szL (ks.take j) : Int)) (d + 1) = false) : fits (.mk k n s ks) c d = false := by
  cases hw : fits (.mk k n s ks) c d with
  | false => rfl
  | true =>
    unfold fits at hf hw
    simp only [decide_eq_true_eq, decide_eq_false_iff_not] at hf hw
    have h1 := szL_add h
    have h2 := szL_le2 ks (j + 1)
    have h3 := dep_mem h
    simp only [Tm.sz, dep] at hw
    exact absurd ⟨by omega, by omega⟩ hf
theorem fits_all {k n : Int} {s : ByteArray} {ks : List Tm} {c d : Int} (h0 : c + 1 ≤ 120) (hd : d ≤ 30) (h : ∀ j T, ks[j]? = some T → fits T (c + 1 + (Tm.szL (ks.take j) : Int)) (d + 1) = true) : fits (.mk k n s ks) c d = true := by
  have hdep : depL ks ≤ (30 - d).toNat := depL_le (fun j T hj => by
    have := h j T hj
    unfold fits at this
    simp only [decide_eq_true_eq] at this
    omega)
  have hsz : c + 1 + (Tm.szL ks : Int) ≤ 120 := by
    rcases hl : ks.length with _ | m
    · have : ks = [] := List.length_eq_zero_iff.1 hl
      subst this; simp only [Tm.szL]; omega
    · obtain ⟨T, hT⟩ := getk (ts := ks) (k := m) (by omega)
      have h1 := h m T hT
      unfold fits at h1
      simp only [decide_eq_true_eq] at h1
      have h2 := szL_add hT
      rw [List.take_of_length_le (by omega)] at h2
      omega
  unfold fits
  refine decide_eq_true ?_
  simp only [Tm.sz, dep]
  omega
theorem cnt_le {ks : List Tm} {c d : Int} {j : Nat} (h0 : c + 1 ≤ 120) (hj : j ≤ ks.length) (h : ∀ q T, q < j → ks[q]? = some T → fits T (c + 1 + (Tm.szL (ks.take q) : Int)) (d + 1) = true) : c + 1 + (Tm.szL (ks.take j) : Int) ≤ 120 := by
  cases j with
  | zero => simp only [List.take_zero, Tm.szL]; omega
  | succ m =>
    obtain ⟨T, hT⟩ := getk (ts := ks) (k := m) (by omega)
    have h1 := h m T (by omega) hT
    unfold fits at h1
    simp only [decide_eq_true_eq] at h1
    have h2 := szL_add hT
    omega
end Go.Proofs.YtognkaebiafgbaaGreat

namespace Go.Proofs.YtognkaebiafgbaaGreat
open Go.RowKit Go.Maps
set_option linter.unusedVariables false
theorem cells_keep {S : Nat → Prop} {w w' : World} {b o : Nat} {t : Tm} (h : Tm.cells S w b o t) (ha : Agree S w w') (hc : ∀ j v, j < 4 → w.cell? ⟨b, o + j, none⟩ = some v → w'.cell? ⟨b, o + j, none⟩ = some v) : Tm.cells S w' b o t := by
  obtain ⟨sv, h1, h2, h3, h4, h5, h6⟩ := Tm.cells_iff.1 h
  exact Tm.cells_iff.2 ⟨sv, hc 0 _ (by omega) h1, hc 1 _ (by omega) h2, hc 2 _ (by omega) h3, hc 3 _ (by omega) h4, h5, Tm.sl_mono (fun _ h => h) ha h6⟩
def set4o (Y : World) (b a : Nat) (v0 v1 v2 v3 : Value) : World := (((Y.setCell ⟨b, a, none⟩ v0).setCell ⟨b, a + 1, none⟩ v1).setCell ⟨b, a + 2, none⟩ v2).setCell ⟨b, a + 3, none⟩ v3
theorem set4o_grown (Y : World) (b a : Nat) (v0 v1 v2 v3 : Value) : Y.grownBy (set4o Y b a v0 v1 v2 v3) (some b) :=
  grown_trans (grown_trans (grown_trans (grown_setCell _ _ _ _) (grown_setCell _ _ _ _)) (grown_setCell _ _ _ _)) (grown_setCell _ _ _ _)
theorem set4o_cells {Y : World} {b a : Nat} {u0 u1 u2 u3 : Value} (v0 v1 v2 v3 : Value) (h0 : Y.cell? ⟨b, a, none⟩ = some u0) (h1 : Y.cell? ⟨b, a + 1, none⟩ = some u1) (h2 : Y.cell? ⟨b, a + 2, none⟩ = some u2) (h3 : Y.cell? ⟨b, a + 3, none⟩ = some u3) :
    (set4o Y b a v0 v1 v2 v3).cell? ⟨b, a, none⟩ = some v0 ∧ (set4o Y b a v0 v1 v2 v3).cell? ⟨b, a + 1, none⟩ = some v1 ∧ (set4o Y b a v0 v1 v2 v3).cell? ⟨b, a + 2, none⟩ = some v2 ∧ (set4o Y b a v0 v1 v2 v3).cell? ⟨b, a + 3, none⟩ = some v3 :=
  ⟨cell_off (by omega) (cell_off (by omega) (cell_off (by omega) (cell_same h0))),
   cell_off (by omega) (cell_off (by omega) (cell_same (cell_off (by omega) h1))),
   cell_off (by omega) (cell_same (cell_off (by omega) (cell_off (by omega) h2))),
   cell_same (cell_off (by omega) (cell_off (by omega) (cell_off (by omega) h3)))⟩
theorem set4o_other {Y : World} {b a i : Nat} {u : Value} (v0 v1 v2 v3 : Value) (h : Y.cell? ⟨b, i, none⟩ = some u) (hi : i < a ∨ a + 4 ≤ i) : (set4o Y b a v0 v1 v2 v3).cell? ⟨b, i, none⟩ = some u :=
  cell_off (by omega) (cell_off (by omega) (cell_off (by omega) (cell_off (by omega) h)))
theorem set4o_frozen {Y : World} {b a : Nat} (v0 v1 v2 v3 : Value) (p : Addr) : (set4o Y b a v0 v1 v2 v3).frozen? p = Y.frozen? p := by
  unfold set4o
  rw [World.frozen?_setCell, World.frozen?_setCell, World.frozen?_setCell, World.frozen?_setCell]
def Kn (S : Nat → Prop) (w : World) (kb : Nat) (K : List Tm) : Prop :=
  ¬ S kb ∧ K.length = 26 ∧ ∀ i t, K[i]? = some t → Tm.cells S w kb (i * 4) t ∧ ∀ j, j < 4 → w.frozen? ⟨kb, i * 4 + j, none⟩ = false
theorem Kn.lt {S : Nat → Prop} {w : World} {kb : Nat} {K : List Tm} (h : Kn S w kb K) : kb < w.heap.size := by
  obtain ⟨_, hl, h⟩ := h
  obtain ⟨t, ht⟩ := getk (ts := K) (k := 0) (by omega)
  obtain ⟨sv, h1, _⟩ := Tm.cells_iff.1 (h 0 t ht).1
  exact block_lt_of_cell h1
theorem Kn.fr {S M : Nat → Prop} {w w' : World} {kb : Nat} {K : List Tm} (h : Kn S w kb K) (f : Fr M w w') (hM : ∀ k, M k → ¬ S k ∧ k ≠ kb) : Kn S w' kb K := by
  have hlt := h.lt
  obtain ⟨h0, hl, h⟩ := h
  refine ⟨h0, hl, fun i t ht => ⟨cells_keep (h i t ht).1 (f.agree (fun k hk hm => (hM k hm).1 hk)) (fun j v _ hc => f.cell (fun hm => (hM _ hm).2 rfl) hc), fun j hj => f.frozen hlt (fun hm => (hM _ hm).2 rfl) ((h i t ht).2 j hj)⟩⟩
theorem Kn.ext {S : Nat → Prop} {w w' : World} {kb : Nat} {K : List Tm} (h : Kn S w kb K) (f : Ext w w') : Kn S w' kb K := h.fr (M := fun _ => False) (Fr.of_ext f) (fun _ h => h.elim)
theorem Kn.look {S : Nat → Prop} {w : World} {kb : Nat} {K : List Tm} (h : Kn S w kb K) {n : Int} (hn : 0 ≤ n ∧ n ≤ 25) : ∃ a c, w.cell? ⟨kb, n.toNat * 4, none⟩ = some (.int .i64 (lookK K n).kind) ∧ w.cell? ⟨kb, n.toNat * 4 + 1, none⟩ = some (.int .i64 (lookK K n).n) ∧
    w.cell? ⟨kb, n.toNat * 4 + 2, none⟩ = some (.string (lookK K n).name) ∧ w.cell? ⟨kb, n.toNat * 4 + 3, none⟩ = some (.slice a (lookK K n).kids.length c) ∧
    Tm.at S w (lookK K n) (.agg #[.int .i64 (lookK K n).kind, .int .i64 (lookK K n).n, .string (lookK K n).name, .slice a (lookK K n).kids.length c]) ∧
    w.frozen? ⟨kb, n.toNat * 4, none⟩ = false ∧ w.frozen? ⟨kb, n.toNat * 4 + 1, none⟩ = false ∧ w.frozen? ⟨kb, n.toNat * 4 + 2, none⟩ = false ∧ w.frozen? ⟨kb, n.toNat * 4 + 3, none⟩ = false := by
  obtain ⟨h0, hl, h⟩ := h
  obtain ⟨t, ht⟩ := getk (ts := K) (k := n.toNat) (by omega)
  have e : lookK K n = t := by unfold lookK; rw [ht]; rfl
  rw [e]
  obtain ⟨hc, hf⟩ := h _ t ht
  obtain ⟨a, c, c0, c1, c2, c3, c4⟩ := Tm.at_of_cells hc
  exact ⟨a, c, c0, c1, c2, c3, c4, hf 0 (by omega), hf 1 (by omega), hf 2 (by omega), hf 3 (by omega)⟩
theorem Kn.set {S : Nat → Prop} {w : World} {kb : Nat} {K : List Tm} (h : Kn S w kb K) {n : Int} (hn : 0 ≤ n ∧ n ≤ 25) {u : Tm} {a : Option Addr} {c : Nat} (hu : Tm.at S w u (.agg #[.int .i64 u.kind, .int .i64 u.n, .string u.name, .slice a u.kids.length c])) :
    Kn S (set4o w kb (n.toNat * 4) (.int .i64 u.kind) (.int .i64 u.n) (.string u.name) (.slice a u.kids.length c)) kb (K.set n.toNat u) := by
  obtain ⟨b0, d0, k0, k1, k2, k3, _⟩ := h.look hn
  obtain ⟨h0, hl, h⟩ := h
  have hag : Agree S w (set4o w kb (n.toNat * 4) (.int .i64 u.kind) (.int .i64 u.n) (.string u.name) (.slice a u.kids.length c)) := Agree.grown (set4o_grown _ _ _ _ _ _ _) (fun b e hb => by cases e; exact h0 hb)
  refine ⟨h0, by simp [hl], fun i t ht => ⟨?_, fun j hj => ?_⟩⟩
  · rw [List.getElem?_set] at ht
    split at ht
    · rename_i e
      subst e
      rw [if_pos (by omega)] at ht
      cases ht
      obtain ⟨z0, z1, z2, z3⟩ := set4o_cells (.int .i64 u.kind) (.int .i64 u.n) (.string u.name) (.slice a u.kids.length c) k0 k1 k2 k3
      obtain ⟨hs, sv, e, hk⟩ := Tm.at_iff.1 hu
      simp at e
      subst e
      exact Tm.cells_iff.2 ⟨_, z0, z1, z2, z3, hs, Tm.sl_mono (fun _ h => h) hag hk⟩
    · rename_i e
      exact cells_keep (h i t ht).1 hag (fun j v hj hc => set4o_other _ _ _ _ hc (by omega))
  · rw [set4o_frozen]
    have hi : i < K.length := by have := (List.getElem?_eq_some_iff.1 ht).1; simpa using this
    obtain ⟨t', ht'⟩ := getk hi
    exact (h i t' ht').2 j hj
def heldR (v : Value) : Option (DataW Value × List MemPlace) := some (.held v, [])
def zeroV : Value := .agg #[.int .i64 0, .int .i64 0, .string ⟨#[]⟩, .slice none 0 0]
def look1 (S : Nat → Prop) (w : World) (D : DataW Value) (n : Int) (t : Tm) : Prop :=
  if t.kind = 0 then Maps.has D (.int .i64 n) = false else Maps.has D (.int .i64 n) = true ∧ ∃ v, (∀ z, D.atKey (.int .i64 n) z = .held v) ∧ Tm.at S w t v
def Km (S : Nat → Prop) (w : World) (b m : Nat) (K : List Tm) : Prop :=
  ¬ S b ∧ K.length = 26 ∧ ∃ D, w.ownsMap Tryz.prog 3 heldR b m D ∧ IsMap D ∧ ∀ n : Int, 0 ≤ n ∧ n ≤ 25 → look1 S w D n (lookK K n)
theorem Km.lt {S : Nat → Prop} {w : World} {b m : Nat} {K : List Tm} (h : Km S w b m K) : b < w.heap.size := h.2.2.choose_spec.1.lt
theorem Km.mono {S : Nat → Prop} {w : World} {b m m' : Nat} {K : List Tm} (h : Km S w b m K) (hm : m ≤ m') : Km S w b m' K := by
  obtain ⟨h0, hl, D, h1, h2⟩ := h
  exact ⟨h0, hl, D, h1.mono hm, h2⟩
theorem look1.agree {S : Nat → Prop} {w w' : World} {D : DataW Value} {n : Int} {t : Tm} (h : look1 S w D n t) (ha : Agree S w w') : look1 S w' D n t := by
  unfold look1 at h ⊢
  split
  · rename_i e; rw [if_pos e] at h; exact h
  · rename_i e
    rw [if_neg e] at h
    obtain ⟨h1, v, h2, h3⟩ := h
    exact ⟨h1, v, h2, Tm.at_mono (fun _ h => h) ha h3⟩
theorem Km.fr {S M : Nat → Prop} {w w' : World} {b m : Nat} {K : List Tm} (h : Km S w b m K) (f : Fr M w w') (hM : ∀ k, M k → ¬ S k ∧ k ≠ b) : Km S w' b m K := by
  obtain ⟨h0, hl, D, ⟨es, clock, h1, h2⟩, h3, h4⟩ := h
  have hlt : b < w.heap.size := (Array.getElem?_eq_some_iff.1 h1).1
  exact ⟨h0, hl, D, ⟨es, clock, (f.block b hlt (fun hm => (hM b hm).2 rfl)).trans h1, h2⟩, h3, fun n hn => (h4 n hn).agree (f.agree (fun k hk hm => (hM k hm).1 hk))⟩
theorem Km.ext {S : Nat → Prop} {w w' : World} {b m : Nat} {K : List Tm} (h : Km S w b m K) (f : Ext w w') : Km S w' b m K := h.fr (M := fun _ => False) (Fr.of_ext f) (fun _ h => h.elim)
theorem Km.made (S : Nat → Prop) (w : World) (hS : ¬ S w.heap.size) : Km S (w.alloc (.map #[] 0)) w.heap.size 0 known0 :=
  ⟨hS, by simp [known0], .map [], World.ownsMap_made _ _ _ _, isMap_empty, fun n hn => by rw [look_known0]; unfold look1; rw [if_pos (show zeroT.kind = 0 from rfl)]; rfl⟩
theorem Km.put {S : Nat → Prop} {w w' : World} {b m : Nat} {K : List Tm} {D : DataW Value} (h0 : ¬ S b) (hl : K.length = 26) (hD : IsMap D) (h : ∀ n : Int, 0 ≤ n ∧ n ≤ 25 → look1 S w D n (lookK K n)) {n : Int} (hn : 0 ≤ n ∧ n ≤ 25) {u : Tm} {v : Value} (hu : Tm.at S w u v) (hk : u.kind ≠ 0)
    (ho : w'.ownsMap Tryz.prog 3 heldR b m (D.put (.int .i64 n) (.held v))) (hg : w.grownBy w' (some b)) : Km S w' b m (K.set n.toNat u) := by
  have hag : Agree S w w' := Agree.grown hg (fun k e hb => by cases e; exact h0 hb)
  refine ⟨h0, by simp [hl], _, ho, hD.put _ _, fun i hi => ?_⟩
  rw [look_set hl hn hi]
  split
  · rename_i e
    subst e
    unfold look1
    rw [if_neg hk]
    exact ⟨Maps.has_put_same hD (by simp [WideAt.IsKeyLit]) _, v, fun z => Maps.atKey_put_same hD (by simp [WideAt.IsKeyLit]) _ z, Tm.at_mono (fun _ h => h) hag hu⟩
  · rename_i e
    have hne : Lit.int .i64 i ≠ Lit.int .i64 n := by intro h; cases h; exact e rfl
    have := (h i hi).agree hag
    unfold look1 at this ⊢
    rw [Maps.has_put_other hne]
    split
    · rename_i e1; rw [if_pos e1] at this; exact this
    · rename_i e1
      rw [if_neg e1] at this
      obtain ⟨h1, v1, h2, h3⟩ := this
      exact ⟨h1, v1, fun z => by rw [Maps.atKey_put_other hne]; exact h2 z, h3⟩
theorem small_wf {n : Int} (hn : 0 ≤ n ∧ n ≤ 25) : (Lit.int .i64 n).wf = true := by
  have h1 : (IntKind.i64.min : Int) ≤ 0 := by decide
  have h2 : (25 : Int) ≤ IntKind.i64.max := by decide
  simp only [Lit.wf, Bool.and_eq_true, decide_eq_true_eq]
  omega
theorem zero_term (w : World) : (zeroValue 26).run Tryz.prog w = .ok zeroV w := by kernel_rfl
theorem map_keyed : Maps.Keyed Tryz.prog 3 := int_keyed Tryz.underlying3
theorem wp_put_km {S : Nat → Prop} {w : World} {b mm : Nat} {K : List Tm} {n : Int} {u : Tm} {ops : Array Oper} {rest : List Oper} {o : Oper} {a : Act} {Q : Exit → Act → World → Prop}
    (hg : o.guard = none) (m x v : Operand) (hop : o.op = Op.mapUpdate 80 m x v) (h : Km S w b mm K) (hb : mm ≤ 1048576) (hn : 0 ≤ n ∧ n ≤ 25) (hk : u.kind ≠ 0) (uv : Value) (hu : Tm.at S w u uv) (hm : a.eval m = .map (some b)) (hx : a.eval x = .int .i64 n) (hv : a.eval v = uv)
    (hK : ∀ w', Km S w' b (mm + 1) (K.set n.toNat u) → Fr (fun k => k = b) w w' → wpList Tryz.prog ops Q rest (a.put o.dst undef) w') : wpList Tryz.prog ops Q (o :: rest) a w := by
  obtain ⟨h0, hl, D, h1, h2, h3⟩ := h
  refine wpList_mapUpdate_own w hg m x v _ hop 3 26 map_keyed Tryz.underlying80 heldR b mm D hm h1 (by unfold maxLen; omega) (.int .i64 n) uv (.int .i64 n) hx hv (keyOf_int_mk Tryz.underlying3 (small_wf hn)) (.held uv) [] rfl ?_
  intro w' ho hg'
  exact hK w' (Km.put h0 hl h2 h3 hn hu hk ho hg') (Fr.of_grown hg' (fun k e => by cases e; rfl))
end Go.Proofs.YtognkaebiafgbaaGreat
