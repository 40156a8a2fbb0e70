/-
  Unification, plain: terms with what variables stand for laid in, their size and depth.
-/
import Derived.Test.YtdelhgodhkbjdaaMg17
namespace Go.Proofs.Ytdelhgodhkbjdaa
open Go.RowKit
set_option linter.unusedVariables false

mutual
/-- a term with variables replaced (fuel) -/
def resF : Nat → List Tm → Tm → Option Tm
  | 0, _, _ => none
  | f + 1, K, t =>
    match walkF f K t with
    | some x => (resL f K x.kids).map fun ks => .mk x.kind x.n x.name ks
    | none => none
  termination_by f => (f, 0)
def resL : Nat → List Tm → List Tm → Option (List Tm)
  | _, _, [] => some []
  | f, K, t :: ts =>
    match resF f K t, resL f K ts with
    | some a, some vs => some (a :: vs)
    | _, _ => none
  termination_by f _ ts => (f, ts.length + 1)
end
theorem resL_nil (f : Nat) (K : List Tm) : resL f K [] = some [] := by unfold resL; rfl
theorem resL_cons (f : Nat) (K : List Tm) (t : Tm) (ts : List Tm) : resL f K (t :: ts) = match resF f K t, resL f K ts with
    | some a, some vs => some (a :: vs)
    | _, _ => none := by
  conv => lhs; unfold resL
theorem resF_succ {f : Nat} {K : List Tm} {t x : Tm} (hx : walkF f K t = some x) : resF (f + 1) K t = (resL f K x.kids).map fun ks => .mk x.kind x.n x.name ks := by
  conv => lhs; unfold resF
  rw [hx]
theorem resF_walk {f : Nat} {K : List Tm} {t T : Tm} (h : resF f K t = some T) : ∃ g x ks, f = g + 1 ∧ walkF g K t = some x ∧ resL g K x.kids = some ks ∧ T = .mk x.kind x.n x.name ks := by
  cases f with
  | zero => unfold resF at h; simp at h
  | succ f =>
    unfold resF at h
    cases hx : walkF f K t with
    | none => rw [hx] at h; simp at h
    | some x =>
      rw [hx] at h
      dsimp only at h
      cases hk : resL f K x.kids with
      | none => rw [hk] at h; simp at h
      | some ks => rw [hk] at h; simp at h; exact ⟨f, x, ks, rfl, hx, hk, h.symm⟩
theorem resL_at {f : Nat} {K : List Tm} : ∀ {ts vs : List Tm}, resL f K ts = some vs → ts.length = vs.length ∧ ∀ (j : Nat) (t : Tm), ts[j]? = some t → ∃ a, vs[j]? = some a ∧ resF f K t = some a
  | [], vs, h => by rw [resL_nil] at h; cases h; exact ⟨rfl, fun j t h => by simp at h⟩
  | t :: ts, vs, h => by
    rw [resL_cons] at h
    cases h1 : resF f K t with
    | none => rw [h1] at h; simp at h
    | some a =>
      cases h2 : resL f K ts with
      | none => rw [h1, h2] at h; simp at h
      | some vs' =>
        rw [h1, h2] at h
        simp at h; subst h
        obtain ⟨h3, h4⟩ := resL_at h2
        refine ⟨by simp [h3], fun j t' hj => ?_⟩
        cases j with
        | zero => simp at hj; subst hj; exact ⟨a, rfl, h1⟩
        | succ j => obtain ⟨b, h5, h6⟩ := h4 j t' (by simpa using hj); exact ⟨b, by simpa using h5, h6⟩
def RMonoF (f : Nat) : Prop := ∀ (g : Nat) (K : List Tm) (a : Tm) (r : Tm), resF f K a = some r → f ≤ g → resF g K a = some r
theorem rmonoL {f : Nat} (h : RMonoF f) (g : Nat) (K : List Tm) (hg : f ≤ g) : ∀ (ts vs : List Tm), resL f K ts = some vs → resL g K ts = some vs
  | [], vs, h1 => by rw [resL_nil] at h1 ⊢; exact h1
  | t :: ts, vs, h1 => by
    rw [resL_cons] at h1 ⊢
    cases h2 : resF f K t with
    | none => rw [h2] at h1; simp at h1
    | some a =>
      cases h3 : resL f K ts with
      | none => rw [h2, h3] at h1; simp at h1
      | some vs' =>
        rw [h2, h3] at h1
        rw [h g K t a h2 hg, rmonoL h g K hg ts vs' h3]
        exact h1
theorem rmono : ∀ f, RMonoF f
  | 0 => fun g K a r h => by unfold resF at h; simp at h
  | f + 1 => by
    intro g K a r h hg
    obtain ⟨f', x, ks, e, hx, hk, rfl⟩ := resF_walk h
    cases e
    cases g with
    | zero => omega
    | succ g =>
      rw [resF_succ (walk_mono hx (by omega)), rmonoL (rmono f) g K (by omega) _ _ hk]
      rfl
theorem res_det {f g : Nat} {K : List Tm} {t x y : Tm} (h : resF f K t = some x) (h' : resF g K t = some y) : x = y := by
  rcases Nat.le_total f g with e | e
  · have := rmono f g K t x h e; rw [h'] at this; exact (Option.some.inj this).symm
  · have := rmono g f K t y h' e; rw [h] at this; exact Option.some.inj this
theorem resL_ex {K : List Tm} : ∀ (ts : List Tm), (∀ (j : Nat) (t : Tm), ts[j]? = some t → ∃ f r, resF f K t = some r) → ∃ f r, resL f K ts = some r
  | [], _ => ⟨0, _, resL_nil _ _⟩
  | t :: ts, h => by
    obtain ⟨f1, a, h1⟩ := h 0 t rfl
    obtain ⟨f2, vs, h2⟩ := resL_ex ts (fun j t' hj => h (j + 1) t' (by simpa using hj))
    refine ⟨max f1 f2, a :: vs, ?_⟩
    rw [resL_cons, rmono f1 _ K t a h1 (Nat.le_max_left _ _), rmonoL (rmono f2) _ K (Nat.le_max_right _ _) _ _ h2]
theorem res_ex {K : List Tm} {ρ : Int → Nat} (hv : VK K) (hr : Rk K ρ) (a : Tm) (d : Nat) (ha : shapeF a d = true) : ∃ f T, resF f K a = some T := by
  have main : ∀ (R s : Nat) (a : Tm) (d : Nat), shapeF a d = true → (∀ m, occV m a → ρ m < R) → Tm.sz a ≤ s → ∃ f r, resF f K a = some r := by
    intro R
    induction R using Nat.strongRecOn with
    | _ R IHR =>
      intro s
      induction s with
      | zero => intro a d _ _ hs; have := Tm.sz_pos a; omega
      | succ s IHs =>
        intro a d ha hR hs
        obtain ⟨x, hx, ⟨d1, hsx⟩, hxa⟩ := walk_ex hv hr (ρ a.n + 1) a d ha (fun _ => by omega)
        have kid : ∀ (j : Nat) (t : Tm), x.kids[j]? = some t → ∃ f r, resF f K t = some r := by
          intro j t ht
          obtain ⟨kx, nx, sx, kids⟩ := x
          replace ht : kids[j]? = some t := ht
          have hst := shape_kid hsx ht
          have hocc : ∀ m, occV m t → occV m (.mk kx nx sx kids) := fun m h => .inr (occL_mem ht h)
          rcases hxa with rfl | ⟨hk, hlt⟩
          · exact IHs t _ hst (fun m h => hR m (hocc m h)) (by have := kid_lt (k := kx) (n := nx) (s := sx) ht; omega)
          · exact IHR (ρ a.n) (hR _ (occ_var hk)) (Tm.sz t) t _ hst (fun m h => hlt m (hocc m h)) (Nat.le_refl _)
        obtain ⟨f, r, h⟩ := resL_ex x.kids kid
        refine ⟨max f (ρ a.n + 1 + 1) + 1, .mk x.kind x.n x.name r, ?_⟩
        rw [resF_succ (walk_mono hx (by omega)), rmonoL (rmono f) _ K (by omega) _ _ h]
        rfl
  obtain ⟨B, hB⟩ := rank_top ρ
  exact main B (Tm.sz a) a d ha (fun m hm => hB m (occ_shape a d ha hm).1 (occ_shape a d ha hm).2) (Nat.le_refl _)

mutual
/-- depth -/
def dep : Tm → Nat
  | .mk _ _ _ ks => 1 + depL ks
def depL : List Tm → Nat
  | [] => 0
  | t :: ts => max (dep t) (depL ts)
/-- each node is well-formed -/
def locF : Tm → Bool
  | .mk k n s ks => ownF k n s ks.length && locL ks
def locL : List Tm → Bool
  | [] => true
  | t :: ts => locF t && locL ts
end
theorem dep_mem : ∀ {ts : List Tm} {j : Nat} {t : Tm}, ts[j]? = some t → dep t ≤ depL ts
  | [], _, _, h => by simp at h
  | t0 :: ts, 0, t, h => by simp at h; subst h; simp only [depL]; omega
  | t0 :: ts, j + 1, t, h => by have := dep_mem (ts := ts) (j := j) (t := t) (by simpa using h); simp only [depL]; omega
theorem depL_le {D : Nat} : ∀ {ts : List Tm}, (∀ (j : Nat) (t : Tm), ts[j]? = some t → dep t ≤ D) → depL ts ≤ D
  | [], _ => by simp [depL]
  | t :: ts, h => by
    have h1 := h 0 t rfl
    have h2 := depL_le (ts := ts) (D := D) (fun j t' hj => h (j + 1) t' (by simpa using hj))
    simp only [depL]; omega
mutual
theorem shape_dep : ∀ (t : Tm) (d : Nat), shapeF t d = true ↔ locF t = true ∧ dep t ≤ d
  | .mk k n s ks, d => by
    simp only [shapeF, locF, dep, Bool.and_eq_true, decide_eq_true_eq]
    rw [shapeL_dep ks (d - 1)]
    constructor
    · rintro ⟨⟨h1, h2⟩, h3, h4⟩; exact ⟨⟨h2, h3⟩, by omega⟩
    · rintro ⟨⟨h2, h3⟩, h4⟩; exact ⟨⟨by omega, h2⟩, h3, by omega⟩
theorem shapeL_dep : ∀ (ts : List Tm) (d : Nat), shapeL ts d = true ↔ locL ts = true ∧ depL ts ≤ d
  | [], d => by simp [shapeL, locL, depL]
  | t :: ts, d => by
    simp only [shapeL, locL, depL, Bool.and_eq_true]
    rw [shape_dep t d, shapeL_dep ts d]
    constructor
    · rintro ⟨⟨h1, h2⟩, h3, h4⟩; exact ⟨⟨h1, h3⟩, by omega⟩
    · rintro ⟨⟨h1, h3⟩, h4⟩; exact ⟨⟨h1, by omega⟩, h3, by omega⟩
end
theorem shape_loc {t : Tm} {d : Nat} (h : shapeF t d = true) : locF t = true := ((shape_dep t d).1 h).1
theorem loc_shape {t : Tm} (h : locF t = true) : shapeF t (dep t) = true := (shape_dep t _).2 ⟨h, Nat.le_refl _⟩
theorem valid_dep {t : Tm} (h : locF t = true) : validF t = decide (Tm.sz t ≤ 120 ∧ dep t ≤ 30) := by
  rw [valid_eq, Bool.eq_iff_iff]
  simp only [Bool.and_eq_true, decide_eq_true_eq, shape_dep t 30, h, true_and]
  exact And.comm
theorem locL_of : ∀ {ts : List Tm}, (∀ (j : Nat) (t : Tm), ts[j]? = some t → locF t = true) → locL ts = true
  | [], _ => rfl
  | t :: ts, h => by
    simp only [locL, h 0 t rfl, Bool.true_and]
    exact locL_of (fun j t' hj => h (j + 1) t' (by simpa using hj))
/-- what is laid in is well-formed -/
theorem res_loc {K : List Tm} (hv : VK K) : ∀ (f : Nat) (t T : Tm) (d : Nat), shapeF t d = true → resF f K t = some T → locF T = true
  | 0, t, T, d, _, h => by unfold resF at h; simp at h
  | f + 1, t, T, d, hs, h => by
    obtain ⟨g, x, ks, e, hx, hk, rfl⟩ := resF_walk h
    cases e
    obtain ⟨d', hsx⟩ := walk_shape hv hs hx
    obtain ⟨kx, nx, sx, kids⟩ := x
    obtain ⟨hl, hat⟩ := resL_at hk
    simp only [Tm.kids, Tm.kind, Tm.n, Tm.name] at hl hat ⊢
    have h1 := shape_loc hsx
    simp only [locF, Bool.and_eq_true] at h1 ⊢
    refine ⟨by rw [← hl]; exact h1.1, locL_of (fun j a ha => ?_)⟩
    obtain ⟨t', ht'⟩ := getk (ts := kids) (k := j) (by have := (List.getElem?_eq_some_iff.1 ha).1; omega)
    obtain ⟨a', h2, h3⟩ := hat j t' ht'
    rw [ha] at h2; cases h2
    exact res_loc hv f t' a (d' - 1) (shape_kid hsx ht') h3
end Go.Proofs.Ytdelhgodhkbjdaa

/-
  Unification, plain: whether a term with what its variables stand for laid in fits.
-/
namespace Go.Proofs.Ytdelhgodhkbjdaa
open Go.RowKit
set_option linter.unusedVariables false

theorem dep_pos (t : Tm) : 1 ≤ dep t := by
  obtain ⟨k, n, s, ks⟩ := t
  simp only [dep]; omega
/-- c nodes counted, at depth d -/
def fits (T : Tm) (c d : Int) : Bool := decide (c + (Tm.sz T : Int) ≤ 120 ∧ d + (dep T : Int) ≤ 31)
theorem fits_pos {T : Tm} {c d : Int} (h : fits T c d = true) : c + 1 ≤ 120 ∧ d ≤ 30 := by
  unfold fits at h
  simp only [decide_eq_true_eq] at h
  have := Tm.sz_pos T
  have := dep_pos T
  omega
theorem fits_no {T : Tm} {c d : Int} (h : 120 < c + 1 ∨ 30 < d) : fits T c d = false := by
  cases hf : fits T c d with
  | false => rfl
  | true => have := fits_pos hf; omega
theorem szL_add : ∀ {ts : List Tm} {j : Nat} {t : Tm}, ts[j]? = some t → Tm.szL (ts.take (j + 1)) = Tm.szL (ts.take j) + Tm.sz t
  | [], _, _, h => by simp at h
  | t0 :: ts, 0, t, h => by simp at h; subst h; simp [Tm.szL]
  | t0 :: ts, j + 1, t, h => by
    simp only [List.take_succ_cons, Tm.szL]
    rw [szL_add (ts := ts) (j := j) (by simpa using h)]; omega
theorem szL_le2 (ts : List Tm) (j : Nat) : Tm.szL (ts.take j) ≤ Tm.szL ts := by
  induction ts generalizing j with
  | nil => simp
  | cons t ts ih =>
    cases j with
    | zero => simp [Tm.szL]
    | succ j => have := ih j; simp only [List.take_succ_cons, Tm.szL]; omega
/-- one argument does not fit: the whole does not -/
theorem fits_kid {k n : Int} {s : ByteArray} {ks : List Tm} {j : Nat} {T : Tm} {c d : Int} (h : ks[j]? = some T) (hf : fits T (c + 1 + (Tm.szL (ks.take j) : Int)) (d + 1) = false) : fits (.mk k n s ks) c d = false := by
  cases hw : fits (.mk k n s ks) c d with
  | false => rfl
  | true =>
    unfold fits at hf hw
    simp only [decide_eq_true_eq, decide_eq_false_iff_not] at hf hw
    have h1 := szL_add h
    have h2 := szL_le2 ks (j + 1)
    have h3 := dep_mem h
    simp only [Tm.sz, dep] at hw
    exact absurd ⟨by omega, by omega⟩ hf
theorem fits_all {k n : Int} {s : ByteArray} {ks : List Tm} {c d : Int} (h0 : c + 1 ≤ 120) (hd : d ≤ 30) (h : ∀ j T, ks[j]? = some T → fits T (c + 1 + (Tm.szL (ks.take j) : Int)) (d + 1) = true) : fits (.mk k n s ks) c d = true := by
  have hdep : depL ks ≤ (30 - d).toNat := depL_le (fun j T hj => by
    have := h j T hj
    unfold fits at this
    simp only [decide_eq_true_eq] at this
    omega)
  have hsz : c + 1 + (Tm.szL ks : Int) ≤ 120 := by
    rcases hl : ks.length with _ | m
    · have : ks = [] := List.length_eq_zero_iff.1 hl
      subst this; simp only [Tm.szL]; omega
    · obtain ⟨T, hT⟩ := getk (ts := ks) (k := m) (by omega)
      have h1 := h m T hT
      unfold fits at h1
      simp only [decide_eq_true_eq] at h1
      have h2 := szL_add hT
      rw [List.take_of_length_le (by omega)] at h2
      omega
  unfold fits
  refine decide_eq_true ?_
  simp only [Tm.sz, dep]
  omega
theorem cnt_le {ks : List Tm} {c d : Int} {j : Nat} (h0 : c + 1 ≤ 120) (hj : j ≤ ks.length) (h : ∀ q T, q < j → ks[q]? = some T → fits T (c + 1 + (Tm.szL (ks.take q) : Int)) (d + 1) = true) : c + 1 + (Tm.szL (ks.take j) : Int) ≤ 120 := by
  cases j with
  | zero => simp only [List.take_zero, Tm.szL]; omega
  | succ m =>
    obtain ⟨T, hT⟩ := getk (ts := ks) (k := m) (by omega)
    have h1 := h m T (by omega) hT
    unfold fits at h1
    simp only [decide_eq_true_eq] at h1
    have h2 := szL_add hT
    omega
theorem fits_valid {T : Tm} (h : locF T = true) : fits T 0 1 = validF T := by
  rw [valid_dep h]
  unfold fits
  congr 1
  apply propext
  constructor
  · rintro ⟨h1, h2⟩; omega
  · rintro ⟨h1, h2⟩; omega
end Go.Proofs.Ytdelhgodhkbjdaa
