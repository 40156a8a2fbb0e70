/-
  Plain laws of the standard order: it is antisymmetric and transitive, and equal means the same.
-/
import Derived.Test.YtmbapobjopbceaaCmp
namespace Go.Proofs.Ytmbapobjopbceaa
open Go.RowKit
set_option linter.unusedVariables false

/-- the order of three: two steps that do not go down make one -/
def P3 (x y z : Int) : Prop := (-1 ≤ x ∧ x ≤ 1) ∧ (-1 ≤ y ∧ y ≤ 1) ∧ (x ≤ 0 → y ≤ 0 → z = if x < y then x else y)
theorem P3.or {x y z x' y' z' : Int} (h : P3 x y z) (h' : P3 x' y' z') : P3 (orI x x') (orI y y') (orI z z') := by
  obtain ⟨h1, h2, h3⟩ := h
  obtain ⟨h1', h2', h3'⟩ := h'
  unfold orI
  refine ⟨by split <;> assumption, by split <;> assumption, ?_⟩
  by_cases hx : x = 0
  · by_cases hy : y = 0
    · subst hx hy
      have hz := h3 (by omega) (by omega)
      simp at hz
      subst hz
      simp only [if_true]
      exact h3'
    · rw [if_pos hx, if_neg hy]
      intro hx' hy'
      have hz := h3 (by omega) hy'
      rw [if_neg (by omega)] at hz
      rw [if_neg (by omega), hz]
      rw [if_neg (by omega)]
  · rw [if_neg hx]
    intro hx' hy'
    by_cases hy : y = 0
    · rw [if_pos hy] at hy' ⊢
      have hz := h3 hx' (by omega)
      rw [if_pos (by omega)] at hz
      rw [if_neg (by omega), hz]
      split <;> omega
    · rw [if_neg hy] at hy' ⊢
      have hz := h3 hx' hy'
      rw [if_neg (by split at hz <;> omega)]
      exact hz
theorem P3.int (a b c : Int) : P3 (cI a b) (cI b c) (cI a c) := by
  unfold P3 cI
  refine ⟨by split <;> (try split) <;> omega, by split <;> (try split) <;> omega, ?_⟩
  by_cases h1 : a < b <;> by_cases h2 : b < a <;> by_cases h3 : b < c <;> by_cases h4 : c < b <;> simp [h1, h2, h3, h4] <;> omega
theorem cS_lt {a b : ByteArray} : cS a b = -1 ↔ Op.bytesLess a.toList b.toList = true := by
  unfold cS
  split
  · simp_all
  · split <;> simp_all
theorem cS_bd (a b : ByteArray) : -1 ≤ cS a b ∧ cS a b ≤ 1 := by
  unfold cS
  split
  · omega
  · split <;> omega
theorem P3.str (a b c : ByteArray) : P3 (cS a b) (cS b c) (cS a c) := by
  refine ⟨cS_bd _ _, cS_bd _ _, fun h1 h2 => ?_⟩
  have b1 := cS_bd a b
  have b2 := cS_bd b c
  by_cases e1 : cS a b = 0
  · have e : a.toList = b.toList := cS_zero.1 e1
    have e3 : cS a c = cS b c := by unfold cS; rw [e]
    rw [e3, e1]
    split <;> omega
  · have l1 : cS a b = -1 := by omega
    by_cases e2 : cS b c = 0
    · have e : b.toList = c.toList := cS_zero.1 e2
      have e3 : cS a c = cS a b := by unfold cS; rw [e]
      rw [e3, e2, l1]
      simp
    · have l2 : cS b c = -1 := by omega
      rw [l1, l2, cS_lt.2 (bl_trans (cS_lt.1 l1) (cS_lt.1 l2))]
      simp
mutual
theorem cmp_three : ∀ (t u v : Tm), P3 (cmpF t u) (cmpF u v) (cmpF t v)
  | .mk k n s ks, .mk k' n' s' ks', .mk k2 n2 s2 ks2 => by
    simp only [cmpF]
    exact (P3.int _ _ _).or ((P3.int _ _ _).or ((P3.int _ _ _).or ((P3.str _ _ _).or (cmpL_three ks ks' ks2))))
theorem cmpL_three : ∀ (ts us vs : List Tm), P3 (cmpL ts us) (cmpL us vs) (cmpL ts vs)
  | [], [], [] => by simp [cmpL, P3]
  | [], [], _ :: _ => by simp [cmpL, P3]
  | [], _ :: _, [] => by simp [cmpL, P3]
  | [], u :: us, v :: vs => by
    have h : P3 (cmpL (u :: us) (v :: vs)) 0 (cmpL (u :: us) (v :: vs)) := by
      have h1 := cmp_bd u v
      have h2 := cmpL_bd us vs
      simp only [cmpL, orI, P3]
      split <;> refine ⟨by omega, by omega, fun a b => ?_⟩ <;> split <;> omega
    simp only [cmpL] at h ⊢
    refine ⟨by omega, h.1, fun _ hy => ?_⟩
    have := h.1
    split <;> omega
  | _ :: _, [], [] => by simp [cmpL, P3]
  | _ :: _, [], _ :: _ => by simp [cmpL, P3]
  | t :: ts, u :: us, [] => by
    have h1 := cmp_bd t u
    have h2 := cmpL_bd ts us
    simp only [cmpL, orI, P3]
    refine ⟨by split <;> omega, by omega, fun a b => by omega⟩
  | t :: ts, u :: us, v :: vs => by
    simp only [cmpL]
    exact (cmp_three t u v).or (cmpL_three ts us vs)
theorem cmp_bd : ∀ (t u : Tm), -1 ≤ cmpF t u ∧ cmpF t u ≤ 1
  | .mk k n s ks, .mk k' n' s' ks' => by
    have h1 := (P3.int (rankF k ks.length) (rankF k' ks'.length) 0).1
    have h2 := (P3.int n n' 0).1
    have h3 := (P3.int (ks.length : Int) ks'.length 0).1
    have h4 := cS_bd s s'
    have h5 := cmpL_bd ks ks'
    simp only [cmpF, orI]
    split
    · split
      · split
        · split <;> omega
        · omega
      · omega
    · omega
theorem cmpL_bd : ∀ (ts us : List Tm), -1 ≤ cmpL ts us ∧ cmpL ts us ≤ 1
  | [], [] => by simp [cmpL]
  | [], _ :: _ => by simp [cmpL]
  | _ :: _, [] => by simp [cmpL]
  | t :: ts, u :: us => by
    have h1 := cmp_bd t u
    have h2 := cmpL_bd ts us
    simp only [cmpL, orI]
    split <;> omega
end
mutual
theorem cmp_neg : ∀ (t u : Tm), cmpF t u = - cmpF u t
  | .mk k n s ks, .mk k' n' s' ks' => by
    simp only [cmpF]
    rw [orI_neg, orI_neg, orI_neg, orI_neg, ← cI_neg, ← cI_neg, ← cI_neg, ← cS_neg, ← cmpL_neg ks ks']
theorem cmpL_neg : ∀ (ts us : List Tm), cmpL ts us = - cmpL us ts
  | [], [] => by simp [cmpL]
  | [], _ :: _ => by simp [cmpL]
  | _ :: _, [] => by simp [cmpL]
  | t :: ts, u :: us => by
    simp only [cmpL]
    rw [orI_neg, ← cmp_neg t u, ← cmpL_neg ts us]
end
theorem rank_kind {k n : Int} {s : ByteArray} {ks : List Tm} {k' n' : Int} {s' : ByteArray} {ks' : List Tm} (h : (k = 1 ∧ s.toList = [] ∧ ks = []) ∨ (k = 2 ∧ s.toList = [] ∧ ks = []) ∨ (k = 3 ∧ n = 0))
    (h' : (k' = 1 ∧ s'.toList = [] ∧ ks' = []) ∨ (k' = 2 ∧ s'.toList = [] ∧ ks' = []) ∨ (k' = 3 ∧ n' = 0)) (hr : rankF k ks.length = rankF k' ks'.length) : k = k' := by
  have r1 := rank3 ks.length
  have r2 := rank3 ks'.length
  rcases h with ⟨rfl, _⟩ | ⟨rfl, _⟩ | ⟨rfl, _⟩ <;> rcases h' with ⟨rfl, _⟩ | ⟨rfl, _⟩ | ⟨rfl, _⟩ <;> first | rfl | (exfalso; simp [rankF] at hr; done) | (exfalso; rw [← hr] at r2; simp [rankF] at r2; done) | (exfalso; rw [hr] at r1; simp [rankF] at r1; done)
mutual
theorem cmp_same : ∀ (t u : Tm) (d e : Nat), shapeF t d = true → shapeF u e = true → (cmpF t u = 0 ↔ Tm.same t u = true)
  | .mk k n s ks, .mk k' n' s' ks', d, e, h, h' => by
    have h1 := shape_own h
    have h1' := shape_own h'
    simp only [shapeF, Bool.and_eq_true] at h h'
    have hl := cmpL_same ks ks' (d - 1) (e - 1) h.2 h'.2
    simp only [cmpF, Tm.same, orI_zero, cI_zero, cS_zero, Bool.and_eq_true, beq_iff_eq, hl]
    constructor
    · rintro ⟨a, b, c, d, e⟩
      exact ⟨⟨⟨rank_kind h1 h1' a, b⟩, d⟩, e⟩
    · rintro ⟨⟨⟨rfl, b⟩, d⟩, e⟩
      have hlen := sameL_len e
      exact ⟨by rw [hlen], b, by rw [hlen], d, e⟩
theorem cmpL_same : ∀ (ts us : List Tm) (d e : Nat), shapeL ts d = true → shapeL us e = true → (cmpL ts us = 0 ↔ Tm.sameL ts us = true)
  | [], [], _, _, _, _ => by simp [cmpL, Tm.sameL]
  | [], _ :: _, _, _, _, _ => by simp [cmpL, Tm.sameL]
  | _ :: _, [], _, _, _, _ => by simp [cmpL, Tm.sameL]
  | t :: ts, u :: us, d, e, h, h' => by
    simp only [shapeL, Bool.and_eq_true] at h h'
    simp only [cmpL, Tm.sameL, orI_zero, Bool.and_eq_true, cmp_same t u d e h.1 h'.1, cmpL_same ts us d e h.2 h'.2]
end

end Go.Proofs.Ytmbapobjopbceaa
