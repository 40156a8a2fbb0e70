/-
  Texts of terms, plain: first bytes, levels of operands; bytes at an offset of a text.
-/
import Derived.Test.YtifklfnpaigdkaaDoorTxtP
namespace Go.Proofs.YtifklfnpaigdkaaDoor
open Go.RowKit
set_option linter.unusedVariables false

def digitB (b : UInt8) : Bool := decide (48 ≤ b.toNat ∧ b.toNat ≤ 57)
theorem bs_get0 (b : UInt8) (r : List UInt8) (h : 0 < (bs (b :: r)).size) : (bs (b :: r))[0] = b := rfl
theorem first_cases (b : UInt8) (r : List UInt8) :
    ((97 ≤ (b.toNat : Int) ∧ (b.toNat : Int) ≤ 122) ∧ plB (b :: r) = true) ∨ (122 < (b.toNat : Int) ∧ digitB b = false ∧ plB (b :: r) = false) ∨
    (((b.toNat : Int) < 97 ∧ 65 ≤ (b.toNat : Int) ∧ (b.toNat : Int) ≤ 90) ∧ plB (b :: r) = true) ∨
    (((b.toNat : Int) < 97 ∧ 90 < (b.toNat : Int)) ∧ digitB b = false ∧ ((b.toNat : Int) == 91) = true ∧ plB (b :: r) = true) ∨
    (((b.toNat : Int) < 97 ∧ 90 < (b.toNat : Int)) ∧ digitB b = false ∧ ((b.toNat : Int) == 91) = false ∧ ((b.toNat : Int) == 40) = false ∧ plB (b :: r) = false) ∨
    ((b.toNat : Int) < 65 ∧ digitB b = true ∧ plB (b :: r) = true) ∨
    ((b.toNat : Int) < 65 ∧ digitB b = false ∧ ((b.toNat : Int) == 91) = false ∧ ((b.toNat : Int) == 40) = true ∧ plB (b :: r) = true) ∨
    ((b.toNat : Int) < 65 ∧ digitB b = false ∧ ((b.toNat : Int) == 91) = false ∧ ((b.toNat : Int) == 40) = false ∧ plB (b :: r) = false) := by
  have hb : ∀ n : Nat, n < 256 → (b == UInt8.ofNat n) = decide (b.toNat = n) := by
    intro n hn
    rw [Bool.eq_iff_iff]
    simp only [beq_iff_eq, decide_eq_true_eq]
    constructor
    · rintro rfl; rw [UInt8.toNat_ofNat']; omega
    · intro h; rw [← h]; simp
  have h91 := hb 91 (by omega)
  have h40 := hb 40 (by omega)
  have hp : plB (b :: r) = (decide (97 ≤ b.toNat ∧ b.toNat ≤ 122) || decide (48 ≤ b.toNat ∧ b.toNat ≤ 57) || decide (65 ≤ b.toNat ∧ b.toNat ≤ 90) || decide (b.toNat = 91) || decide (b.toNat = 40)) := by
    rw [← h91, ← h40]; rfl
  have e91 : ((b.toNat : Int) == 91) = decide (b.toNat = 91) := by rw [Bool.eq_iff_iff]; simp; omega
  have e40 : ((b.toNat : Int) == 40) = decide (b.toNat = 40) := by rw [Bool.eq_iff_iff]; simp; omega
  rw [hp, e91, e40]
  unfold digitB
  simp only [Bool.or_eq_true, Bool.or_eq_false_iff, decide_eq_true_eq, decide_eq_false_iff_not]
  omega

theorem lev_two {k n : Int} {s : ByteArray} {ks : List Tm} {d : Nat} (h : shapeF (.mk k n s ks) d = true) (h2 : ks.length = 2) : levF k s ks.length = opLevelF s.toList := by
  rcases shape_own h with ⟨rfl, _, rfl⟩ | ⟨rfl, _, rfl⟩ | ⟨rfl, rfl⟩
  · simp at h2
  · simp at h2
  · have := opLevel_nn s.toList
    unfold levF infF
    by_cases hp : 0 < opLevelF s.toList
    · simp [hp, h2]
    · simp [hp]; omega
theorem lev_no {k : Int} {s : ByteArray} {len : Nat} (h2 : len ≠ 2) : levF k s len = 0 := by
  unfold levF infF
  rw [if_neg]
  simp
  omega

/-- whether a byte with a property is at an offset -/
def atB (l : List UInt8) (i : Int) (p : UInt8 → Bool) : Bool := decide (0 ≤ i) && (match l[i.toNat]? with | some c => p c | none => false)
def smallB (b : UInt8) : Bool := decide (97 ≤ b.toNat ∧ b.toNat ≤ 122)
theorem atB_neg {l : List UInt8} {i : Int} {p : UInt8 → Bool} (h : ¬ 0 ≤ i) : atB l i p = false := by simp [atB, h]
theorem atB_nat (l : List UInt8) (i : Nat) (p : UInt8 → Bool) : atB l i p = (match l[i]? with | some c => p c | none => false) := by simp [atB]
theorem atB_end {l : List UInt8} {i : Nat} {p : UInt8 → Bool} (h : l.length ≤ i) : atB l i p = false := by rw [atB_nat, List.getElem?_eq_none h]
theorem atB_at {l : List UInt8} {i : Nat} {p : UInt8 → Bool} (h : i < l.length) : atB l i p = p l[i] := by rw [atB_nat, List.getElem?_eq_getElem h]
theorem atB_str {s : ByteArray} {i : Nat} {p : UInt8 → Bool} (h : i < s.size) : atB s.toList i p = p s[i] := by
  rw [atB_at (by rw [bl_len]; exact h), bl_get s i h]
/-- brackets about a text whose operator's level is above another one -/
def brk (x : Tx) (m : Int) : List UInt8 := if m < x.lev then 40 :: (x.txt ++ [41]) else x.txt
theorem opn_left (x : Tx) (m : Int) : opn x m false = if x.sole = true then 40 :: (x.txt ++ [41]) else brk x m := by
  unfold opn brk
  by_cases h : x.sole = true
  · rw [if_pos h, if_pos (.inr (.inl h))]
  · rw [if_neg h]
    by_cases h2 : m < x.lev
    · rw [if_pos h2, if_pos (.inl h2)]
    · rw [if_neg h2, if_neg (by rintro (h3 | h3 | ⟨h3, _⟩); exact h2 h3; exact h h3; cases h3)]
theorem opn_right (x : Tx) (m : Int) (hs : x.sole = true → x.lev ≤ m) : opn x m true = if x.sole = true ∨ plB (brk x m) = false then 40 :: (brk x m ++ [41]) else brk x m := by
  unfold opn brk
  by_cases h2 : m < x.lev
  · rw [if_pos h2, if_pos (.inl h2), if_neg (by
      rintro (h3 | h3)
      · have := hs h3; omega
      · simp [plB] at h3)]
  · rw [if_neg h2]
    by_cases h : x.sole = true ∨ plB x.txt = false
    · rw [if_pos h, if_pos (by rcases h with h | h; exact .inr (.inl h); exact .inr (.inr ⟨rfl, h⟩))]
    · rw [if_neg h, if_neg (by rintro (h3 | h3 | ⟨_, h3⟩); exact h2 h3; exact h (.inl h3); exact h (.inr h3))]
theorem sole_lev {o : Bool} {t : Tm} (h : (txF o t).sole = true) : (txF o t).lev = 0 := by
  obtain ⟨k, n, s, ks⟩ := t
  simp only [txF, soleF] at h ⊢
  simp at h
  obtain ⟨⟨_, rfl⟩, _⟩ := h
  exact lev_no (by simp)
end Go.Proofs.YtifklfnpaigdkaaDoor
