/-
  Texts of terms, plain: one function for both ways of writing (without operators and with them); its lengths and first bytes.
-/
import Derived.Lib.ItoaNum
import Derived.Lib.ItoaLen
import Derived.Lib.AtoiAllCases
import Derived.Test.YtognkaebiafgbaaGreatDoorMq6
import Derived.Test.YtognkaebiafgbaaGreatDoorMq7
namespace Go.Proofs.YtognkaebiafgbaaGreatDoor
open Go.RowKit
set_option linter.unusedVariables false
structure Tx where
  txt : List UInt8
  rst : List UInt8
  lev : Int
  sole : Bool
def letB (n : Int) : UInt8 := UInt8.ofNat (65 + n.toNat)
def tx0 : Tx := ⟨[], [], 0, false⟩
def bs (l : List UInt8) : ByteArray := ⟨l.toArray⟩
theorem bs_list (l : List UInt8) : (bs l).toList = l := by rw [ByteArray.toList_eq]; rfl
theorem bs_of (s : ByteArray) : bs s.toList = s := bl_ext (bs_list _)
theorem bs_size (l : List UInt8) : (bs l).size = l.length := by rw [← bl_len, bs_list]
theorem list_app (a b : ByteArray) : (a ++ b).toList = a.toList ++ b.toList := by simp [ByteArray.toList_eq, ByteArray.data_append]
theorem bs_app (a b : List UInt8) : bs a ++ bs b = bs (a ++ b) := bl_ext (by rw [list_app, bs_list, bs_list, bs_list])
def pairF (k : Int) (s : ByteArray) (len : Nat) : Bool := (k == 3) && (s.toList == [46]) && ((len : Int) == 2)
def nilF (k : Int) (s : ByteArray) (len : Nat) : Bool := (k == 3) && (s.toList == [91, 93]) && ((len : Int) == 0)
def infF (k : Int) (s : ByteArray) (len : Nat) : Bool := (k == 3) && ((len : Int) == 2) && decide (0 < opLevelF s.toList)
def soleF (k : Int) (s : ByteArray) (len : Nat) : Bool := (k == 3) && ((len : Int) == 0) && decide (0 < opLevelF s.toList)
def levF (k : Int) (s : ByteArray) (len : Nat) : Int := if infF k s len = true then opLevelF s.toList else 0
def joinF : List (List UInt8) → List UInt8
  | [] => []
  | [x] => x
  | x :: y :: xs => x ++ 44 :: joinF (y :: xs)
def plB : List UInt8 → Bool
  | [] => false
  | b :: _ => decide (97 ≤ b.toNat ∧ b.toNat ≤ 122) || decide (48 ≤ b.toNat ∧ b.toNat ≤ 57) || decide (65 ≤ b.toNat ∧ b.toNat ≤ 90) || b == 91 || b == 40
def opn (x : Tx) (most : Int) (right : Bool) : List UInt8 := if most < x.lev ∨ x.sole = true ∨ (right = true ∧ plB x.txt = false) then 40 :: (x.txt ++ [41]) else x.txt
def spaced (s : List UInt8) : List UInt8 := if wordF s = true then 32 :: (s ++ [32]) else s
def leftM (s : List UInt8) : Int := if opLevelF s = 3 then 2 else opLevelF s
def ownTx (o : Bool) (k n : Int) (s : ByteArray) (ps : List Tx) : List UInt8 :=
  if k = 1 then [letB n] else if k = 2 then Lib.itoa n else
  if (o && infF k s ps.length) = true then opn (ps.getD 0 tx0) (leftM s.toList) false ++ (spaced s.toList ++ opn (ps.getD 1 tx0) (opLevelF s.toList - 1) true) else
  if pairF k s ps.length = true then 91 :: ((ps.getD 0 tx0).txt ++ ((ps.getD 1 tx0).rst ++ [93])) else
  if ps.length = 0 then s.toList else s.toList ++ 40 :: (joinF (ps.map Tx.txt) ++ [41])
def restTx (o : Bool) (k n : Int) (s : ByteArray) (ps : List Tx) : List UInt8 :=
  if pairF k s ps.length = true then 44 :: ((ps.getD 0 tx0).txt ++ (ps.getD 1 tx0).rst) else if nilF k s ps.length = true then [] else 124 :: ownTx o k n s ps
mutual
def txF (o : Bool) : Tm → Tx
  | .mk k n s ks => ⟨ownTx o k n s (txL o ks), restTx o k n s (txL o ks), levF k s ks.length, soleF k s ks.length⟩
def txL (o : Bool) : List Tm → List Tx
  | [] => []
  | t :: ts => txF o t :: txL o ts
end
def txt (o : Bool) (t : Tm) : List UInt8 := (txF o t).txt
def rst (o : Bool) (t : Tm) : List UInt8 := (txF o t).rst
theorem txL_len (o : Bool) : ∀ ts : List Tm, (txL o ts).length = ts.length
  | [] => rfl
  | t :: ts => by simp [txL, txL_len o ts]
theorem txL_map (o : Bool) : ∀ ts : List Tm, (txL o ts).map Tx.txt = ts.map (txt o)
  | [] => rfl
  | t :: ts => by simp [txL, txL_map o ts, txt]
theorem shape_int' {n : Int} {s : ByteArray} {ks : List Tm} {d : Nat} (h : shapeF (.mk 2 n s ks) d = true) : -999 ≤ n ∧ n ≤ 999 := by
  simp only [shapeF, Bool.and_eq_true] at h
  have h2 := h.1.2
  unfold ownF at h2
  simp at h2
  exact ⟨h2.1.1.1, h2.1.1.2⟩
theorem sign_len {s : ByteArray} (h : hasF signs s = true) : 1 ≤ s.toList.length ∧ s.toList.length ≤ 3 := by
  simp only [hasF, List.any_eq_true, beq_iff_eq] at h
  obtain ⟨x, hx, e⟩ := h
  rw [← e]
  clear e
  simp only [signs, List.mem_cons, List.not_mem_nil, or_false] at hx
  rcases hx with rfl | rfl | rfl | rfl | rfl | rfl | rfl | rfl | rfl | rfl | rfl | rfl | rfl | rfl | rfl <;> simp [ByteArray.toList_eq]
theorem name_len {s : ByteArray} (h : nameF s = true) : 1 ≤ s.toList.length ∧ s.toList.length ≤ 6 := by
  simp only [nameF, Bool.or_eq_true] at h
  rcases h with h | h
  · simp only [wordF, Bool.and_eq_true, decide_eq_true_eq] at h
    exact h.2
  · have := sign_len h; omega
theorem shape_name {n : Int} {s : ByteArray} {ks : List Tm} {d : Nat} (h : shapeF (.mk 3 n s ks) d = true) : nameF s = true ∧ ks.length ≤ 4 := by
  simp only [shapeF, Bool.and_eq_true] at h
  have := h.1.2
  simp [ownF] at this
  exact ⟨this.1.2, this.2⟩
theorem opn_le (x : Tx) (m : Int) (r : Bool) : (opn x m r).length ≤ x.txt.length + 2 := by
  unfold opn
  split
  · simp
  · omega
theorem spaced_le (s : List UInt8) : (spaced s).length ≤ s.length + 2 := by
  unfold spaced
  split
  · simp
  · omega
theorem joinF_le : ∀ xs : List (List UInt8), (joinF xs).length ≤ (xs.map fun x => x.length + 1).sum
  | [] => by simp [joinF]
  | [x] => by simp [joinF]
  | x :: y :: xs => by
    have := joinF_le (y :: xs)
    simp only [joinF, List.length_append, List.length_cons, List.map_cons, List.sum_cons] at this ⊢
    omega
theorem len_two {ks : List Tm} (h : ks.length = 2) : ∃ a b, ks = [a, b] := by
  rcases ks with _ | ⟨a, _ | ⟨b, _ | ⟨c, l⟩⟩⟩ <;> simp at h
  exact ⟨a, b, rfl⟩
theorem inf_two {k : Int} {s : ByteArray} {len : Nat} (h : infF k s len = true) : k = 3 ∧ len = 2 ∧ 0 < opLevelF s.toList := by
  simp [infF] at h; omega
theorem pair_two {k : Int} {s : ByteArray} {len : Nat} (h : pairF k s len = true) : k = 3 ∧ len = 2 ∧ s.toList = [46] := by
  simp [pairF] at h; exact ⟨h.1.1, by omega, h.1.2⟩
mutual
theorem tx_len (o : Bool) : ∀ (t : Tm) (d : Nat), shapeF t d = true → (txt o t).length + 3 ≤ 32 * Tm.sz t ∧ (rst o t).length + 2 ≤ 32 * Tm.sz t
  | .mk k n s ks, d, h => by
    have hl := tx_lens o ks (d - 1) (by simp only [shapeF, Bool.and_eq_true] at h; exact h.2)
    have key : (ownTx o k n s (txL o ks)).length + 3 ≤ 32 * Tm.sz (.mk k n s ks) := by
      rcases shape_own h with ⟨rfl, _, rfl⟩ | ⟨rfl, _, rfl⟩ | ⟨rfl, rfl⟩
      · simp [ownTx, Tm.sz]; omega
      · have := Lib.itoa_length_le n (by have := shape_int' h; omega) (by have := shape_int' h; omega)
        simp [ownTx, Tm.sz]
        omega
      · obtain ⟨hn, _⟩ := shape_name h
        have hn := name_len hn
        simp only [ownTx, if_neg (show ¬ (3 : Int) = 1 by decide), if_neg (show ¬ (3 : Int) = 2 by decide), Tm.sz, txL_len]
        split
        · rename_i hi
          obtain ⟨a, b, rfl⟩ := len_two (inf_two (by simp only [Bool.and_eq_true] at hi; exact hi.2)).2.1
          have h1 := opn_le ((txL o [a, b]).getD 0 tx0) (leftM s.toList) false
          have h2 := opn_le ((txL o [a, b]).getD 1 tx0) (opLevelF s.toList - 1) true
          have h3 := spaced_le s.toList
          have h4 := hl.2 0 a rfl
          have h5 := hl.2 1 b rfl
          have h6 := hl.1
          simp only [txL, List.getD, List.getElem?_cons_zero, List.getElem?_cons_succ, Option.getD_some, Tm.szL, txt, rst, List.map_cons, List.map_nil, List.sum_cons, List.sum_nil] at *
          simp only [List.length_append]
          omega
        · split
          · rename_i _ hp
            obtain ⟨a, b, rfl⟩ := len_two (pair_two hp).2.1
            have h4 := hl.2 0 a rfl
            have h5 := hl.2 1 b rfl
            simp only [txL, List.getD, List.getElem?_cons_zero, List.getElem?_cons_succ, Option.getD_some, Tm.szL, txt, rst] at *
            simp only [List.length_append, List.length_cons, List.length_nil]
            omega
          · split
            · omega
            · have := joinF_le ((txL o ks).map Tx.txt)
              rw [txL_map] at this ⊢
              have h6 := hl.1
              simp only [List.length_append, List.length_cons, List.length_nil, List.map_map] at *
              simp only [Function.comp_def] at *
              omega
    refine ⟨by simpa [txt, txF] using key, ?_⟩
    simp only [rst, txF, restTx]
    split
    · rename_i hp
      rw [txL_len] at hp
      obtain ⟨a, b, rfl⟩ := len_two (pair_two hp).2.1
      have h4 := hl.2 0 a rfl
      have h5 := hl.2 1 b rfl
      simp only [txL, List.getD, List.getElem?_cons_zero, List.getElem?_cons_succ, Option.getD_some, Tm.szL, Tm.sz, txt, rst] at *
      simp only [List.length_append, List.length_cons]
      omega
    · split
      · simp [Tm.sz]; omega
      · simp only [List.length_cons]; omega
theorem tx_lens (o : Bool) : ∀ (ts : List Tm) (d : Nat), shapeL ts d = true → ((ts.map (txt o)).map fun x => x.length + 1).sum ≤ 32 * Tm.szL ts ∧ ∀ (j : Nat) (t : Tm), ts[j]? = some t → (txt o t).length + 3 ≤ 32 * Tm.sz t ∧ (rst o t).length + 2 ≤ 32 * Tm.sz t
  | [], d, h => ⟨by simp, fun j t ht => by simp at ht⟩
  | t :: ts, d, h => by
    simp only [shapeL, Bool.and_eq_true] at h
    have h1 := tx_len o t d h.1
    have h2 := tx_lens o ts d h.2
    refine ⟨?_, fun j u hu => ?_⟩
    · have := h2.1
      simp only [List.map_cons, List.sum_cons, Tm.szL] at this ⊢
      omega
    · rcases j with _ | j
      · simp at hu; subst hu; exact h1
      · exact h2.2 j u (by simpa using hu)
end
theorem opn_ne {x : Tx} {m : Int} {r : Bool} (h : x.txt ≠ []) : opn x m r ≠ [] := by
  unfold opn
  split
  · simp
  · exact h
mutual
theorem tx_ne (o : Bool) : ∀ (t : Tm) (d : Nat), shapeF t d = true → txt o t ≠ []
  | .mk k n s ks, d, h => by
    have hl := tx_nes o ks (d - 1) (by simp only [shapeF, Bool.and_eq_true] at h; exact h.2)
    simp only [txt, txF]
    rcases shape_own h with ⟨rfl, _, rfl⟩ | ⟨rfl, _, rfl⟩ | ⟨rfl, rfl⟩
    · simp [ownTx]
    · simp only [ownTx, if_neg (show ¬ (2 : Int) = 1 by decide), if_true]
      unfold Lib.itoa
      split
      · simp
      · intro e
        have := congrArg List.length e
        rw [Lib.decDigits_length] at this
        have := Lib.nDigits_pos n.toNat
        simp at *
        omega
    · obtain ⟨hn, _⟩ := shape_name h
      have hn := name_len hn
      have hs : s.toList ≠ [] := fun e => by rw [e] at hn; simp at hn
      simp only [ownTx, if_neg (show ¬ (3 : Int) = 1 by decide), if_neg (show ¬ (3 : Int) = 2 by decide), txL_len]
      split
      · rename_i hi
        obtain ⟨a, b, rfl⟩ := len_two (inf_two (by simp only [Bool.and_eq_true] at hi; exact hi.2)).2.1
        have := hl 0 a rfl
        intro e
        have e1 := (List.append_eq_nil_iff.1 e).1
        exact opn_ne (by simpa [txL, txt] using this) e1
      · split
        · simp
        · split
          · exact hs
          · simp
theorem tx_nes (o : Bool) : ∀ (ts : List Tm) (d : Nat), shapeL ts d = true → ∀ (j : Nat) (t : Tm), ts[j]? = some t → txt o t ≠ []
  | [], d, h, j, t, ht => by simp at ht
  | t :: ts, d, h, j, u, hu => by
    simp only [shapeL, Bool.and_eq_true] at h
    rcases j with _ | j
    · simp at hu; subst hu; exact tx_ne o t d h.1
    · exact tx_nes o ts d h.2 j u (by simpa using hu)
end
end Go.Proofs.YtognkaebiafgbaaGreatDoor

namespace Go.Proofs.YtognkaebiafgbaaGreatDoor
open Go.RowKit
set_option linter.unusedVariables false
def digitB (b : UInt8) : Bool := decide (48 ≤ b.toNat ∧ b.toNat ≤ 57)
theorem bs_get0 (b : UInt8) (r : List UInt8) (h : 0 < (bs (b :: r)).size) : (bs (b :: r))[0] = b := rfl
theorem first_cases (b : UInt8) (r : List UInt8) :
    ((97 ≤ (b.toNat : Int) ∧ (b.toNat : Int) ≤ 122) ∧ plB (b :: r) = true) ∨ (122 < (b.toNat : Int) ∧ digitB b = false ∧ plB (b :: r) = false) ∨
    (((b.toNat : Int) < 97 ∧ 65 ≤ (b.toNat : Int) ∧ (b.toNat : Int) ≤ 90) ∧ plB (b :: r) = true) ∨
    (((b.toNat : Int) < 97 ∧ 90 < (b.toNat : Int)) ∧ digitB b = false ∧ ((b.toNat : Int) == 91) = true ∧ plB (b :: r) = true) ∨
    (((b.toNat : Int) < 97 ∧ 90 < (b.toNat : Int)) ∧ digitB b = false ∧ ((b.toNat : Int) == 91) = false ∧ ((b.toNat : Int) == 40) = false ∧ plB (b :: r) = false) ∨
    ((b.toNat : Int) < 65 ∧ digitB b = true ∧ plB (b :: r) = true) ∨
    ((b.toNat : Int) < 65 ∧ digitB b = false ∧ ((b.toNat : Int) == 91) = false ∧ ((b.toNat : Int) == 40) = true ∧ plB (b :: r) = true) ∨
    ((b.toNat : Int) < 65 ∧ digitB b = false ∧ ((b.toNat : Int) == 91) = false ∧ ((b.toNat : Int) == 40) = false ∧ plB (b :: r) = false) := by
  have hb : ∀ n : Nat, n < 256 → (b == UInt8.ofNat n) = decide (b.toNat = n) := by
    intro n hn
    rw [Bool.eq_iff_iff]
    simp only [beq_iff_eq, decide_eq_true_eq]
    constructor
    · rintro rfl; rw [UInt8.toNat_ofNat']; omega
    · intro h; rw [← h]; simp
  have h91 := hb 91 (by omega)
  have h40 := hb 40 (by omega)
  have hp : plB (b :: r) = (decide (97 ≤ b.toNat ∧ b.toNat ≤ 122) || decide (48 ≤ b.toNat ∧ b.toNat ≤ 57) || decide (65 ≤ b.toNat ∧ b.toNat ≤ 90) || decide (b.toNat = 91) || decide (b.toNat = 40)) := by
    rw [← h91, ← h40]; rfl
  have e91 : ((b.toNat : Int) == 91) = decide (b.toNat = 91) := by rw [Bool.eq_iff_iff]; simp; omega
  have e40 : ((b.toNat : Int) == 40) = decide (b.toNat = 40) := by rw [Bool.eq_iff_iff]; simp; omega
  rw [hp, e91, e40]
  unfold digitB
  simp only [Bool.or_eq_true, Bool.or_eq_false_iff, decide_eq_true_eq, decide_eq_false_iff_not]
  omega
theorem lev_two {k n : Int} {s : ByteArray} {ks : List Tm} {d : Nat} (h : shapeF (.mk k n s ks) d = true) (h2 : ks.length = 2) : levF k s ks.length = opLevelF s.toList := by
  rcases shape_own h with ⟨rfl, _, rfl⟩ | ⟨rfl, _, rfl⟩ | ⟨rfl, rfl⟩
  · simp at h2
  · simp at h2
  · have := opLevel_nn s.toList
    unfold levF infF
    by_cases hp : 0 < opLevelF s.toList
    · simp [hp, h2]
    · simp [hp]; omega
theorem lev_no {k : Int} {s : ByteArray} {len : Nat} (h2 : len ≠ 2) : levF k s len = 0 := by
  unfold levF infF
  rw [if_neg]
  simp
  omega
def atB (l : List UInt8) (i : Int) (p : UInt8 → Bool) : Bool := decide (0 ≤ i) && (match l[i.toNat]? with | some c => p c | none => false)
def smallB (b : UInt8) : Bool := decide (97 ≤ b.toNat ∧ b.toNat ≤ 122)
theorem atB_neg {l : List UInt8} {i : Int} {p : UInt8 → Bool} (h : ¬ 0 ≤ i) : atB l i p = false := by simp [atB, h]
theorem atB_nat (l : List UInt8) (i : Nat) (p : UInt8 → Bool) : atB l i p = (match l[i]? with | some c => p c | none => false) := by simp [atB]
theorem atB_end {l : List UInt8} {i : Nat} {p : UInt8 → Bool} (h : l.length ≤ i) : atB l i p = false := by rw [atB_nat, List.getElem?_eq_none h]
theorem atB_at {l : List UInt8} {i : Nat} {p : UInt8 → Bool} (h : i < l.length) : atB l i p = p l[i] := by rw [atB_nat, List.getElem?_eq_getElem h]
theorem atB_str {s : ByteArray} {i : Nat} {p : UInt8 → Bool} (h : i < s.size) : atB s.toList i p = p s[i] := by
  rw [atB_at (by rw [bl_len]; exact h), bl_get s i h]
def brk (x : Tx) (m : Int) : List UInt8 := if m < x.lev then 40 :: (x.txt ++ [41]) else x.txt
theorem opn_left (x : Tx) (m : Int) : opn x m false = if x.sole = true then 40 :: (x.txt ++ [41]) else brk x m := by
  unfold opn brk
  by_cases h : x.sole = true
  · rw [if_pos h, if_pos (.inr (.inl h))]
  · rw [if_neg h]
    by_cases h2 : m < x.lev
    · rw [if_pos h2, if_pos (.inl h2)]
    · rw [if_neg h2, if_neg (by rintro (h3 | h3 | ⟨h3, _⟩); exact h2 h3; exact h h3; cases h3)]
theorem opn_right (x : Tx) (m : Int) (hs : x.sole = true → x.lev ≤ m) : opn x m true = if x.sole = true ∨ plB (brk x m) = false then 40 :: (brk x m ++ [41]) else brk x m := by
  unfold opn brk
  by_cases h2 : m < x.lev
  · rw [if_pos h2, if_pos (.inl h2), if_neg (by
      rintro (h3 | h3)
      · have := hs h3; omega
      · simp [plB] at h3)]
  · rw [if_neg h2]
    by_cases h : x.sole = true ∨ plB x.txt = false
    · rw [if_pos h, if_pos (by rcases h with h | h; exact .inr (.inl h); exact .inr (.inr ⟨rfl, h⟩))]
    · rw [if_neg h, if_neg (by rintro (h3 | h3 | ⟨_, h3⟩); exact h2 h3; exact h (.inl h3); exact h (.inr h3))]
theorem sole_lev {o : Bool} {t : Tm} (h : (txF o t).sole = true) : (txF o t).lev = 0 := by
  obtain ⟨k, n, s, ks⟩ := t
  simp only [txF, soleF] at h ⊢
  simp at h
  obtain ⟨⟨_, rfl⟩, _⟩ := h
  exact lev_no (by simp)
end Go.Proofs.YtognkaebiafgbaaGreatDoor

namespace Go.Proofs.YtognkaebiafgbaaGreatDoor
open Go.RowKit
set_option linter.unusedVariables false
def eN : ByteArray := ⟨#[]⟩
def isUp (b : UInt8) : Bool := decide (65 ≤ b.toNat ∧ b.toNat ≤ 90)
def vT (b : UInt8) : Tm := .mk 1 ((b.toNat : Int) - 65) eN []
def nT (n : Int) : Tm := .mk 2 n eN []
def sT (s : ByteArray) (ks : List Tm) : Tm := .mk 3 0 s ks
def dotN : ByteArray := ⟨#[46]⟩
def nilN : ByteArray := ⟨#[91, 93]⟩
def chainT : List Tm → Tm → Tm
  | [], tl => tl
  | x :: xs, tl => sT dotN [x, chainT xs tl]
def numStart : List UInt8 → Bool
  | [] => false
  | b :: r => digitB b || (b == 45 && (match r with | [] => false | c :: _ => digitB c))
open Classical in
noncomputable def numO (ds : List UInt8) : Option Int := if h : ∃ n : Int, (-999 ≤ n ∧ n ≤ 999) ∧ Lib.itoa n = ds then some h.choose else none
noncomputable def numP : List UInt8 → Option (Tm × List UInt8)
  | [] => none
  | b :: r => match numO (b :: r.takeWhile digitB) with
    | some n => some (nT n, r.dropWhile digitB)
    | none => none
def signN (rest : List UInt8) : Nat := signs.foldl (fun n s => if s.toList.isPrefixOf rest = true then max n s.size else n) 0
def nameP (rest : List UInt8) : Option (List UInt8 × List UInt8) :=
  if 6 < (rest.takeWhile smallB).length then none else
  if 0 < (rest.takeWhile smallB).length then some (rest.takeWhile smallB, rest.dropWhile smallB) else
  if signN rest = 0 then none else some (rest.take (signN rest), rest.drop (signN rest))
def wordOps : List ByteArray := [⟨#[105, 115]⟩, ⟨#[109, 111, 100]⟩]
def opP (rest : List UInt8) : List UInt8 :=
  (signs ++ wordOps).foldl (fun best s => if (decide (0 < opLevelF s.toList) && (spaced s.toList).isPrefixOf rest && decide (best.length < s.toList.length)) = true then s.toList else best) []
mutual
noncomputable def primF (o : Bool) : Nat → Nat → List UInt8 → Option (Tm × List UInt8)
  | 0, _, _ => none
  | F + 1, deep, rest =>
    if 30 < deep then none else
    match rest with
    | [] => none
    | b :: r =>
      if b = 0 then none else
      if isUp b = true then some (vT b, r) else
      if numStart (b :: r) = true then numP (b :: r) else
      if b = 40 ∧ o = true then
        match termF o F 3 deep r with
        | some (t, c :: r') => if c = 41 then some (t, r') else none
        | _ => none
      else if b = 91 ∧ r.head? ≠ some 93 then listF o F deep [] r else
      match nameP (b :: r) with
      | none => none
      | some (s, c :: r') => if c = 40 then argsF o F deep (bs s) [] r' else some (sT (bs s) [], c :: r')
      | some (s, []) => some (sT (bs s) [], [])
noncomputable def argsF (o : Bool) : Nat → Nat → ByteArray → List Tm → List UInt8 → Option (Tm × List UInt8)
  | 0, _, _, _, _ => none
  | F + 1, deep, s, acc, rest =>
    match (if o = true then termF o F 3 (deep + 1) rest else primF o F (deep + 1) rest) with
    | some (k, c :: r) => if c = 44 then argsF o F deep s (acc ++ [k]) r else if c = 41 then some (sT s (acc ++ [k]), r) else none
    | _ => none
noncomputable def listF (o : Bool) : Nat → Nat → List Tm → List UInt8 → Option (Tm × List UInt8)
  | 0, _, _, _ => none
  | F + 1, deep, acc, rest =>
    match (if o = true then termF o F 3 (deep + 1 + acc.length) rest else primF o F (deep + 1 + acc.length) rest) with
    | some (k, c :: r) =>
      if c = 44 then listF o F deep (acc ++ [k]) r else
      if c = 124 then
        match (if o = true then termF o F 3 (deep + 1 + acc.length) r else primF o F (deep + 1 + acc.length) r) with
        | some (tl, d :: r') => if d = 93 then some (chainT (acc ++ [k]) tl, r') else none
        | _ => none
      else if c = 93 then some (chainT (acc ++ [k]) (sT nilN []), r) else none
    | _ => none
noncomputable def termF (o : Bool) : Nat → Int → Nat → List UInt8 → Option (Tm × List UInt8)
  | 0, _, _, _ => none
  | F + 1, level, deep, rest =>
    match primF o F deep rest with
    | some (t, r) => loopF o F level deep 0 t r
    | none => none
noncomputable def loopF (o : Bool) : Nat → Int → Nat → Int → Tm → List UInt8 → Option (Tm × List UInt8)
  | 0, _, _, _, _, _ => none
  | F + 1, level, deep, mine, t, rest =>
    if opP rest = [] ∨ level < opLevelF (opP rest) ∨ leftM (opP rest) < mine then some (t, rest) else
    match termF o F (opLevelF (opP rest) - 1) deep (rest.drop (spaced (opP rest)).length) with
    | some (r, rest') => loopF o F level deep (opLevelF (opP rest)) (sT (bs (opP rest)) [t, r]) rest'
    | none => none
end
def Par {α : Type} (f : Nat → Option α) (x : α) : Prop := ∃ F0, ∀ F, F0 ≤ F → f F = some x
theorem Par.step {α β : Type} {f : Nat → Option α} {g : Nat → Option β} {x : α} {y : β} (h : Par f x) (e : ∀ F, f F = some x → g (F + 1) = some y) : Par g y := by
  obtain ⟨F0, h⟩ := h
  refine ⟨F0 + 1, fun F hF => ?_⟩
  obtain ⟨F, rfl⟩ : ∃ G, F = G + 1 := ⟨F - 1, by omega⟩
  exact e F (h F (by omega))
theorem Par.now {α : Type} {g : Nat → Option α} {x : α} (e : ∀ F, g (F + 1) = some x) : Par g x := ⟨1, fun F hF => by
  obtain ⟨F, rfl⟩ : ∃ G, F = G + 1 := ⟨F - 1, by omega⟩
  exact e F⟩
theorem Par.two {α β γ : Type} {f : Nat → Option α} {h : Nat → Option β} {g : Nat → Option γ} {x : α} {y : β} {z : γ} (hf : Par f x) (hh : Par h y) (e : ∀ F, f F = some x → h F = some y → g (F + 1) = some z) : Par g z := by
  obtain ⟨F0, hf⟩ := hf
  obtain ⟨F1, hh⟩ := hh
  refine ⟨F0 + F1 + 1, fun F hF => ?_⟩
  obtain ⟨F, rfl⟩ : ∃ G, F = G + 1 := ⟨F - 1, by omega⟩
  exact e F (hf F (by omega)) (hh F (by omega))
def valD (l : List UInt8) : Nat := l.foldl (fun n c => n * 10 + (c.toNat - 48)) 0
theorem valD_snoc (l : List UInt8) (c : UInt8) : valD (l ++ [c]) = valD l * 10 + (c.toNat - 48) := by simp [valD, List.foldl_append]
theorem dig_nat {u : Nat} (h : u < 10) : (UInt8.ofNat (48 + u)).toNat = 48 + u := by rw [UInt8.toNat_ofNat']; omega
theorem val_dec : ∀ (m u : Nat), u ≤ m → valD (Lib.decDigits u) = u
  | m, u, hm => by
    by_cases h : u < 10
    · rw [Lib.decDigits_one h]
      simp only [valD, List.foldl_cons, List.foldl_nil]
      rw [dig_nat h]; omega
    · rw [Lib.decDigits, dif_neg h, valD_snoc, dig_nat (Nat.mod_lt _ (by omega))]
      cases m with
      | zero => omega
      | succ m =>
        rw [val_dec m (u / 10) (by omega)]
        omega
theorem dec_digits : ∀ (m u : Nat), u ≤ m → ∀ c ∈ Lib.decDigits u, digitB c = true
  | m, u, hm, c, hc => by
    by_cases h : u < 10
    · rw [Lib.decDigits_one h] at hc
      simp at hc
      rw [hc]
      have := dig_nat h
      simp only [digitB, decide_eq_true_eq]
      have e : 48 + UInt8.ofNat u = UInt8.ofNat (48 + u) := by simp
      rw [e, this]; omega
    · rw [Lib.decDigits, dif_neg h, List.mem_append, List.mem_singleton] at hc
      rcases hc with hc | rfl
      · cases m with
        | zero => omega
        | succ m => exact dec_digits m (u / 10) (by omega) c hc
      · simp only [digitB, decide_eq_true_eq]
        rw [dig_nat (Nat.mod_lt _ (by omega))]
        have := Nat.mod_lt u (show 0 < 10 by omega)
        omega
theorem dec_ne (u : Nat) : Lib.decDigits u ≠ [] := by
  intro e
  have := congrArg List.length e
  rw [Lib.decDigits_length] at this
  have := Lib.nDigits_pos u
  simp at *
  omega
theorem itoa_inj {m n : Int} (h : Lib.itoa m = Lib.itoa n) : m = n := by
  unfold Lib.itoa at h
  have key : ∀ u v : Nat, Lib.decDigits u = Lib.decDigits v → u = v := fun u v e => by
    rw [← val_dec u u (Nat.le_refl _), ← val_dec v v (Nat.le_refl _), e]
  have no : ∀ (u : Nat) (l : List UInt8), Lib.decDigits u ≠ 45 :: l := fun u l e => by
    have := dec_digits u u (Nat.le_refl _) 45 (by rw [e]; simp)
    simp [digitB] at this
  split at h <;> split at h
  · simp only [List.cons.injEq, true_and] at h
    have := key _ _ h
    omega
  · exact absurd h.symm (no _ _)
  · exact absurd h (no _ _)
  · have := key _ _ h
    omega
theorem numO_itoa {n : Int} (h0 : -999 ≤ n) (h1 : n ≤ 999) : numO (Lib.itoa n) = some n := by
  have h : ∃ m : Int, (-999 ≤ m ∧ m ≤ 999) ∧ Lib.itoa m = Lib.itoa n := ⟨n, ⟨h0, h1⟩, rfl⟩
  unfold numO
  rw [dif_pos h]
  exact congrArg some (itoa_inj h.choose_spec.2)
theorem numO_some {ds : List UInt8} {n : Int} (h : numO ds = some n) : -999 ≤ n ∧ n ≤ 999 ∧ Lib.itoa n = ds := by
  unfold numO at h
  split at h
  · rename_i he
    have := he.choose_spec
    rw [Option.some.inj h] at this
    exact ⟨this.1.1, this.1.2, this.2⟩
  · cases h
end Go.Proofs.YtognkaebiafgbaaGreatDoor

namespace Go.Proofs.YtognkaebiafgbaaGreatDoor
open Go.RowKit
set_option linter.unusedVariables false
theorem dig_bd {c : UInt8} (h : digitB c = true) : 48 ≤ c.toNat ∧ c.toNat ≤ 57 := by simpa [digitB] using h
theorem pu_snoc : ∀ (l : List UInt8) (acc v : Nat) (c : UInt8), Lib.parseUint10 acc l = .ok v → digitB c = true → v < 1000 → Lib.parseUint10 acc (l ++ [c]) = .ok (v * 10 + (c.toNat - 48))
  | [], acc, v, c, h, hc, hv => by
    simp only [Lib.parseUint10] at h
    injection h with h
    subst h
    have := dig_bd hc
    simp only [List.nil_append, Lib.parseUint10]
    rw [if_pos this, if_neg (by omega), if_neg (by omega)]
  | d :: l, acc, v, c, h, hc, hv => by
    simp only [Lib.parseUint10] at h
    simp only [List.cons_append, Lib.parseUint10]
    split at h
    · rename_i h1
      split at h
      · cases h
      · rename_i h2
        split at h
        · cases h
        · rename_i h3
          rw [if_pos h1, if_neg h2, if_neg h3]
          exact pu_snoc l _ v c h hc hv
    · cases h
theorem pu_dec : ∀ (m u : Nat), u ≤ m → u ≤ 999 → Lib.parseUint10 0 (Lib.decDigits u) = .ok u
  | m, u, hm, hu => by
    by_cases h : u < 10
    · rw [Lib.decDigits_one h]
      have hd := dig_nat h
      have hdd : digitB (UInt8.ofNat (48 + u)) = true := by simp only [digitB, decide_eq_true_eq]; rw [hd]; omega
      have := pu_snoc [] 0 0 (UInt8.ofNat (48 + u)) rfl hdd (by omega)
      rw [hd] at this
      rw [List.nil_append] at this
      rw [show UInt8.ofNat (48 + u) = 48 + UInt8.ofNat u by simp] at this
      simpa using this
    · cases m with
      | zero => omega
      | succ m =>
        have ih := pu_dec m (u / 10) (by omega) (by omega)
        have hd := dig_nat (Nat.mod_lt u (show 0 < 10 by omega))
        have hdd : digitB (UInt8.ofNat (48 + u % 10)) = true := by
          simp only [digitB, decide_eq_true_eq]; rw [hd]
          have := Nat.mod_lt u (show 0 < 10 by omega)
          omega
        have := pu_snoc _ 0 _ (UInt8.ofNat (48 + u % 10)) ih hdd (by omega)
        rw [hd] at this
        rw [Lib.decDigits, dif_neg h]
        rw [this]
        congr 1
        omega
theorem pu_dig : ∀ (l : List UInt8) (acc : Nat), (∀ c ∈ l, digitB c = true) → Lib.parseUint10 acc l = .range ∨ ∃ u, Lib.parseUint10 acc l = .ok u
  | [], acc, _ => .inr ⟨acc, rfl⟩
  | c :: l, acc, h => by
    have hc := dig_bd (h c (by simp))
    simp only [Lib.parseUint10]
    rw [if_pos hc]
    split
    · exact .inl rfl
    · split
      · exact .inl rfl
      · exact pu_dig l _ (fun x hx => h x (by simp [hx]))
theorem atoi_itoa {n : Int} (h0 : -999 ≤ n) (h1 : n ≤ 999) : Lib.atoiAll (Lib.itoa n) = .ok n := by
  unfold Lib.itoa
  split
  · rename_i hn
    rw [Lib.atoiAll_minus]
    unfold Lib.parseMag
    rw [if_neg (dec_ne _), pu_dec _ _ (Nat.le_refl _) (by omega)]
    simp only [Lib.signed]
    rw [if_neg (by omega)]
    congr 1
    omega
  · cases h : Lib.decDigits n.toNat with
    | nil => exact absurd h (dec_ne _)
    | cons c l =>
      have hc := dig_bd (dec_digits _ _ (Nat.le_refl n.toNat) c (by rw [h]; simp))
      rw [Lib.atoiAll_plain c l (by omega) (by omega), ← h]
      unfold Lib.parseMag
      rw [if_neg (dec_ne _), pu_dec _ _ (Nat.le_refl _) (by omega)]
      simp only [Lib.signless]
      rw [if_neg (by omega)]
      congr 1
      omega
theorem atoi_numeral {b : UInt8} {l : List UInt8} (hb : digitB b = true ∨ (b = 45 ∧ l ≠ [])) (hl : ∀ c ∈ l, digitB c = true) : Lib.atoiAll (b :: l) = .range ∨ ∃ v, Lib.atoiAll (b :: l) = .ok v := by
  rcases hb with hb | ⟨rfl, hne⟩
  · have hc := dig_bd hb
    rw [Lib.atoiAll_plain b l (by omega) (by omega)]
    unfold Lib.parseMag
    rw [if_neg (by simp)]
    rcases pu_dig (b :: l) 0 (fun c h => by rcases List.mem_cons.1 h with h | h; rw [h]; exact hb; exact hl c h) with h | ⟨u, h⟩
    · rw [h]; exact .inl rfl
    · rw [h]
      simp only [Lib.signless]
      split
      · exact .inl rfl
      · exact .inr ⟨_, rfl⟩
  · rw [Lib.atoiAll_minus]
    unfold Lib.parseMag
    rw [if_neg hne]
    rcases pu_dig l 0 hl with h | ⟨u, h⟩
    · rw [h]; exact .inl rfl
    · rw [h]
      simp only [Lib.signed]
      split
      · exact .inl rfl
      · exact .inr ⟨_, rfl⟩
theorem numO_range {ds : List UInt8} (h : Lib.atoiAll ds = .range) : numO ds = none := by
  cases e : numO ds with
  | none => rfl
  | some n =>
    obtain ⟨h0, h1, h2⟩ := numO_some e
    rw [← h2, atoi_itoa h0 h1] at h
    cases h
theorem numO_ok {ds : List UInt8} {v : Int} (h : Lib.atoiAll ds = .ok v) : numO ds = if Lib.itoa v = ds ∧ -999 ≤ v ∧ v ≤ 999 then some v else none := by
  split
  · rename_i hc
    rw [← hc.1]
    exact numO_itoa hc.2.1 hc.2.2
  · rename_i hc
    cases e : numO ds with
    | none => rfl
    | some n =>
      obtain ⟨h0, h1, h2⟩ := numO_some e
      have := atoi_itoa h0 h1
      rw [h2, h] at this
      injection this with this
      exact absurd ⟨by rw [this]; exact h2, by omega, by omega⟩ hc
end Go.Proofs.YtognkaebiafgbaaGreatDoor
