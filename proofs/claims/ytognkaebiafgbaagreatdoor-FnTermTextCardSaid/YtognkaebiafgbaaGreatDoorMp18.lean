/-
  Texts of terms, plain: one function for both ways of writing (without operators and with them); its lengths and first bytes.
-/
import Derived.Lib.ItoaNum
import Derived.Lib.ItoaLen
import Derived.Test.YtognkaebiafgbaaGreatDoorMp9
import Derived.Test.YtognkaebiafgbaaGreatDoorMp17
namespace Go.Proofs.YtognkaebiafgbaaGreatDoor
open Go.RowKit
set_option linter.unusedVariables false

/-- what is known of a term's text: the text, the text as the rest of a list, its operator's level, whether it is an operator alone -/
structure Tx where
  txt : List UInt8
  rst : List UInt8
  lev : Int
  sole : Bool
/-- a variable's letter -/
def letB (n : Int) : UInt8 := UInt8.ofNat (65 + n.toNat)
def tx0 : Tx := ⟨[], [], 0, false⟩
/-- a string of bytes -/
def bs (l : List UInt8) : ByteArray := ⟨l.toArray⟩
theorem bs_list (l : List UInt8) : (bs l).toList = l := by rw [ByteArray.toList_eq]; rfl
theorem bs_of (s : ByteArray) : bs s.toList = s := bl_ext (bs_list _)
theorem bs_size (l : List UInt8) : (bs l).size = l.length := by rw [← bl_len, bs_list]
theorem list_app (a b : ByteArray) : (a ++ b).toList = a.toList ++ b.toList := by simp [ByteArray.toList_eq, ByteArray.data_append]
theorem bs_app (a b : List UInt8) : bs a ++ bs b = bs (a ++ b) := bl_ext (by rw [list_app, bs_list, bs_list, bs_list])
theorem bs_app_of (a : ByteArray) (b : List UInt8) : a ++ bs b = bs (a.toList ++ b) := bl_ext (by rw [list_app, bs_list, bs_list])
theorem bs_app_of' (a : List UInt8) (b : ByteArray) : bs a ++ b = bs (a ++ b.toList) := bl_ext (by rw [list_app, bs_list, bs_list])

def pairF (k : Int) (s : ByteArray) (len : Nat) : Bool := (k == 3) && (s.toList == [46]) && ((len : Int) == 2)
def nilF (k : Int) (s : ByteArray) (len : Nat) : Bool := (k == 3) && (s.toList == [91, 93]) && ((len : Int) == 0)
def infF (k : Int) (s : ByteArray) (len : Nat) : Bool := (k == 3) && ((len : Int) == 2) && decide (0 < opLevelF s.toList)
def soleF (k : Int) (s : ByteArray) (len : Nat) : Bool := (k == 3) && ((len : Int) == 0) && decide (0 < opLevelF s.toList)
def levF (k : Int) (s : ByteArray) (len : Nat) : Int := if infF k s len = true then opLevelF s.toList else 0
/-- texts with commas between them -/
def joinF : List (List UInt8) → List UInt8
  | [] => []
  | [x] => x
  | x :: y :: xs => x ++ 44 :: joinF (y :: xs)
/-- a first byte behind which an operator may stand without brackets -/
def plB : List UInt8 → Bool
  | [] => false
  | b :: _ => decide (97 ≤ b.toNat ∧ b.toNat ≤ 122) || decide (48 ≤ b.toNat ∧ b.toNat ≤ 57) || decide (65 ≤ b.toNat ∧ b.toNat ≤ 90) || b == 91 || b == 40
def opn (x : Tx) (most : Int) (right : Bool) : List UInt8 := if most < x.lev ∨ x.sole = true ∨ (right = true ∧ plB x.txt = false) then 40 :: (x.txt ++ [41]) else x.txt
def spaced (s : List UInt8) : List UInt8 := if wordF s = true then 32 :: (s ++ [32]) else s
def leftM (s : List UInt8) : Int := if opLevelF s = 3 then 2 else opLevelF s
def ownTx (o : Bool) (k n : Int) (s : ByteArray) (ps : List Tx) : List UInt8 :=
  if k = 1 then [letB n] else if k = 2 then Lib.itoa n else
  if (o && infF k s ps.length) = true then opn (ps.getD 0 tx0) (leftM s.toList) false ++ (spaced s.toList ++ opn (ps.getD 1 tx0) (opLevelF s.toList - 1) true) else
  if pairF k s ps.length = true then 91 :: ((ps.getD 0 tx0).txt ++ ((ps.getD 1 tx0).rst ++ [93])) else
  if ps.length = 0 then s.toList else s.toList ++ 40 :: (joinF (ps.map Tx.txt) ++ [41])
def restTx (o : Bool) (k n : Int) (s : ByteArray) (ps : List Tx) : List UInt8 :=
  if pairF k s ps.length = true then 44 :: ((ps.getD 0 tx0).txt ++ (ps.getD 1 tx0).rst) else if nilF k s ps.length = true then [] else 124 :: ownTx o k n s ps
mutual
def txF (o : Bool) : Tm → Tx
  | .mk k n s ks => ⟨ownTx o k n s (txL o ks), restTx o k n s (txL o ks), levF k s ks.length, soleF k s ks.length⟩
def txL (o : Bool) : List Tm → List Tx
  | [] => []
  | t :: ts => txF o t :: txL o ts
end
/-- a term's text -/
def txt (o : Bool) (t : Tm) : List UInt8 := (txF o t).txt
/-- a term's text as the rest of a list -/
def rst (o : Bool) (t : Tm) : List UInt8 := (txF o t).rst
theorem txL_len (o : Bool) : ∀ ts : List Tm, (txL o ts).length = ts.length
  | [] => rfl
  | t :: ts => by simp [txL, txL_len o ts]
theorem txL_get (o : Bool) : ∀ (ts : List Tm) (j : Nat) (t : Tm), ts[j]? = some t → (txL o ts)[j]? = some (txF o t)
  | [], j, t, h => by simp at h
  | t0 :: ts, 0, t, h => by simp at h; subst h; rfl
  | t0 :: ts, j + 1, t, h => by simp [txL]; exact txL_get o ts j t (by simpa using h)
theorem txL_getD (o : Bool) {ts : List Tm} {j : Nat} {t : Tm} (h : ts[j]? = some t) : (txL o ts).getD j tx0 = txF o t := by simp [List.getD, txL_get o ts j t h]
theorem txL_map (o : Bool) : ∀ ts : List Tm, (txL o ts).map Tx.txt = ts.map (txt o)
  | [] => rfl
  | t :: ts => by simp [txL, txL_map o ts, txt]
def formatF (o : Bool) (t : Tm) : List UInt8 := if validF t = true then txt o t else []

/-! ### lengths -/
theorem shape_int' {n : Int} {s : ByteArray} {ks : List Tm} {d : Nat} (h : shapeF (.mk 2 n s ks) d = true) : -999 ≤ n ∧ n ≤ 999 := by
  simp only [shapeF, Bool.and_eq_true] at h
  have h2 := h.1.2
  unfold ownF at h2
  simp at h2
  exact ⟨h2.1.1.1, h2.1.1.2⟩
theorem sign_len {s : ByteArray} (h : hasF signs s = true) : 1 ≤ s.toList.length ∧ s.toList.length ≤ 3 := by
  simp only [hasF, List.any_eq_true, beq_iff_eq] at h
  obtain ⟨x, hx, e⟩ := h
  rw [← e]
  clear e
  simp only [signs, List.mem_cons, List.not_mem_nil, or_false] at hx
  rcases hx with rfl | rfl | rfl | rfl | rfl | rfl | rfl | rfl | rfl | rfl | rfl | rfl | rfl | rfl | rfl <;> simp [ByteArray.toList_eq]
theorem name_len {s : ByteArray} (h : nameF s = true) : 1 ≤ s.toList.length ∧ s.toList.length ≤ 6 := by
  simp only [nameF, Bool.or_eq_true] at h
  rcases h with h | h
  · simp only [wordF, Bool.and_eq_true, decide_eq_true_eq] at h
    exact h.2
  · have := sign_len h; omega
theorem shape_name {n : Int} {s : ByteArray} {ks : List Tm} {d : Nat} (h : shapeF (.mk 3 n s ks) d = true) : nameF s = true ∧ ks.length ≤ 4 := by
  simp only [shapeF, Bool.and_eq_true] at h
  have := h.1.2
  simp [ownF] at this
  exact ⟨this.1.2, this.2⟩
theorem opn_le (x : Tx) (m : Int) (r : Bool) : (opn x m r).length ≤ x.txt.length + 2 := by
  unfold opn
  split
  · simp
  · omega
theorem spaced_le (s : List UInt8) : (spaced s).length ≤ s.length + 2 := by
  unfold spaced
  split
  · simp
  · omega
theorem joinF_le : ∀ xs : List (List UInt8), (joinF xs).length ≤ (xs.map fun x => x.length + 1).sum
  | [] => by simp [joinF]
  | [x] => by simp [joinF]
  | x :: y :: xs => by
    have := joinF_le (y :: xs)
    simp only [joinF, List.length_append, List.length_cons, List.map_cons, List.sum_cons] at this ⊢
    omega
theorem len_two {ks : List Tm} (h : ks.length = 2) : ∃ a b, ks = [a, b] := by
  rcases ks with _ | ⟨a, _ | ⟨b, _ | ⟨c, l⟩⟩⟩ <;> simp at h
  exact ⟨a, b, rfl⟩
theorem inf_two {k : Int} {s : ByteArray} {len : Nat} (h : infF k s len = true) : k = 3 ∧ len = 2 ∧ 0 < opLevelF s.toList := by
  simp [infF] at h; omega
theorem pair_two {k : Int} {s : ByteArray} {len : Nat} (h : pairF k s len = true) : k = 3 ∧ len = 2 ∧ s.toList = [46] := by
  simp [pairF] at h; exact ⟨h.1.1, by omega, h.1.2⟩
mutual
theorem tx_len (o : Bool) : ∀ (t : Tm) (d : Nat), shapeF t d = true → (txt o t).length + 3 ≤ 32 * Tm.sz t ∧ (rst o t).length + 2 ≤ 32 * Tm.sz t
  | .mk k n s ks, d, h => by
    have hl := tx_lens o ks (d - 1) (by simp only [shapeF, Bool.and_eq_true] at h; exact h.2)
    have key : (ownTx o k n s (txL o ks)).length + 3 ≤ 32 * Tm.sz (.mk k n s ks) := by
      rcases shape_own h with ⟨rfl, _, rfl⟩ | ⟨rfl, _, rfl⟩ | ⟨rfl, rfl⟩
      · simp [ownTx, Tm.sz]; omega
      · have := Lib.itoa_length_le n (by have := shape_int' h; omega) (by have := shape_int' h; omega)
        simp [ownTx, Tm.sz]
        omega
      · obtain ⟨hn, _⟩ := shape_name h
        have hn := name_len hn
        simp only [ownTx, if_neg (show ¬ (3 : Int) = 1 by decide), if_neg (show ¬ (3 : Int) = 2 by decide), Tm.sz, txL_len]
        split
        · rename_i hi
          obtain ⟨a, b, rfl⟩ := len_two (inf_two (by simp only [Bool.and_eq_true] at hi; exact hi.2)).2.1
          have h1 := opn_le ((txL o [a, b]).getD 0 tx0) (leftM s.toList) false
          have h2 := opn_le ((txL o [a, b]).getD 1 tx0) (opLevelF s.toList - 1) true
          have h3 := spaced_le s.toList
          have h4 := hl.2 0 a rfl
          have h5 := hl.2 1 b rfl
          have h6 := hl.1
          simp only [txL, List.getD, List.getElem?_cons_zero, List.getElem?_cons_succ, Option.getD_some, Tm.szL, txt, rst, List.map_cons, List.map_nil, List.sum_cons, List.sum_nil] at *
          simp only [List.length_append]
          omega
        · split
          · rename_i _ hp
            obtain ⟨a, b, rfl⟩ := len_two (pair_two hp).2.1
            have h4 := hl.2 0 a rfl
            have h5 := hl.2 1 b rfl
            simp only [txL, List.getD, List.getElem?_cons_zero, List.getElem?_cons_succ, Option.getD_some, Tm.szL, txt, rst] at *
            simp only [List.length_append, List.length_cons, List.length_nil]
            omega
          · split
            · omega
            · have := joinF_le ((txL o ks).map Tx.txt)
              rw [txL_map] at this ⊢
              have h6 := hl.1
              simp only [List.length_append, List.length_cons, List.length_nil, List.map_map] at *
              simp only [Function.comp_def] at *
              omega
    refine ⟨by simpa [txt, txF] using key, ?_⟩
    simp only [rst, txF, restTx]
    split
    · rename_i hp
      rw [txL_len] at hp
      obtain ⟨a, b, rfl⟩ := len_two (pair_two hp).2.1
      have h4 := hl.2 0 a rfl
      have h5 := hl.2 1 b rfl
      simp only [txL, List.getD, List.getElem?_cons_zero, List.getElem?_cons_succ, Option.getD_some, Tm.szL, Tm.sz, txt, rst] at *
      simp only [List.length_append, List.length_cons]
      omega
    · split
      · simp [Tm.sz]; omega
      · simp only [List.length_cons]; omega
theorem tx_lens (o : Bool) : ∀ (ts : List Tm) (d : Nat), shapeL ts d = true → ((ts.map (txt o)).map fun x => x.length + 1).sum ≤ 32 * Tm.szL ts ∧ ∀ (j : Nat) (t : Tm), ts[j]? = some t → (txt o t).length + 3 ≤ 32 * Tm.sz t ∧ (rst o t).length + 2 ≤ 32 * Tm.sz t
  | [], d, h => ⟨by simp, fun j t ht => by simp at ht⟩
  | t :: ts, d, h => by
    simp only [shapeL, Bool.and_eq_true] at h
    have h1 := tx_len o t d h.1
    have h2 := tx_lens o ts d h.2
    refine ⟨?_, fun j u hu => ?_⟩
    · have := h2.1
      simp only [List.map_cons, List.sum_cons, Tm.szL] at this ⊢
      omega
    · rcases j with _ | j
      · simp at hu; subst hu; exact h1
      · exact h2.2 j u (by simpa using hu)
end
/-! ### no text is empty -/
theorem opn_ne {x : Tx} {m : Int} {r : Bool} (h : x.txt ≠ []) : opn x m r ≠ [] := by
  unfold opn
  split
  · simp
  · exact h
mutual
theorem tx_ne (o : Bool) : ∀ (t : Tm) (d : Nat), shapeF t d = true → txt o t ≠ []
  | .mk k n s ks, d, h => by
    have hl := tx_nes o ks (d - 1) (by simp only [shapeF, Bool.and_eq_true] at h; exact h.2)
    simp only [txt, txF]
    rcases shape_own h with ⟨rfl, _, rfl⟩ | ⟨rfl, _, rfl⟩ | ⟨rfl, rfl⟩
    · simp [ownTx]
    · simp only [ownTx, if_neg (show ¬ (2 : Int) = 1 by decide), if_true]
      unfold Lib.itoa
      split
      · simp
      · intro e
        have := congrArg List.length e
        rw [Lib.decDigits_length] at this
        have := Lib.nDigits_pos n.toNat
        simp at *
        omega
    · obtain ⟨hn, _⟩ := shape_name h
      have hn := name_len hn
      have hs : s.toList ≠ [] := fun e => by rw [e] at hn; simp at hn
      simp only [ownTx, if_neg (show ¬ (3 : Int) = 1 by decide), if_neg (show ¬ (3 : Int) = 2 by decide), txL_len]
      split
      · rename_i hi
        obtain ⟨a, b, rfl⟩ := len_two (inf_two (by simp only [Bool.and_eq_true] at hi; exact hi.2)).2.1
        have := hl 0 a rfl
        intro e
        have e1 := (List.append_eq_nil_iff.1 e).1
        exact opn_ne (by simpa [txL, txt] using this) e1
      · split
        · simp
        · split
          · exact hs
          · simp
theorem tx_nes (o : Bool) : ∀ (ts : List Tm) (d : Nat), shapeL ts d = true → ∀ (j : Nat) (t : Tm), ts[j]? = some t → txt o t ≠ []
  | [], d, h, j, t, ht => by simp at ht
  | t :: ts, d, h, j, u, hu => by
    simp only [shapeL, Bool.and_eq_true] at h
    rcases j with _ | j
    · simp at hu; subst hu; exact tx_ne o t d h.1
    · exact tx_nes o ts d h.2 j u (by simpa using hu)
end
/-! ### without operators both ways are one -/
mutual
def noOp : Tm → Bool
  | .mk k n s ks => !(infF k s ks.length) && noOpL ks
def noOpL : List Tm → Bool
  | [] => true
  | t :: ts => noOp t && noOpL ts
end
mutual
theorem tx_noOp : ∀ t : Tm, noOp t = true → txF true t = txF false t
  | .mk k n s ks, h => by
    simp only [noOp, Bool.and_eq_true, Bool.not_eq_true'] at h
    have hl := tx_noOpL ks h.2
    have h1 : ownTx true k n s (txL true ks) = ownTx false k n s (txL false ks) := by
      rw [hl]
      simp only [ownTx, txL_len, h.1, Bool.and_false]
    simp only [txF, restTx, hl] at h1 ⊢
    rw [h1]
theorem tx_noOpL : ∀ ts : List Tm, noOpL ts = true → txL true ts = txL false ts
  | [], _ => rfl
  | t :: ts, h => by
    simp only [noOpL, Bool.and_eq_true] at h
    simp only [txL, tx_noOp t h.1, tx_noOpL ts h.2]
end
end Go.Proofs.YtognkaebiafgbaaGreatDoor

/-
  Texts of terms, plain: first bytes, levels of operands; bytes at an offset of a text.
-/
namespace Go.Proofs.YtognkaebiafgbaaGreatDoor
open Go.RowKit
set_option linter.unusedVariables false

def digitB (b : UInt8) : Bool := decide (48 ≤ b.toNat ∧ b.toNat ≤ 57)
theorem bs_get0 (b : UInt8) (r : List UInt8) (h : 0 < (bs (b :: r)).size) : (bs (b :: r))[0] = b := rfl
theorem first_cases (b : UInt8) (r : List UInt8) :
    ((97 ≤ (b.toNat : Int) ∧ (b.toNat : Int) ≤ 122) ∧ plB (b :: r) = true) ∨ (122 < (b.toNat : Int) ∧ digitB b = false ∧ plB (b :: r) = false) ∨
    (((b.toNat : Int) < 97 ∧ 65 ≤ (b.toNat : Int) ∧ (b.toNat : Int) ≤ 90) ∧ plB (b :: r) = true) ∨
    (((b.toNat : Int) < 97 ∧ 90 < (b.toNat : Int)) ∧ digitB b = false ∧ ((b.toNat : Int) == 91) = true ∧ plB (b :: r) = true) ∨
    (((b.toNat : Int) < 97 ∧ 90 < (b.toNat : Int)) ∧ digitB b = false ∧ ((b.toNat : Int) == 91) = false ∧ ((b.toNat : Int) == 40) = false ∧ plB (b :: r) = false) ∨
    ((b.toNat : Int) < 65 ∧ digitB b = true ∧ plB (b :: r) = true) ∨
    ((b.toNat : Int) < 65 ∧ digitB b = false ∧ ((b.toNat : Int) == 91) = false ∧ ((b.toNat : Int) == 40) = true ∧ plB (b :: r) = true) ∨
    ((b.toNat : Int) < 65 ∧ digitB b = false ∧ ((b.toNat : Int) == 91) = false ∧ ((b.toNat : Int) == 40) = false ∧ plB (b :: r) = false) := by
  have hb : ∀ n : Nat, n < 256 → (b == UInt8.ofNat n) = decide (b.toNat = n) := by
    intro n hn
    rw [Bool.eq_iff_iff]
    simp only [beq_iff_eq, decide_eq_true_eq]
    constructor
    · rintro rfl; rw [UInt8.toNat_ofNat']; omega
    · intro h; rw [← h]; simp
  have h91 := hb 91 (by omega)
  have h40 := hb 40 (by omega)
  have hp : plB (b :: r) = (decide (97 ≤ b.toNat ∧ b.toNat ≤ 122) || decide (48 ≤ b.toNat ∧ b.toNat ≤ 57) || decide (65 ≤ b.toNat ∧ b.toNat ≤ 90) || decide (b.toNat = 91) || decide (b.toNat = 40)) := by
    rw [← h91, ← h40]; rfl
  have e91 : ((b.toNat : Int) == 91) = decide (b.toNat = 91) := by rw [Bool.eq_iff_iff]; simp; omega
  have e40 : ((b.toNat : Int) == 40) = decide (b.toNat = 40) := by rw [Bool.eq_iff_iff]; simp; omega
  rw [hp, e91, e40]
  unfold digitB
  simp only [Bool.or_eq_true, Bool.or_eq_false_iff, decide_eq_true_eq, decide_eq_false_iff_not]
  omega

theorem lev_two {k n : Int} {s : ByteArray} {ks : List Tm} {d : Nat} (h : shapeF (.mk k n s ks) d = true) (h2 : ks.length = 2) : levF k s ks.length = opLevelF s.toList := by
  rcases shape_own h with ⟨rfl, _, rfl⟩ | ⟨rfl, _, rfl⟩ | ⟨rfl, rfl⟩
  · simp at h2
  · simp at h2
  · have := opLevel_nn s.toList
    unfold levF infF
    by_cases hp : 0 < opLevelF s.toList
    · simp [hp, h2]
    · simp [hp]; omega
theorem lev_no {k : Int} {s : ByteArray} {len : Nat} (h2 : len ≠ 2) : levF k s len = 0 := by
  unfold levF infF
  rw [if_neg]
  simp
  omega

/-- whether a byte with a property is at an offset -/
def atB (l : List UInt8) (i : Int) (p : UInt8 → Bool) : Bool := decide (0 ≤ i) && (match l[i.toNat]? with | some c => p c | none => false)
def smallB (b : UInt8) : Bool := decide (97 ≤ b.toNat ∧ b.toNat ≤ 122)
theorem atB_neg {l : List UInt8} {i : Int} {p : UInt8 → Bool} (h : ¬ 0 ≤ i) : atB l i p = false := by simp [atB, h]
theorem atB_nat (l : List UInt8) (i : Nat) (p : UInt8 → Bool) : atB l i p = (match l[i]? with | some c => p c | none => false) := by simp [atB]
theorem atB_end {l : List UInt8} {i : Nat} {p : UInt8 → Bool} (h : l.length ≤ i) : atB l i p = false := by rw [atB_nat, List.getElem?_eq_none h]
theorem atB_at {l : List UInt8} {i : Nat} {p : UInt8 → Bool} (h : i < l.length) : atB l i p = p l[i] := by rw [atB_nat, List.getElem?_eq_getElem h]
theorem atB_str {s : ByteArray} {i : Nat} {p : UInt8 → Bool} (h : i < s.size) : atB s.toList i p = p s[i] := by
  rw [atB_at (by rw [bl_len]; exact h), bl_get s i h]
/-- brackets about a text whose operator's level is above another one -/
def brk (x : Tx) (m : Int) : List UInt8 := if m < x.lev then 40 :: (x.txt ++ [41]) else x.txt
theorem opn_left (x : Tx) (m : Int) : opn x m false = if x.sole = true then 40 :: (x.txt ++ [41]) else brk x m := by
  unfold opn brk
  by_cases h : x.sole = true
  · rw [if_pos h, if_pos (.inr (.inl h))]
  · rw [if_neg h]
    by_cases h2 : m < x.lev
    · rw [if_pos h2, if_pos (.inl h2)]
    · rw [if_neg h2, if_neg (by rintro (h3 | h3 | ⟨h3, _⟩); exact h2 h3; exact h h3; cases h3)]
theorem opn_right (x : Tx) (m : Int) (hs : x.sole = true → x.lev ≤ m) : opn x m true = if x.sole = true ∨ plB (brk x m) = false then 40 :: (brk x m ++ [41]) else brk x m := by
  unfold opn brk
  by_cases h2 : m < x.lev
  · rw [if_pos h2, if_pos (.inl h2), if_neg (by
      rintro (h3 | h3)
      · have := hs h3; omega
      · simp [plB] at h3)]
  · rw [if_neg h2]
    by_cases h : x.sole = true ∨ plB x.txt = false
    · rw [if_pos h, if_pos (by rcases h with h | h; exact .inr (.inl h); exact .inr (.inr ⟨rfl, h⟩))]
    · rw [if_neg h, if_neg (by rintro (h3 | h3 | ⟨_, h3⟩); exact h2 h3; exact h (.inl h3); exact h (.inr h3))]
theorem sole_lev {o : Bool} {t : Tm} (h : (txF o t).sole = true) : (txF o t).lev = 0 := by
  obtain ⟨k, n, s, ks⟩ := t
  simp only [txF, soleF] at h ⊢
  simp at h
  obtain ⟨⟨_, rfl⟩, _⟩ := h
  exact lev_no (by simp)
end Go.Proofs.YtognkaebiafgbaaGreatDoor
