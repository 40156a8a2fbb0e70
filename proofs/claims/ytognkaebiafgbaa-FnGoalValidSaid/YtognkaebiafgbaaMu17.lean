/-
  Lists of numbers: what they read as; append; membership; the variables of a term, in the program and in the reference.
-/
import Derived.Lib.ItoaNum
import Derived.Lib.ItoaLen
import Derived.Test.YtognkaebiafgbaaMu5
import Derived.Test.YtognkaebiafgbaaMu13
import Derived.Test.YtognkaebiafgbaaMu9
import Derived.Test.YtognkaebiafgbaaMu15
namespace Go.Proofs.Ytognkaebiafgbaa
open Go.RowKit
set_option linter.unusedVariables false
def IntI (Z : Nat → Prop) (zs : List Int) (v : Value) (w : World) : Prop := w.ownsRow 0 3 1 v zs.length (zs.map (Value.int .i64)) ∧ (∀ g, v.ownBlock = some g → Z g) ∧ zs.length ≤ 1048576
theorem IntI.nil (Z : Nat → Prop) (w : World) : IntI Z [] (.slice none 0 0) w := ⟨⟨rfl, .inl ⟨rfl, rfl⟩⟩, by simp [Value.ownBlock], by simp⟩
theorem IntI.form {Z : Nat → Prop} {zs : List Int} {v : Value} {w : World} (h : IntI Z zs v w) : ∃ a c, v = .slice a zs.length c := own_form h.1
theorem IntI.empty {w : World} {b : Nat} {Z : Nat → Prop} (hb : b = w.heap.size) (hz : Z b) : IntI Z [] (.slice (some ⟨b, 0, none⟩) 0 0) (w.alloc (.cells #[] 3)) := by
  subst hb
  refine ⟨⟨rfl, .inr ⟨w.heap.size, 0, #[], rfl, Nat.zero_le _, ?_, by simp, by decide, rfl, rfl⟩⟩, by intro g hg; simp [Value.ownBlock] at hg; subst hg; exact hz, by simp⟩
  show (w.heap.push _)[w.heap.size]? = _
  simp
theorem own_keep {w w' : World} {e size n : Nat} {v : Value} {xs : List Value} {M : Nat → Prop} (h : w.ownsRow 0 e size v n xs) (f : Fr M w w') (hM : ∀ g, v.ownBlock = some g → ¬ M g) : w'.ownsRow 0 e size v n xs := by
  obtain ⟨e1, e2⟩ := h
  refine ⟨e1, ?_⟩
  rcases e2 with e2 | ⟨g, cap, cur, rfl, e3, e4, e5⟩
  · exact .inl e2
  · refine .inr ⟨g, cap, cur, rfl, e3, ?_, e5⟩
    rw [f.block g (by
      obtain ⟨x, _⟩ := Array.getElem?_eq_some_iff.1 e4
      exact x) (hM g rfl)]
    exact e4
theorem IntI.keep {Z M : Nat → Prop} {zs : List Int} {v : Value} {w w' : World} (h : IntI Z zs v w) (f : Fr M w w') (hM : ∀ k, k < w.heap.size → M k → ¬ Z k) : IntI Z zs v w' := by
  refine ⟨own_keep h.1 f (fun g hg hm => ?_), h.2⟩
  exact hM g (h.1.lt g hg).2 hm (h.2.1 g hg)
theorem IntI.ext {Z : Nat → Prop} {zs : List Int} {v : Value} {w w' : World} (h : IntI Z zs v w) (e : Ext w w') : IntI Z zs v w' := h.keep (M := fun _ => False) (Fr.of_ext e) (fun _ _ h => h.elim)
theorem IntI.bound {Z : Nat → Prop} {zs : List Int} {v : Value} {w : World} (h : IntI Z zs v w) : IntI (fun b => Z b ∧ b < w.heap.size) zs v w := ⟨h.1, fun g hg => ⟨h.2.1 g hg, (h.1.lt g hg).2⟩, h.2.2⟩
theorem IntI.zone {Z Z' : Nat → Prop} {zs : List Int} {v : Value} {w : World} (h : IntI Z zs v w) (hz : ∀ b, Z b → Z' b) : IntI Z' zs v w := ⟨h.1, fun g hg => hz g (h.2.1 g hg), h.2.2⟩
theorem IntsAt.ext {w w' : World} {zs : List Int} {v : Value} (h : IntsAt w zs v) (e : Ext w w') : IntsAt w' zs v := by
  obtain ⟨a, cap, h1, h2, h3, h4, h5⟩ := h
  refine ⟨a, cap, h1, h2, h3, h4, ?_⟩
  rcases h5 with h5 | ⟨b, off, h5, h6⟩
  · exact .inl h5
  · exact .inr ⟨b, off, h5, fun i z hz => e.cell (h6 i z hz)⟩
end Go.Proofs.Ytognkaebiafgbaa

namespace Go.Proofs.Ytognkaebiafgbaa
open Go.RowKit
set_option linter.unusedVariables false
theorem shapeL_mem : ∀ {ts : List Tm} {d : Nat} {t : Tm}, shapeL ts d = true → t ∈ ts → shapeF t d = true
  | [], _, _, _, hm => by simp at hm
  | u :: ts, d, t, h, hm => by
    simp only [shapeL, Bool.and_eq_true] at h
    rcases List.mem_cons.1 hm with rfl | hm
    · exact h.1
    · exact shapeL_mem h.2 hm
end Go.Proofs.Ytognkaebiafgbaa

namespace Go.Proofs.Ytognkaebiafgbaa
open Go.RowKit
set_option linter.unusedVariables false
theorem shape_own {k n : Int} {s : ByteArray} {ks : List Tm} {d : Nat} (h : shapeF (.mk k n s ks) d = true) : (k = 1 ∧ s.toList = [] ∧ ks = []) ∨ (k = 2 ∧ s.toList = [] ∧ ks = []) ∨ (k = 3 ∧ n = 0) := by
  simp only [shapeF, Bool.and_eq_true] at h
  have h2 := h.1.2
  unfold ownF at h2
  split at h2
  · rename_i hk
    simp at h2
    exact .inl ⟨hk, by simpa using h2.1.2, List.eq_nil_of_length_eq_zero (by simpa using h2.2)⟩
  · split at h2
    · rename_i hk
      simp at h2
      exact .inr (.inl ⟨hk, by simpa using h2.1.2, List.eq_nil_of_length_eq_zero (by simpa using h2.2)⟩)
    · split at h2
      · rename_i hk
        simp at h2
        exact .inr (.inr ⟨hk, h2.1.1⟩)
      · cases h2
end Go.Proofs.Ytognkaebiafgbaa

namespace Go.Proofs.Ytognkaebiafgbaa
open Go.RowKit
set_option linter.unusedVariables false
def zeroT : Tm := .mk 0 0 ⟨#[]⟩ []
theorem shape_kid {k n : Int} {s : ByteArray} {ks : List Tm} {d : Nat} (h : shapeF (.mk k n s ks) d = true) {j : Nat} {t : Tm} (ht : ks[j]? = some t) : shapeF t (d - 1) = true := by
  simp only [shapeF, Bool.and_eq_true] at h
  exact shapeL_mem h.2 (List.mem_of_getElem? ht)
theorem shape_var {n : Int} {s : ByteArray} {ks : List Tm} {d : Nat} (h : shapeF (.mk 1 n s ks) d = true) : 0 ≤ n ∧ n ≤ 25 := by
  simp only [shapeF, Bool.and_eq_true] at h
  have h2 := h.1.2
  unfold ownF at h2
  simp at h2
  exact ⟨h2.1.1.1, h2.1.1.2⟩
def lookK (K : List Tm) (n : Int) : Tm := (K[n.toNat]?).getD zeroT
def LeK (K K' : List Tm) : Prop := ∀ n : Int, 0 ≤ n ∧ n ≤ 25 → (lookK K n).kind ≠ 0 → lookK K' n = lookK K n
theorem LeK.trans {A B C : List Tm} (h : LeK A B) (g : LeK B C) : LeK A C := fun n hn hz => by
  have h1 := h n hn hz
  rw [g n hn (by rw [h1]; exact hz), h1]
end Go.Proofs.Ytognkaebiafgbaa

namespace Go.Proofs.Ytognkaebiafgbaa
open Go.RowKit
set_option linter.unusedVariables false
structure Tx where
  txt : List UInt8
  rst : List UInt8
  lev : Int
  sole : Bool
def letB (n : Int) : UInt8 := UInt8.ofNat (65 + n.toNat)
def tx0 : Tx := ⟨[], [], 0, false⟩
def bs (l : List UInt8) : ByteArray := ⟨l.toArray⟩
theorem bs_list (l : List UInt8) : (bs l).toList = l := by rw [ByteArray.toList_eq]; rfl
theorem bs_of (s : ByteArray) : bs s.toList = s := bl_ext (bs_list _)
theorem bs_size (l : List UInt8) : (bs l).size = l.length := by rw [← bl_len, bs_list]
theorem list_app (a b : ByteArray) : (a ++ b).toList = a.toList ++ b.toList := by simp [ByteArray.toList_eq, ByteArray.data_append]
theorem bs_app (a b : List UInt8) : bs a ++ bs b = bs (a ++ b) := bl_ext (by rw [list_app, bs_list, bs_list, bs_list])
def pairF (k : Int) (s : ByteArray) (len : Nat) : Bool := (k == 3) && (s.toList == [46]) && ((len : Int) == 2)
def nilF (k : Int) (s : ByteArray) (len : Nat) : Bool := (k == 3) && (s.toList == [91, 93]) && ((len : Int) == 0)
def infF (k : Int) (s : ByteArray) (len : Nat) : Bool := (k == 3) && ((len : Int) == 2) && decide (0 < opLevelF s.toList)
def soleF (k : Int) (s : ByteArray) (len : Nat) : Bool := (k == 3) && ((len : Int) == 0) && decide (0 < opLevelF s.toList)
def levF (k : Int) (s : ByteArray) (len : Nat) : Int := if infF k s len = true then opLevelF s.toList else 0
def joinF : List (List UInt8) → List UInt8
  | [] => []
  | [x] => x
  | x :: y :: xs => x ++ 44 :: joinF (y :: xs)
def plB : List UInt8 → Bool
  | [] => false
  | b :: _ => decide (97 ≤ b.toNat ∧ b.toNat ≤ 122) || decide (48 ≤ b.toNat ∧ b.toNat ≤ 57) || decide (65 ≤ b.toNat ∧ b.toNat ≤ 90) || b == 91 || b == 40
def opn (x : Tx) (most : Int) (right : Bool) : List UInt8 := if most < x.lev ∨ x.sole = true ∨ (right = true ∧ plB x.txt = false) then 40 :: (x.txt ++ [41]) else x.txt
def spaced (s : List UInt8) : List UInt8 := if wordF s = true then 32 :: (s ++ [32]) else s
def leftM (s : List UInt8) : Int := if opLevelF s = 3 then 2 else opLevelF s
def ownTx (o : Bool) (k n : Int) (s : ByteArray) (ps : List Tx) : List UInt8 :=
  if k = 1 then [letB n] else if k = 2 then Lib.itoa n else
  if (o && infF k s ps.length) = true then opn (ps.getD 0 tx0) (leftM s.toList) false ++ (spaced s.toList ++ opn (ps.getD 1 tx0) (opLevelF s.toList - 1) true) else
  if pairF k s ps.length = true then 91 :: ((ps.getD 0 tx0).txt ++ ((ps.getD 1 tx0).rst ++ [93])) else
  if ps.length = 0 then s.toList else s.toList ++ 40 :: (joinF (ps.map Tx.txt) ++ [41])
def restTx (o : Bool) (k n : Int) (s : ByteArray) (ps : List Tx) : List UInt8 :=
  if pairF k s ps.length = true then 44 :: ((ps.getD 0 tx0).txt ++ (ps.getD 1 tx0).rst) else if nilF k s ps.length = true then [] else 124 :: ownTx o k n s ps
mutual
def txF (o : Bool) : Tm → Tx
  | .mk k n s ks => ⟨ownTx o k n s (txL o ks), restTx o k n s (txL o ks), levF k s ks.length, soleF k s ks.length⟩
def txL (o : Bool) : List Tm → List Tx
  | [] => []
  | t :: ts => txF o t :: txL o ts
end
def txt (o : Bool) (t : Tm) : List UInt8 := (txF o t).txt
def rst (o : Bool) (t : Tm) : List UInt8 := (txF o t).rst
theorem txL_len (o : Bool) : ∀ ts : List Tm, (txL o ts).length = ts.length
  | [] => rfl
  | t :: ts => by simp [txL, txL_len o ts]
theorem txL_map (o : Bool) : ∀ ts : List Tm, (txL o ts).map Tx.txt = ts.map (txt o)
  | [] => rfl
  | t :: ts => by simp [txL, txL_map o ts, txt]
theorem shape_int' {n : Int} {s : ByteArray} {ks : List Tm} {d : Nat} (h : shapeF (.mk 2 n s ks) d = true) : -999 ≤ n ∧ n ≤ 999 := by
  simp only [shapeF, Bool.and_eq_true] at h
  have h2 := h.1.2
  unfold ownF at h2
  simp at h2
  exact ⟨h2.1.1.1, h2.1.1.2⟩
theorem sign_len {s : ByteArray} (h : hasF signs s = true) : 1 ≤ s.toList.length ∧ s.toList.length ≤ 3 := by
  simp only [hasF, List.any_eq_true, beq_iff_eq] at h
  obtain ⟨x, hx, e⟩ := h
  rw [← e]
  clear e
  simp only [signs, List.mem_cons, List.not_mem_nil, or_false] at hx
  rcases hx with rfl | rfl | rfl | rfl | rfl | rfl | rfl | rfl | rfl | rfl | rfl | rfl | rfl | rfl | rfl <;> simp [ByteArray.toList_eq]
theorem name_len {s : ByteArray} (h : nameF s = true) : 1 ≤ s.toList.length ∧ s.toList.length ≤ 6 := by
  simp only [nameF, Bool.or_eq_true] at h
  rcases h with h | h
  · simp only [wordF, Bool.and_eq_true, decide_eq_true_eq] at h
    exact h.2
  · have := sign_len h; omega
theorem shape_name {n : Int} {s : ByteArray} {ks : List Tm} {d : Nat} (h : shapeF (.mk 3 n s ks) d = true) : nameF s = true ∧ ks.length ≤ 4 := by
  simp only [shapeF, Bool.and_eq_true] at h
  have := h.1.2
  simp [ownF] at this
  exact ⟨this.1.2, this.2⟩
theorem opn_le (x : Tx) (m : Int) (r : Bool) : (opn x m r).length ≤ x.txt.length + 2 := by
  unfold opn
  split
  · simp
  · omega
theorem spaced_le (s : List UInt8) : (spaced s).length ≤ s.length + 2 := by
  unfold spaced
  split
  · simp
  · omega
theorem joinF_le : ∀ xs : List (List UInt8), (joinF xs).length ≤ (xs.map fun x => x.length + 1).sum
  | [] => by simp [joinF]
  | [x] => by simp [joinF]
  | x :: y :: xs => by
    have := joinF_le (y :: xs)
    simp only [joinF, List.length_append, List.length_cons, List.map_cons, List.sum_cons] at this ⊢
    omega
theorem len_two {ks : List Tm} (h : ks.length = 2) : ∃ a b, ks = [a, b] := by
  rcases ks with _ | ⟨a, _ | ⟨b, _ | ⟨c, l⟩⟩⟩ <;> simp at h
  exact ⟨a, b, rfl⟩
theorem inf_two {k : Int} {s : ByteArray} {len : Nat} (h : infF k s len = true) : k = 3 ∧ len = 2 ∧ 0 < opLevelF s.toList := by
  simp [infF] at h; omega
theorem pair_two {k : Int} {s : ByteArray} {len : Nat} (h : pairF k s len = true) : k = 3 ∧ len = 2 ∧ s.toList = [46] := by
  simp [pairF] at h; exact ⟨h.1.1, by omega, h.1.2⟩
mutual
theorem tx_len (o : Bool) : ∀ (t : Tm) (d : Nat), shapeF t d = true → (txt o t).length + 3 ≤ 32 * Tm.sz t ∧ (rst o t).length + 2 ≤ 32 * Tm.sz t
  | .mk k n s ks, d, h => by
    have hl := tx_lens o ks (d - 1) (by simp only [shapeF, Bool.and_eq_true] at h; exact h.2)
    have key : (ownTx o k n s (txL o ks)).length + 3 ≤ 32 * Tm.sz (.mk k n s ks) := by
      rcases shape_own h with ⟨rfl, _, rfl⟩ | ⟨rfl, _, rfl⟩ | ⟨rfl, rfl⟩
      · simp [ownTx, Tm.sz]; omega
      · have := Lib.itoa_length_le n (by have := shape_int' h; omega) (by have := shape_int' h; omega)
        simp [ownTx, Tm.sz]
        omega
      · obtain ⟨hn, _⟩ := shape_name h
        have hn := name_len hn
        simp only [ownTx, if_neg (show ¬ (3 : Int) = 1 by decide), if_neg (show ¬ (3 : Int) = 2 by decide), Tm.sz, txL_len]
        split
        · rename_i hi
          obtain ⟨a, b, rfl⟩ := len_two (inf_two (by simp only [Bool.and_eq_true] at hi; exact hi.2)).2.1
          have h1 := opn_le ((txL o [a, b]).getD 0 tx0) (leftM s.toList) false
          have h2 := opn_le ((txL o [a, b]).getD 1 tx0) (opLevelF s.toList - 1) true
          have h3 := spaced_le s.toList
          have h4 := hl.2 0 a rfl
          have h5 := hl.2 1 b rfl
          have h6 := hl.1
          simp only [txL, List.getD, List.getElem?_cons_zero, List.getElem?_cons_succ, Option.getD_some, Tm.szL, txt, rst, List.map_cons, List.map_nil, List.sum_cons, List.sum_nil] at *
          simp only [List.length_append]
          omega
        · split
          · rename_i _ hp
            obtain ⟨a, b, rfl⟩ := len_two (pair_two hp).2.1
            have h4 := hl.2 0 a rfl
            have h5 := hl.2 1 b rfl
            simp only [txL, List.getD, List.getElem?_cons_zero, List.getElem?_cons_succ, Option.getD_some, Tm.szL, txt, rst] at *
            simp only [List.length_append, List.length_cons, List.length_nil]
            omega
          · split
            · omega
            · have := joinF_le ((txL o ks).map Tx.txt)
              rw [txL_map] at this ⊢
              have h6 := hl.1
              simp only [List.length_append, List.length_cons, List.length_nil, List.map_map] at *
              simp only [Function.comp_def] at *
              omega
    refine ⟨by simpa [txt, txF] using key, ?_⟩
    simp only [rst, txF, restTx]
    split
    · rename_i hp
      rw [txL_len] at hp
      obtain ⟨a, b, rfl⟩ := len_two (pair_two hp).2.1
      have h4 := hl.2 0 a rfl
      have h5 := hl.2 1 b rfl
      simp only [txL, List.getD, List.getElem?_cons_zero, List.getElem?_cons_succ, Option.getD_some, Tm.szL, Tm.sz, txt, rst] at *
      simp only [List.length_append, List.length_cons]
      omega
    · split
      · simp [Tm.sz]; omega
      · simp only [List.length_cons]; omega
theorem tx_lens (o : Bool) : ∀ (ts : List Tm) (d : Nat), shapeL ts d = true → ((ts.map (txt o)).map fun x => x.length + 1).sum ≤ 32 * Tm.szL ts ∧ ∀ (j : Nat) (t : Tm), ts[j]? = some t → (txt o t).length + 3 ≤ 32 * Tm.sz t ∧ (rst o t).length + 2 ≤ 32 * Tm.sz t
  | [], d, h => ⟨by simp, fun j t ht => by simp at ht⟩
  | t :: ts, d, h => by
    simp only [shapeL, Bool.and_eq_true] at h
    have h1 := tx_len o t d h.1
    have h2 := tx_lens o ts d h.2
    refine ⟨?_, fun j u hu => ?_⟩
    · have := h2.1
      simp only [List.map_cons, List.sum_cons, Tm.szL] at this ⊢
      omega
    · rcases j with _ | j
      · simp at hu; subst hu; exact h1
      · exact h2.2 j u (by simpa using hu)
end
theorem opn_ne {x : Tx} {m : Int} {r : Bool} (h : x.txt ≠ []) : opn x m r ≠ [] := by
  unfold opn
  split
  · simp
  · exact h
mutual
theorem tx_ne (o : Bool) : ∀ (t : Tm) (d : Nat), shapeF t d = true → txt o t ≠ []
  | .mk k n s ks, d, h => by
    have hl := tx_nes o ks (d - 1) (by simp only [shapeF, Bool.and_eq_true] at h; exact h.2)
    simp only [txt, txF]
    rcases shape_own h with ⟨rfl, _, rfl⟩ | ⟨rfl, _, rfl⟩ | ⟨rfl, rfl⟩
    · simp [ownTx]
    · simp only [ownTx, if_neg (show ¬ (2 : Int) = 1 by decide), if_true]
      unfold Lib.itoa
      split
      · simp
      · intro e
        have := congrArg List.length e
        rw [Lib.decDigits_length] at this
        have := Lib.nDigits_pos n.toNat
        simp at *
        omega
    · obtain ⟨hn, _⟩ := shape_name h
      have hn := name_len hn
      have hs : s.toList ≠ [] := fun e => by rw [e] at hn; simp at hn
      simp only [ownTx, if_neg (show ¬ (3 : Int) = 1 by decide), if_neg (show ¬ (3 : Int) = 2 by decide), txL_len]
      split
      · rename_i hi
        obtain ⟨a, b, rfl⟩ := len_two (inf_two (by simp only [Bool.and_eq_true] at hi; exact hi.2)).2.1
        have := hl 0 a rfl
        intro e
        have e1 := (List.append_eq_nil_iff.1 e).1
        exact opn_ne (by simpa [txL, txt] using this) e1
      · split
        · simp
        · split
          · exact hs
          · simp
theorem tx_nes (o : Bool) : ∀ (ts : List Tm) (d : Nat), shapeL ts d = true → ∀ (j : Nat) (t : Tm), ts[j]? = some t → txt o t ≠ []
  | [], d, h, j, t, ht => by simp at ht
  | t :: ts, d, h, j, u, hu => by
    simp only [shapeL, Bool.and_eq_true] at h
    rcases j with _ | j
    · simp at hu; subst hu; exact tx_ne o t d h.1
    · exact tx_nes o ts d h.2 j u (by simpa using hu)
end
end Go.Proofs.Ytognkaebiafgbaa
