/-
  Texts of an operator between atoms, plain; the draw of an operator's name.
-/
import Derived.Test.YtifklfnpaigdkaaDoorTxtF
import Derived.Test.YtifklfnpaigdkaaDoorDraws
namespace Go.Proofs.YtifklfnpaigdkaaDoor
open Go.RowKit
set_option linter.unusedVariables false

def aN : ByteArray := ⟨#[97]⟩
def aT : Tm := .mk 3 0 aN []
def opT (s : ByteArray) (x : Tm) : Tm := .mk 3 0 s [x, aT]
theorem aT_tx : txF true aT = ⟨[97], 124 :: [97], 0, false⟩ := by
  have h : aN.toList = [97] := by unfold aN; rw [ByteArray.toList_eq]
  simp [aT, txF, ownTx, restTx, txL, infF, pairF, nilF, levF, soleF, h, opLevelF]
theorem aT_shape (d : Nat) (h : 1 ≤ d) : shapeF aT d = true := by
  have hn : nameF aN = true := by
    have h : aN.toList = [97] := by unfold aN; rw [ByteArray.toList_eq]
    unfold nameF
    rw [h]
    rfl
  simp [aT, shapeF, shapeL, ownF, hn, h]
theorem opT_shape {s : ByteArray} {x : Tm} {d : Nat} (hn : nameF s = true) (hx : shapeF x (d - 1) = true) (hd : 2 ≤ d) : shapeF (opT s x) d = true := by
  simp [opT, shapeF, shapeL, ownF, hn, hx, aT_shape (d - 1) (by omega)]
  omega
theorem opn_a (m : Int) (r : Bool) (h : 0 ≤ m) : opn (txF true aT) m r = [97] := by
  rw [aT_tx]
  unfold opn
  rw [if_neg]
  rintro (h1 | h1 | ⟨_, h1⟩)
  · simp at h1; omega
  · cases h1
  · simp [plB] at h1
theorem opT_tx {s : ByteArray} {x : Tm} (hs : 0 < opLevelF s.toList) : txt true (opT s x) = opn (txF true x) (leftM s.toList) false ++ (spaced s.toList ++ [97]) := by
  have hi : infF 3 s 2 = true := by simp [infF, hs]
  have := opn_a (opLevelF s.toList - 1) true (by omega)
  simp [opT, txt, txF, ownTx, txL, hi, this]
theorem leftM_nn {s : List UInt8} (h : 0 < opLevelF s) : 0 ≤ leftM s := by unfold leftM; split <;> omega
theorem one_text {s : ByteArray} (hs : 0 < opLevelF s.toList) (hn : nameF s = true) : ∃ l, formatF true (opT s aT) = 97 :: (l ++ [97]) ∧ l.length ≤ 4000 := by
  have hsh : shapeF (opT s aT) 30 = true := opT_shape hn (aT_shape _ (by omega)) (by omega)
  have hv : validF (opT s aT) = true := by rw [valid_eq, hsh]; simp [opT, aT, Tm.sz, Tm.szL]
  refine ⟨spaced s.toList, ?_, ?_⟩
  · simp only [formatF, hv, if_true]
    rw [opT_tx hs, opn_a _ _ (leftM_nn hs)]
    simp
  · have := spaced_le s.toList
    have := (name_len hn).2
    omega
theorem two_text {s : ByteArray} (hs : 0 < opLevelF s.toList) (hn : nameF s = true) : ∃ b r, formatF true (opT s (opT s aT)) = b :: r ∧ (b == 97) = (opLevelF s.toList == 1 || opLevelF s.toList == 2) ∧ r.length ≤ 4000 := by
  have hsh1 : shapeF (opT s aT) 29 = true := opT_shape hn (aT_shape _ (by omega)) (by omega)
  have hsh : shapeF (opT s (opT s aT)) 30 = true := opT_shape hn hsh1 (by omega)
  have hv : validF (opT s (opT s aT)) = true := by rw [valid_eq, hsh]; simp [opT, aT, Tm.sz, Tm.szL]
  have hlen := (tx_len true _ _ hsh).1
  have hz : Tm.sz (opT s (opT s aT)) = 5 := by simp [opT, aT, Tm.sz, Tm.szL]
  rw [hz] at hlen
  have e1 : (txF true (opT s aT)).txt = 97 :: (spaced s.toList ++ [97]) := by
    show txt true (opT s aT) = _
    rw [opT_tx hs, opn_a _ _ (leftM_nn hs)]
    rfl
  have e2 : (txF true (opT s aT)).lev = opLevelF s.toList := by
    show levF 3 s 2 = _
    simp [levF, infF, hs]
  have e3 : (txF true (opT s aT)).sole = false := by
    show soleF 3 s 2 = _
    simp [soleF]
  have h3 := (show opLevelF s.toList ≤ 3 by unfold opLevelF; repeat' split <;> omega)
  have ht : formatF true (opT s (opT s aT)) = txt true (opT s (opT s aT)) := by simp only [formatF, hv, if_true]
  rw [ht]
  rw [opT_tx hs] at hlen ⊢
  by_cases h : opLevelF s.toList = 3
  · have hl : leftM s.toList = 2 := by simp [leftM, h]
    have : opn (txF true (opT s aT)) (leftM s.toList) false = 40 :: ((97 :: (spaced s.toList ++ [97])) ++ [41]) := by
      unfold opn
      rw [e1, e2, e3, hl, if_pos (.inl (by omega))]
    rw [this] at hlen ⊢
    refine ⟨40, _, rfl, ?_, ?_⟩
    · rw [h]; rfl
    · simp at hlen ⊢; omega
  · have hl : leftM s.toList = opLevelF s.toList := by simp [leftM, h]
    have : opn (txF true (opT s aT)) (leftM s.toList) false = 97 :: (spaced s.toList ++ [97]) := by
      unfold opn
      rw [e1, e2, e3, hl, if_neg]
      rintro (h1 | h1 | ⟨h1, _⟩)
      · omega
      · cases h1
      · cases h1
    rw [this] at hlen ⊢
    refine ⟨97, _, rfl, ?_, ?_⟩
    · rcases (show opLevelF s.toList = 1 ∨ opLevelF s.toList = 2 by omega) with h | h <;> rw [h] <;> rfl
    · simp at hlen ⊢; omega
def olNames : List ByteArray := [⟨#[43]⟩, ⟨#[105, 115]⟩, ⟨#[109, 111, 100]⟩, ⟨#[42]⟩, ⟨#[61, 61]⟩, ⟨#[102, 111, 111]⟩, ⟨#[46]⟩, ⟨#[]⟩, ⟨#[61, 60]⟩]
theorem ol_name {s : ByteArray} (h : s ∈ olNames) (hs : 0 < opLevelF s.toList) : nameF s = true := by
  simp only [olNames, List.mem_cons, List.not_mem_nil, or_false] at h
  rcases h with rfl | rfl | rfl | rfl | rfl | rfl | rfl | rfl | rfl <;> simp [ByteArray.toList_eq, nameF, wordF, wordB, hasF, signs, opLevelF] at hs ⊢
set_option maxRecDepth 100000 in
set_option maxHeartbeats 1000000 in
theorem drawOpLevel (v : Value) (w : World) (hv : BytesAt w v) : Calls Tryd.prog 17 #[v] w fun e w' => ∃ s, e = .returned (.string s) ∧ s ∈ olNames ∧ Ext w w' := by
  have HV := Lib.hid hv
  obtain ⟨a, len, cap, rfl, _⟩ := hv
  go_enter Tryd.func17, Tryd.ntmps17
  go_wp2_with fail
  refine (specl18Open _ _ HV.out).mono ?_
  rintro e w1 ⟨r, rfl, hr, hrd, e1⟩
  have R := Lib.hid hrd
  have E1 := Lib.hid e1
  have hr0 := Lib.hid hr
  clear hrd e1 HV hr
  go_wp2_with fail
  refine (rdof_new olNames 9 rfl rfl (by decide) (by decide) (by simp [olNames]) (by omega) R.out (by simp)).mono ?_
  rintro e w3 ⟨s, rfl, hs, hr3, he3⟩
  go_wp2_with fail
  go_ret
  refine ⟨s, rfl, hs, ?_⟩
  exact (ExtR.below E1.out he3 hr0.out)
end Go.Proofs.YtifklfnpaigdkaaDoor
