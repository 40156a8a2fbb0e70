/-
  Texts of terms, the reference's: bytes at an offset; how an operator and its operands are written.
-/
/-
  Texts of terms, the reference's l2Args, l2List, l2Text and WriteTerm.
-/
/-
  Texts of terms, the reference's l2List, l2Text and WriteTerm.
-/
/-
  Texts of terms, the reference's l2Text of every term, and WriteTerm.
-/
import Derived.Test.YtifklfnpaigdkaaGreatDoorTxtS2
import Derived.Test.YtifklfnpaigdkaaGreatDoorTxtF
import Derived.BigQuiet
namespace Go.Proofs.YtifklfnpaigdkaaGreatDoor
open Go.RowKit
set_option linter.unusedVariables false

set_option maxRecDepth 100000 in
set_option maxHeartbeats 1000000 in
theorem specl1Small (s : ByteArray) (i : Int) (w : World) (hs : s.size ≤ 1048576) : Calls Tryz.prog 92 #[.string s, .int .i64 i] w fun e w' => e = .returned (.bool (atB s.toList i smallB)) ∧ Ext w w' := by
  by_cases h0 : 0 ≤ i
  · obtain ⟨n, rfl⟩ := Int.eq_ofNat_of_zero_le h0
    by_cases hn : n < s.size
    · have hat := atB_str (p := smallB) hn
      by_cases h1 : (97 : Int) ≤ s[n].toNat
      · by_cases h2 : (s[n].toNat : Int) ≤ 122
        · have HF := Lib.hid (show atB s.toList (n : Int) smallB = true by rw [hat]; simp [smallB]; omega)
          clear hat
          go_enter Tryz.func92, Tryz.ntmps92
          go_wp2_with fail
          go_ret
          exact ⟨retB HF.out.symm, Ext.refl _⟩
        · have HF := Lib.hid (show atB s.toList (n : Int) smallB = false by rw [hat]; simp [smallB]; omega)
          clear hat
          go_enter Tryz.func92, Tryz.ntmps92
          go_wp2_with fail
          go_ret
          exact ⟨retB HF.out.symm, Ext.refl _⟩
      · have HF := Lib.hid (show atB s.toList (n : Int) smallB = false by rw [hat]; simp [smallB]; omega)
        clear hat
        go_enter Tryz.func92, Tryz.ntmps92
        go_wp2_with fail
        go_ret
        exact ⟨retB HF.out.symm, Ext.refl _⟩
    · have HF := Lib.hid (show atB s.toList (n : Int) smallB = false from atB_end (by rw [bl_len]; omega))
      go_enter Tryz.func92, Tryz.ntmps92
      go_wp2_with fail
      go_ret
      exact ⟨retB HF.out.symm, Ext.refl _⟩
  · have HF := Lib.hid (show atB s.toList i smallB = false from atB_neg h0)
    go_enter Tryz.func92, Tryz.ntmps92
    go_wp2_with fail
    go_ret
    exact ⟨retB HF.out.symm, Ext.refl _⟩

set_option maxRecDepth 100000 in
set_option maxHeartbeats 1000000 in
theorem specl1Digit (s : ByteArray) (i : Int) (w : World) (hs : s.size ≤ 1048576) : Calls Tryz.prog 93 #[.string s, .int .i64 i] w fun e w' => e = .returned (.bool (atB s.toList i digitB)) ∧ Ext w w' := by
  by_cases h0 : 0 ≤ i
  · obtain ⟨n, rfl⟩ := Int.eq_ofNat_of_zero_le h0
    by_cases hn : n < s.size
    · have hat := atB_str (p := digitB) hn
      by_cases h1 : (48 : Int) ≤ s[n].toNat
      · by_cases h2 : (s[n].toNat : Int) ≤ 57
        · have HF := Lib.hid (show atB s.toList (n : Int) digitB = true by rw [hat]; simp [digitB]; omega)
          clear hat
          go_enter Tryz.func93, Tryz.ntmps93
          go_wp2_with fail
          go_ret
          exact ⟨retB HF.out.symm, Ext.refl _⟩
        · have HF := Lib.hid (show atB s.toList (n : Int) digitB = false by rw [hat]; simp [digitB]; omega)
          clear hat
          go_enter Tryz.func93, Tryz.ntmps93
          go_wp2_with fail
          go_ret
          exact ⟨retB HF.out.symm, Ext.refl _⟩
      · have HF := Lib.hid (show atB s.toList (n : Int) digitB = false by rw [hat]; simp [digitB]; omega)
        clear hat
        go_enter Tryz.func93, Tryz.ntmps93
        go_wp2_with fail
        go_ret
        exact ⟨retB HF.out.symm, Ext.refl _⟩
    · have HF := Lib.hid (show atB s.toList (n : Int) digitB = false from atB_end (by rw [bl_len]; omega))
      go_enter Tryz.func93, Tryz.ntmps93
      go_wp2_with fail
      go_ret
      exact ⟨retB HF.out.symm, Ext.refl _⟩
  · have HF := Lib.hid (show atB s.toList i digitB = false from atB_neg h0)
    go_enter Tryz.func93, Tryz.ntmps93
    go_wp2_with fail
    go_ret
    exact ⟨retB HF.out.symm, Ext.refl _⟩

theorem small_first {b : UInt8} {r : List UInt8} (v : Bool) (h : decide (97 ≤ (b.toNat : Int) ∧ (b.toNat : Int) ≤ 122) = v) : atB (bs (b :: r)).toList 0 smallB = v := by
  rw [bs_list, ← h]
  simp only [atB, smallB]
  rw [Bool.eq_iff_iff]
  simp
  omega
theorem digit_first {b : UInt8} {r : List UInt8} (v : Bool) (h : digitB b = v) : atB (bs (b :: r)).toList 0 digitB = v := by
  rw [bs_list, ← h]
  simp [atB]
set_option maxRecDepth 100000 in
set_option maxHeartbeats 4000000 in
theorem specl2Plain (b : UInt8) (r : List UInt8) (w : World) (hl : (b :: r).length ≤ 8000) : Calls Tryz.prog 72 #[.string (bs (b :: r))] w fun e w' => e = .returned (.bool (plB (b :: r))) ∧ Ext w w' := by
  have hsize : (bs (b :: r)).size = r.length + 1 := by rw [bs_size]; simp
  have lb0 : 0 < (bs (b :: r)).size := by rw [hsize]; omega
  have lb1 : (bs (b :: r)).size ≤ 1048576 := by rw [hsize]; simp at hl; omega
  have hget := fun h => bs_get0 b r h
  rcases first_cases b r with ⟨⟨q1, q2⟩, hq⟩ | ⟨q1, q2, hq⟩ | ⟨⟨q1, q2, q3⟩, hq⟩ | ⟨⟨q1, q2⟩, q3, q4, hq⟩ | ⟨⟨q1, q2⟩, q3, q4, q5, hq⟩ | ⟨q1, q2, hq⟩ | ⟨q1, q2, q3, q4, hq⟩ | ⟨q1, q2, q3, q4, hq⟩
  · have HQ := Lib.hid hq
    have hsm := small_first (b := b) (r := r) true (by first | (simp; done) | (simp; omega) | (rw [decide_eq_true (by omega)]) | (rw [decide_eq_false (by omega)]))
    have hdg := digit_first (b := b) (r := r) false (by first | (simp [digitB]; done) | (simp [digitB]; omega))
    clear hq hsize hl
    go_enter Tryz.func72, Tryz.ntmps72
    go_wp2_with (first | (go_at_call 92; refine (specl1Small _ _ _ lb1).mono ?_; rw [hsm]; rintro e w1 ⟨rfl, e1⟩) | (go_at_call 93; refine (specl1Digit _ _ _ lb1).mono ?_; rw [hdg]; rintro e w2 ⟨rfl, e2⟩))
    go_ret
    exact ⟨retB (by first | exact HQ.out.symm | (rw [HQ.out]; simp; omega)), by first | exact e1 | exact e1.trans e2⟩
  · have HQ := Lib.hid hq
    have hsm := small_first (b := b) (r := r) false (by first | (simp; done) | (simp; omega) | (rw [decide_eq_true (by omega)]) | (rw [decide_eq_false (by omega)]))
    have hdg := digit_first (b := b) (r := r) _ q2
    clear hq hsize hl
    go_enter Tryz.func72, Tryz.ntmps72
    go_wp2_with (first | (go_at_call 92; refine (specl1Small _ _ _ lb1).mono ?_; rw [hsm]; rintro e w1 ⟨rfl, e1⟩) | (go_at_call 93; refine (specl1Digit _ _ _ lb1).mono ?_; rw [hdg]; rintro e w2 ⟨rfl, e2⟩))
    go_ret
    exact ⟨retB (by first | exact HQ.out.symm | (rw [HQ.out]; simp; omega)), by first | exact e1 | exact e1.trans e2⟩
  · have HQ := Lib.hid hq
    have hsm := small_first (b := b) (r := r) false (by first | (simp; done) | (simp; omega) | (rw [decide_eq_true (by omega)]) | (rw [decide_eq_false (by omega)]))
    have hdg := digit_first (b := b) (r := r) false (by first | (simp [digitB]; done) | (simp [digitB]; omega))
    clear hq hsize hl
    go_enter Tryz.func72, Tryz.ntmps72
    go_wp2_with (first | (go_at_call 92; refine (specl1Small _ _ _ lb1).mono ?_; rw [hsm]; rintro e w1 ⟨rfl, e1⟩) | (go_at_call 93; refine (specl1Digit _ _ _ lb1).mono ?_; rw [hdg]; rintro e w2 ⟨rfl, e2⟩))
    go_ret
    exact ⟨retB (by first | exact HQ.out.symm | (rw [HQ.out]; simp; omega)), by first | exact e1 | exact e1.trans e2⟩
  · have HQ := Lib.hid hq
    have hsm := small_first (b := b) (r := r) false (by first | (simp; done) | (simp; omega) | (rw [decide_eq_true (by omega)]) | (rw [decide_eq_false (by omega)]))
    have hdg := digit_first (b := b) (r := r) _ q3
    clear hq hsize hl
    go_enter Tryz.func72, Tryz.ntmps72
    go_wp2_with (first | (go_at_call 92; refine (specl1Small _ _ _ lb1).mono ?_; rw [hsm]; rintro e w1 ⟨rfl, e1⟩) | (go_at_call 93; refine (specl1Digit _ _ _ lb1).mono ?_; rw [hdg]; rintro e w2 ⟨rfl, e2⟩))
    go_ret
    exact ⟨retB (by first | exact HQ.out.symm | (rw [HQ.out]; simp; omega)), by first | exact e1 | exact e1.trans e2⟩
  · have HQ := Lib.hid hq
    have hsm := small_first (b := b) (r := r) false (by first | (simp; done) | (simp; omega) | (rw [decide_eq_true (by omega)]) | (rw [decide_eq_false (by omega)]))
    have hdg := digit_first (b := b) (r := r) _ q3
    clear hq hsize hl
    go_enter Tryz.func72, Tryz.ntmps72
    go_wp2_with (first | (go_at_call 92; refine (specl1Small _ _ _ lb1).mono ?_; rw [hsm]; rintro e w1 ⟨rfl, e1⟩) | (go_at_call 93; refine (specl1Digit _ _ _ lb1).mono ?_; rw [hdg]; rintro e w2 ⟨rfl, e2⟩))
    go_ret
    exact ⟨retB (by first | exact HQ.out.symm | (rw [HQ.out]; simp; omega)), by first | exact e1 | exact e1.trans e2⟩
  · have HQ := Lib.hid hq
    have hsm := small_first (b := b) (r := r) false (by first | (simp; done) | (simp; omega) | (rw [decide_eq_true (by omega)]) | (rw [decide_eq_false (by omega)]))
    have hdg := digit_first (b := b) (r := r) _ q2
    clear hq hsize hl
    go_enter Tryz.func72, Tryz.ntmps72
    go_wp2_with (first | (go_at_call 92; refine (specl1Small _ _ _ lb1).mono ?_; rw [hsm]; rintro e w1 ⟨rfl, e1⟩) | (go_at_call 93; refine (specl1Digit _ _ _ lb1).mono ?_; rw [hdg]; rintro e w2 ⟨rfl, e2⟩))
    go_ret
    exact ⟨retB (by first | exact HQ.out.symm | (rw [HQ.out]; simp; omega)), by first | exact e1 | exact e1.trans e2⟩
  · have HQ := Lib.hid hq
    have hsm := small_first (b := b) (r := r) false (by first | (simp; done) | (simp; omega) | (rw [decide_eq_true (by omega)]) | (rw [decide_eq_false (by omega)]))
    have hdg := digit_first (b := b) (r := r) _ q2
    clear hq hsize hl
    go_enter Tryz.func72, Tryz.ntmps72
    go_wp2_with (first | (go_at_call 92; refine (specl1Small _ _ _ lb1).mono ?_; rw [hsm]; rintro e w1 ⟨rfl, e1⟩) | (go_at_call 93; refine (specl1Digit _ _ _ lb1).mono ?_; rw [hdg]; rintro e w2 ⟨rfl, e2⟩))
    go_ret
    exact ⟨retB (by first | exact HQ.out.symm | (rw [HQ.out]; simp; omega)), by first | exact e1 | exact e1.trans e2⟩
  · have HQ := Lib.hid hq
    have hsm := small_first (b := b) (r := r) false (by first | (simp; done) | (simp; omega) | (rw [decide_eq_true (by omega)]) | (rw [decide_eq_false (by omega)]))
    have hdg := digit_first (b := b) (r := r) _ q2
    clear hq hsize hl
    go_enter Tryz.func72, Tryz.ntmps72
    go_wp2_with (first | (go_at_call 92; refine (specl1Small _ _ _ lb1).mono ?_; rw [hsm]; rintro e w1 ⟨rfl, e1⟩) | (go_at_call 93; refine (specl1Digit _ _ _ lb1).mono ?_; rw [hdg]; rintro e w2 ⟨rfl, e2⟩))
    go_ret
    exact ⟨retB (by first | exact HQ.out.symm | (rw [HQ.out]; simp; omega)), by first | exact e1 | exact e1.trans e2⟩

set_option maxRecDepth 100000 in
theorem specl2Spaced (s : ByteArray) (w : World) (hs : s.size ≤ 1048576) (hop : 0 < opLevelF s.toList) : Calls Tryz.prog 49 #[.string s] w fun e w' => e = .returned (.string (bs (spaced s.toList))) ∧ Ext w w' := by
  have hw := op_word hop
  have lb1 : ¬ 9223372036854775807 < 1 + s.size := by omega
  have lb2 : ¬ 9223372036854775807 < 1 + s.size + 1 := by omega
  cases h1 : (s.toList == [105, 115])
  · cases h2 : (s.toList == [109, 111, 100])
    · have HF := Lib.hid (show spaced s.toList = s.toList by simp [spaced, hw, h1, h2])
      clear hw
      go_enter Tryz.func49, Tryz.ntmps49
      go_wp2_with fail
      go_ret
      exact ⟨by rw [HF.out, bs_of]; rfl, Ext.refl _⟩
    · have HF := Lib.hid (show spaced s.toList = 32 :: (s.toList ++ [32]) by simp [spaced, hw, h1, h2])
      clear hw
      go_enter Tryz.func49, Tryz.ntmps49
      go_wp2_with fail
      go_ret
      refine ⟨?_, Ext.refl _⟩
      rw [HF.out]
      refine retS ?_
      show (bs [32] ++ s) ++ bs [32] = bs _
      exact bl_ext (by simp only [list_app, bs_list]; simp)
  · have HF := Lib.hid (show spaced s.toList = 32 :: (s.toList ++ [32]) by simp [spaced, hw, h1])
    clear hw
    go_enter Tryz.func49, Tryz.ntmps49
    go_wp2_with fail
    go_ret
    refine ⟨?_, Ext.refl _⟩
    rw [HF.out]
    refine retS ?_
    show (bs [32] ++ s) ++ bs [32] = bs _
    exact bl_ext (by simp only [list_app, bs_list]; simp)

/-- the reference writes u with operators -/
def S2C (u : Tm) : Prop := ∀ (d : Nat) (v : Value) (S : Nat → Prop) (w : World), shapeF u d = true → Tm.at S w u v → Calls Tryz.prog 31 #[v] w fun e w' => e = .returned (.string (bs (txt true u))) ∧ Ext w w'

theorem brk_le (x : Tx) (m : Int) : (brk x m).length ≤ x.txt.length + 2 := by
  unfold brk
  split
  · simp
  · omega
set_option maxRecDepth 100000 in
set_option maxHeartbeats 4000000 in
theorem specl2Bracket (t : Tm) (d : Nat) (v : Value) (S : Nat → Prop) (w : World) (most : Int) (hm : 0 ≤ most) (hw : S2C t) (hsh : shapeF t d = true) (hsz : Tm.sz t ≤ 120) (ht : Tm.at S w t v) :
    Calls Tryz.prog 71 #[v, .int .i64 most] w fun e w' => e = .returned (.string (bs (brk (txF true t) most))) ∧ Ext w w' := by
  have HW := Lib.hid (fun w' (e' : Ext w w') => hw d v S w' hsh (Tm.at_ext e' ht))
  have hlen : (txt true t).length ≤ 4000 := by have := (tx_len true t d hsh).1; omega
  have lb1 : ¬ 9223372036854775807 < 1 + (bs (txt true t)).size := by rw [bs_size]; omega
  have lb2 : ¬ 9223372036854775807 < 1 + (bs (txt true t)).size + 1 := by rw [bs_size]; omega
  obtain ⟨k, n, s, ks⟩ := t
  have HT := Lib.hid ht
  obtain ⟨hs1, sv, rfl, ar, cap, rfl, h1, h2, h3, h4⟩ := ht
  have e1 : (txF true (.mk k n s ks)).lev = if infF k s ks.length = true then opLevelF s.toList else 0 := rfl
  have e2 : (txF true (.mk k n s ks)).txt = txt true (.mk k n s ks) := rfl
  clear h4 hw hsh hsz hlen
  cases hin : infF k s ks.length
  · have HF := Lib.hid (show brk (txF true (.mk k n s ks)) most = txt true (.mk k n s ks) by unfold brk; rw [e1, e2, hin, if_neg]; simp; omega)
    clear e1 e2
    go_enter Tryz.func71, Tryz.ntmps71
    go_wp2_with fail
    refine (specl2Infix k n s ks _ S _ (Tm.at_ext (Ext.alloc _ _) HT.out)).mono ?_
    rw [hin]
    rintro e w1 ⟨rfl, e1⟩
    have E1 := Lib.hid ((Ext.alloc w (.cells #[.int .i64 k, .int .i64 n, .string s, .slice ar ks.length cap] 31)).trans e1)
    obtain ⟨c0, c1, c2, c3, g0, g1, g2, g3⟩ := (BoxT.new w (.int .i64 k) (.int .i64 n) (.string s) (.slice ar ks.length cap) 31 rfl).ext e1
    have s1 : w.heap.size < w1.heap.size := block_lt_of_cell c0
    go_wp2_with (go_at_call 31; refine (HW.out _ E1.out).mono ?_; rintro e w2 ⟨rfl, e2⟩)
    go_ret
    exact ⟨by rw [HF.out]; rfl, E1.out.trans e2⟩
  · by_cases hlv : most < opLevelF s.toList
    · have HF := Lib.hid (show brk (txF true (.mk k n s ks)) most = 40 :: (txt true (.mk k n s ks) ++ [41]) by unfold brk; rw [e1, e2, hin, if_pos]; simpa using hlv)
      clear e1 e2
      go_enter Tryz.func71, Tryz.ntmps71
      go_wp2_with fail
      refine (specl2Infix k n s ks _ S _ (Tm.at_ext (Ext.alloc _ _) HT.out)).mono ?_
      rw [hin]
      rintro e w1 ⟨rfl, e1⟩
      have E1 := Lib.hid ((Ext.alloc w (.cells #[.int .i64 k, .int .i64 n, .string s, .slice ar ks.length cap] 31)).trans e1)
      obtain ⟨c0, c1, c2, c3, g0, g1, g2, g3⟩ := (BoxT.new w (.int .i64 k) (.int .i64 n) (.string s) (.slice ar ks.length cap) 31 rfl).ext e1
      have s1 : w.heap.size < w1.heap.size := block_lt_of_cell c0
      go_wp2_with fail
      refine (specl2Level_x s _).mono ?_
      rintro e w2 ⟨rfl, e2⟩
      have E2 := Lib.hid (E1.out.trans e2)
      replace c0 := e2.cell c0
      replace c1 := e2.cell c1
      replace c2 := e2.cell c2
      replace c3 := e2.cell c3
      have s2 : w.heap.size < w2.heap.size := block_lt_of_cell c0
      go_wp2_with (go_at_call 31; refine (HW.out _ E2.out).mono ?_; rintro e w3 ⟨rfl, e3⟩)
      go_ret
      refine ⟨?_, E2.out.trans e3⟩
      rw [HF.out]
      refine retS ?_
      show (bs [40] ++ bs _) ++ bs [41] = bs _
      rw [bs_app, bs_app]
      rfl
    · have HF := Lib.hid (show brk (txF true (.mk k n s ks)) most = txt true (.mk k n s ks) by unfold brk; rw [e1, e2, hin, if_neg]; simpa using hlv)
      clear e1 e2
      go_enter Tryz.func71, Tryz.ntmps71
      go_wp2_with fail
      refine (specl2Infix k n s ks _ S _ (Tm.at_ext (Ext.alloc _ _) HT.out)).mono ?_
      rw [hin]
      rintro e w1 ⟨rfl, e1⟩
      have E1 := Lib.hid ((Ext.alloc w (.cells #[.int .i64 k, .int .i64 n, .string s, .slice ar ks.length cap] 31)).trans e1)
      obtain ⟨c0, c1, c2, c3, g0, g1, g2, g3⟩ := (BoxT.new w (.int .i64 k) (.int .i64 n) (.string s) (.slice ar ks.length cap) 31 rfl).ext e1
      have s1 : w.heap.size < w1.heap.size := block_lt_of_cell c0
      go_wp2_with fail
      refine (specl2Level_x s _).mono ?_
      rintro e w2 ⟨rfl, e2⟩
      have E2 := Lib.hid (E1.out.trans e2)
      replace c0 := e2.cell c0
      replace c1 := e2.cell c1
      replace c2 := e2.cell c2
      replace c3 := e2.cell c3
      have s2 : w.heap.size < w2.heap.size := block_lt_of_cell c0
      go_wp2_with (go_at_call 31; refine (HW.out _ E2.out).mono ?_; rintro e w3 ⟨rfl, e3⟩)
      go_ret
      exact ⟨by rw [HF.out]; rfl, E2.out.trans e3⟩

set_option maxRecDepth 100000 in
set_option maxHeartbeats 4000000 in
theorem specl2Left (t : Tm) (d : Nat) (v : Value) (S : Nat → Prop) (w : World) (most : Int) (hm : 0 ≤ most) (hw : S2C t) (hsh : shapeF t d = true) (hsz : Tm.sz t ≤ 120) (ht : Tm.at S w t v) :
    Calls Tryz.prog 48 #[v, .int .i64 most] w fun e w' => e = .returned (.string (bs (opn (txF true t) most false))) ∧ Ext w w' := by
  have HW := Lib.hid (fun w' (e' : Ext w w') => hw d v S w' hsh (Tm.at_ext e' ht))
  have HB := Lib.hid (fun w' (e' : Ext w w') => specl2Bracket t d v S w' most hm hw hsh hsz (Tm.at_ext e' ht))
  have hlen : (txt true t).length ≤ 4000 := by have := (tx_len true t d hsh).1; omega
  have lb1 : ¬ 9223372036854775807 < 1 + (bs (txt true t)).size := by rw [bs_size]; omega
  have lb2 : ¬ 9223372036854775807 < 1 + (bs (txt true t)).size + 1 := by rw [bs_size]; omega
  have HO := Lib.hid (opn_left (txF true t) most)
  obtain ⟨k, n, s, ks⟩ := t
  have HT := Lib.hid ht
  obtain ⟨hs1, sv, rfl, ar, cap, rfl, h1, h2, h3, h4⟩ := ht
  have e0 : (txF true (.mk k n s ks)).sole = soleF k s ks.length := rfl
  clear h4 hw hsh hsz hlen
  cases hso : soleF k s ks.length
  · have HF := Lib.hid (show opn (txF true (.mk k n s ks)) most false = brk (txF true (.mk k n s ks)) most by rw [HO.out, e0, hso]; rfl)
    clear e0 HO
    go_enter Tryz.func48, Tryz.ntmps48
    go_wp2_with fail
    refine (specl2Sole k n s ks _ S _ (Tm.at_ext (Ext.alloc _ _) HT.out)).mono ?_
    rw [hso]
    rintro e w1 ⟨rfl, e1⟩
    have E1 := Lib.hid ((Ext.alloc w (.cells #[.int .i64 k, .int .i64 n, .string s, .slice ar ks.length cap] 31)).trans e1)
    obtain ⟨c0, c1, c2, c3, g0, g1, g2, g3⟩ := (BoxT.new w (.int .i64 k) (.int .i64 n) (.string s) (.slice ar ks.length cap) 31 rfl).ext e1
    have s1 : w.heap.size < w1.heap.size := block_lt_of_cell c0
    go_wp2_with (go_at_call 71; refine (HB.out _ E1.out).mono ?_; rintro e w2 ⟨rfl, e2⟩)
    go_ret
    exact ⟨by rw [HF.out]; rfl, E1.out.trans e2⟩
  · have HF := Lib.hid (show opn (txF true (.mk k n s ks)) most false = 40 :: (txt true (.mk k n s ks) ++ [41]) by rw [HO.out, e0, hso]; rfl)
    clear e0 HO
    go_enter Tryz.func48, Tryz.ntmps48
    go_wp2_with fail
    refine (specl2Sole k n s ks _ S _ (Tm.at_ext (Ext.alloc _ _) HT.out)).mono ?_
    rw [hso]
    rintro e w1 ⟨rfl, e1⟩
    have E1 := Lib.hid ((Ext.alloc w (.cells #[.int .i64 k, .int .i64 n, .string s, .slice ar ks.length cap] 31)).trans e1)
    obtain ⟨c0, c1, c2, c3, g0, g1, g2, g3⟩ := (BoxT.new w (.int .i64 k) (.int .i64 n) (.string s) (.slice ar ks.length cap) 31 rfl).ext e1
    have s1 : w.heap.size < w1.heap.size := block_lt_of_cell c0
    go_wp2_with (go_at_call 31; refine (HW.out _ E1.out).mono ?_; rintro e w2 ⟨rfl, e2⟩)
    go_ret
    refine ⟨?_, E1.out.trans e2⟩
    rw [HF.out]
    refine retS ?_
    show (bs [40] ++ bs _) ++ bs [41] = bs _
    rw [bs_app, bs_app]
    rfl

set_option maxRecDepth 100000 in
set_option maxHeartbeats 4000000 in
theorem specl2Right (t : Tm) (d : Nat) (v : Value) (S : Nat → Prop) (w : World) (most : Int) (hm : 0 ≤ most) (hw : S2C t) (hsh : shapeF t d = true) (hsz : Tm.sz t ≤ 120) (ht : Tm.at S w t v) :
    Calls Tryz.prog 50 #[v, .int .i64 most] w fun e w' => e = .returned (.string (bs (opn (txF true t) most true))) ∧ Ext w w' := by
  have HB := Lib.hid (fun w' (e' : Ext w w') => specl2Bracket t d v S w' most hm hw hsh hsz (Tm.at_ext e' ht))
  obtain ⟨b, r, hb⟩ : ∃ b r, brk (txF true t) most = b :: r := by
    cases h : brk (txF true t) most with
    | nil =>
      unfold brk at h
      split at h
      · cases h
      · exact absurd h (tx_ne true t d hsh)
    | cons b r => exact ⟨b, r, rfl⟩
  have hlen : (b :: r).length ≤ 4002 := by rw [← hb]; have := (tx_len true t d hsh).1; have := brk_le (txF true t) most; simp only [txt] at *; omega
  have HO := Lib.hid (opn_right (txF true t) most (fun h => by rw [sole_lev h]; exact hm))
  rw [hb] at HB HO
  have lb1 : ¬ 9223372036854775807 < 1 + (bs (b :: r)).size := by rw [bs_size]; omega
  have lb2 : ¬ 9223372036854775807 < 1 + (bs (b :: r)).size + 1 := by rw [bs_size]; omega
  have HLEN := Lib.hid (show (b :: r).length ≤ 8000 by omega)
  obtain ⟨k, n, s, ks⟩ := t
  have HT := Lib.hid ht
  obtain ⟨hs1, sv, rfl, ar, cap, rfl, h1, h2, h3, h4⟩ := ht
  have e0 : (txF true (.mk k n s ks)).sole = soleF k s ks.length := rfl
  rw [e0] at HO
  clear h4 hw hsh hsz hlen hb e0
  cases hso : soleF k s ks.length
  · cases hpl : plB (b :: r)
    · have HF := Lib.hid (show opn (txF true (.mk k n s ks)) most true = 40 :: (b :: r ++ [41]) by rw [HO.out, hso, hpl]; simp)
      clear HO
      go_enter Tryz.func50, Tryz.ntmps50
      go_wp2_with fail
      refine (HB.out _ (Ext.alloc _ _)).mono ?_
      rintro e w1 ⟨rfl, e1⟩
      have E1 := Lib.hid ((Ext.alloc w (.cells #[.int .i64 k, .int .i64 n, .string s, .slice ar ks.length cap] 31)).trans e1)
      obtain ⟨c0, c1, c2, c3, g0, g1, g2, g3⟩ := (BoxT.new w (.int .i64 k) (.int .i64 n) (.string s) (.slice ar ks.length cap) 31 rfl).ext e1
      have s1 : w.heap.size < w1.heap.size := block_lt_of_cell c0
      go_wp2_with fail
      refine (specl2Sole k n s ks _ S _ (Tm.at_ext E1.out HT.out)).mono ?_
      rw [hso]
      rintro e w2 ⟨rfl, e2⟩
      have E2 := Lib.hid (E1.out.trans e2)
      go_wp2_with (go_at_call 72; refine (specl2Plain b r _ HLEN.out).mono ?_; rw [hpl]; rintro e w3 ⟨rfl, e3⟩)
      go_ret
      refine ⟨?_, (E2.out.trans e3)⟩
      rw [HF.out]
      refine retS ?_
      show (bs [40] ++ bs _) ++ bs [41] = bs _
      rw [bs_app, bs_app]
      rfl
    · have HF := Lib.hid (show opn (txF true (.mk k n s ks)) most true = b :: r by rw [HO.out, hso, hpl]; simp)
      clear HO
      go_enter Tryz.func50, Tryz.ntmps50
      go_wp2_with fail
      refine (HB.out _ (Ext.alloc _ _)).mono ?_
      rintro e w1 ⟨rfl, e1⟩
      have E1 := Lib.hid ((Ext.alloc w (.cells #[.int .i64 k, .int .i64 n, .string s, .slice ar ks.length cap] 31)).trans e1)
      obtain ⟨c0, c1, c2, c3, g0, g1, g2, g3⟩ := (BoxT.new w (.int .i64 k) (.int .i64 n) (.string s) (.slice ar ks.length cap) 31 rfl).ext e1
      have s1 : w.heap.size < w1.heap.size := block_lt_of_cell c0
      go_wp2_with fail
      refine (specl2Sole k n s ks _ S _ (Tm.at_ext E1.out HT.out)).mono ?_
      rw [hso]
      rintro e w2 ⟨rfl, e2⟩
      have E2 := Lib.hid (E1.out.trans e2)
      go_wp2_with (go_at_call 72; refine (specl2Plain b r _ HLEN.out).mono ?_; rw [hpl]; rintro e w3 ⟨rfl, e3⟩)
      go_ret
      exact ⟨by rw [HF.out]; rfl, (E2.out.trans e3)⟩
  · have HF := Lib.hid (show opn (txF true (.mk k n s ks)) most true = 40 :: (b :: r ++ [41]) by rw [HO.out, hso]; simp)
    clear HO
    go_enter Tryz.func50, Tryz.ntmps50
    go_wp2_with fail
    refine (HB.out _ (Ext.alloc _ _)).mono ?_
    rintro e w1 ⟨rfl, e1⟩
    have E1 := Lib.hid ((Ext.alloc w (.cells #[.int .i64 k, .int .i64 n, .string s, .slice ar ks.length cap] 31)).trans e1)
    obtain ⟨c0, c1, c2, c3, g0, g1, g2, g3⟩ := (BoxT.new w (.int .i64 k) (.int .i64 n) (.string s) (.slice ar ks.length cap) 31 rfl).ext e1
    have s1 : w.heap.size < w1.heap.size := block_lt_of_cell c0
    go_wp2_with fail
    refine (specl2Sole k n s ks _ S _ (Tm.at_ext E1.out HT.out)).mono ?_
    rw [hso]
    rintro e w2 ⟨rfl, e2⟩
    have E2 := Lib.hid (E1.out.trans e2)
    go_wp2_with fail
    go_ret
    refine ⟨?_, E2.out⟩
    rw [HF.out]
    refine retS ?_
    show (bs [40] ++ bs _) ++ bs [41] = bs _
    rw [bs_app, bs_app]
    rfl
end Go.Proofs.YtifklfnpaigdkaaGreatDoor
namespace Go.Proofs.YtifklfnpaigdkaaGreatDoor
open Go.RowKit
set_option linter.unusedVariables false

/-- a list of terms in a row of its own (zone Z); what they hold lies in S -/
def AppS (T : Nat) (Z S : Nat → Prop) (ts : List Tm) (v : Value) (w : World) : Prop := ∃ xs, w.ownsRow 0 T 4 v ts.length xs ∧ (∀ g, v.ownBlock = some g → Z g) ∧ Tm.flat S w ts xs
theorem AppS.empty {w : World} {T b : Nat} {Z S : Nat → Prop} (hb : b = w.heap.size) (hz : Z b) : AppS T Z S [] (.slice (some ⟨b, 0, none⟩) 0 0) (w.alloc (.cells #[] T)) :=
  ⟨[], own_low (own_empty hb) (Nat.zero_le _), by intro g hg; simp [Value.ownBlock] at hg; subst hg; exact hz, rfl⟩
theorem AppS.keep {T : Nat} {Z S M : Nat → Prop} {ts : List Tm} {v : Value} {w w' : World} (h : AppS T Z S ts v w) (f : Fr M w w') (hM : ∀ k, k < w.heap.size → M k → ¬ Z k) (hS : ∀ k, S k → ¬ M k) : AppS T Z S ts v w' := by
  obtain ⟨xs, h1, hz, h2⟩ := h
  exact ⟨xs, own_keep h1 f (fun g hg hm => hM g (h1.lt g hg).2 hm (hz g hg)), hz, flat_mono (fun _ h => h) (f.agree hS) h2⟩
theorem AppS.ext {T : Nat} {Z S : Nat → Prop} {ts : List Tm} {v : Value} {w w' : World} (h : AppS T Z S ts v w) (e : Ext w w') : AppS T Z S ts v w' := h.keep (M := fun _ => False) (Fr.of_ext e) (fun _ _ h => h.elim) (fun _ _ h => h)
theorem AppS.sl {T : Nat} {Z S : Nat → Prop} {ts : List Tm} {v : Value} {w : World} (h : AppS T Z S ts v w) (hl : ts.length ≤ 1048576) : Tm.sl (fun b => S b ∨ v.ownBlock = some b) w ts v := by
  obtain ⟨xs, h1, hz, h2⟩ := h
  exact own_sl h1 h2 hl
theorem wpList_append_sh {P : Program} {ops : Array Oper} {rest : List Oper} {o : Oper} {a : Act} {w1 : World} {Q : Exit → Act → World → Prop}
    (hgd : o.guard = none) (s x : Operand) (ty : TypeId)
    (ho : o.op = .call { callee := .builtin .append, args := #[s, x], argTypes := #[ty, ty] })
    (Z S : Nat → Prop) (T : TypeId) (i : TypeInfo) (ht : P.underlying ty = some (.slice T)) (hi : P.info? T = some i) (hz : i.zero = some (.agg #[.int .i64 0, .int .i64 0, .string ⟨#[]⟩, .slice none 0 0]))
    (hsize : i.size = 4) (hby : i.bytes = 56)
    (v : Value) (ts : List Tm) (t : Tm) (a2 : Option Addr) (c2 : Nat) (hs : a.eval s = v) (happ : AppS T Z S ts v w1) {nb : Nat} (hx : a.eval x = .slice (some ⟨nb, 0, none⟩) 1 1)
    (hv1 : Tm.at S w1 t (.agg #[.int .i64 t.kind, .int .i64 t.n, .string t.name, .slice a2 t.kids.length c2])) (hSZ : ∀ b, S b → ¬ Z b)
    (hl : ts.length < 1048576) (hnew : ∀ b, w1.heap.size ≤ b → Z b) (hnb : nb = w1.heap.size)
    (h : ∀ av cv w2, AppS T Z S (ts ++ [t]) (.slice av (ts.length + 1) cv) w2 → Fr Z w1 w2 → wpList P ops Q rest (a.put o.dst (.slice av (ts.length + 1) cv)) w2) :
    wpList P ops Q (o :: rest) a (w1.alloc (.cells #[.int .i64 t.kind, .int .i64 t.n, .string t.name, .slice a2 t.kids.length c2] T)) := by
  subst hnb
  obtain ⟨xs, how, hzz, hfl⟩ := happ
  refine wpList_append_fresh hgd s x ty ho 0 T i _ 4 56 ht hi hz hsize hby rfl (by decide) v ts.length xs hs (own_ext how (Ext.alloc _ _)) ⟨w1.heap.size, 0, none⟩ 1 1 (tcells t a2 c2) hx rfl (fun j u h => cell_four _ _ _ j u h) (by simp [tcells, Value.oneCell']) (by unfold maxLen; omega) (by omega) (by omega) ?_
  intro v2 w2 ho2 hg2 hfr2 _
  obtain ⟨av, cv, rfl⟩ := own_form ho2
  have f : Fr Z w1 w2 := (Fr.alloc _ _).trans (Fr.of_grown hg2 (fun k hk => hzz k hk))
  refine h av cv w2 ⟨xs ++ tcells t a2 c2, by simpa using ho2, ?_, flat_snoc (f.at hv1 hSZ) (flat_mono (fun _ h => h) (f.agree hSZ) hfl)⟩ f
  intro g hg
  rcases hfr2 g hg with hh | hh
  · exact hzz g hh
  · exact hnew g (by simp at hh; omega)

theorem joinF_take_snoc {ts : List Tm} {j : Nat} {t : Tm} (h : ts[j]? = some t) (h0 : j ≠ 0) : joinF ((ts.take (j + 1)).map (txt true)) = (joinF ((ts.take j).map (txt true)) ++ [44]) ++ txt true t := by
  rw [take_snoc_of h, List.map_append, List.map_cons, List.map_nil, joinF_snoc]
  · simp
  · intro e
    rw [List.map_eq_nil_iff, List.take_eq_nil_iff] at e
    rcases e with e | e
    · exact h0 e
    · rw [e] at h; simp at h
set_option maxRecDepth 100000 in
set_option maxHeartbeats 2000000 in
theorem specl2Args (ts : List Tm) (v : Value) (S : Nat → Prop) (w : World) (hp : ∀ (j : Nat) (u : Tm), ts[j]? = some u → S2C u) (hd : ∀ (j : Nat) (u : Tm), ts[j]? = some u → ∃ d, shapeF u d = true) (hlen : (joinF (ts.map (txt true))).length ≤ 4000) (ht : Tm.sl S w ts v) :
    Calls Tryz.prog 51 #[v] w fun e w' => e = .returned (.string (bs (joinF (ts.map (txt true))))) ∧ Ext w w' := by
  have HP := Lib.hid hp
  have HD := Lib.hid hd
  have HLN := Lib.hid hlen
  obtain ⟨ar, cap, rfl, h1, h2, h3, h4⟩ := ht
  have H4 := Lib.hid h4
  clear hp hd hlen h4
  go_enter Tryz.func51, Tryz.ntmps51
  go_wp2_with fail
  go_loopw [3, 4] (fun sv i wr => ∃ (j : Nat) (l : List UInt8), j ≤ ts.length ∧ sv = .string (bs l) ∧ i = .int .i64 j ∧ Hid (l = joinF ((ts.take j).map (txt true))) ∧ Hid (Ext w wr)) (fun _ i _ => ts.length - (intOf i).toNat)
  case atStart => exact ⟨0, [], Nat.zero_le _, rfl, rfl, Lib.hid rfl, Lib.hid (Ext.refl _)⟩
  case round =>
    obtain ⟨j, l, hj, rfl, rfl, HLQ, HX⟩ := hrel
    have ll : l.length ≤ 4000 := by rw [HLQ.out, List.map_take]; exact Nat.le_trans (joinF_take _ _) HLN.out
    by_cases hlt : j < ts.length
    · obtain ⟨tk, htk⟩ := getk hlt
      obtain ⟨b, off, a1, c1', rfl, hSb, k1, k2, k3, k4, hat⟩ := tget H4.out htk
      replace k1 := HX.out.cell k1
      replace k2 := HX.out.cell k2
      replace k3 := HX.out.cell k3
      replace k4 := HX.out.cell k4
      obtain ⟨d, hsd⟩ := HD.out j tk htk
      have HC := Lib.hid (HP.out j tk htk d _ S wr hsd (Tm.at_ext HX.out hat))
      have hl3 : ts.length ≤ 1048576 := h3
      have lx : l.length + 1 + (txt true tk).length ≤ 8003 := by
        have h2 : (joinF ((ts.take (j + 1)).map (txt true))).length ≤ 4000 := by rw [List.map_take]; exact Nat.le_trans (joinF_take _ _) HLN.out
        by_cases hj0 : j = 0
        · subst hj0
          rw [take_snoc_of htk] at h2
          simp [joinF] at h2
          omega
        · rw [joinF_take_snoc htk hj0] at h2
          simp only [List.length_append] at h2
          omega
      have lb0 : ¬ 9223372036854775807 < (bs l).size + 1 := by rw [bs_size]; omega
      have lb1 : ¬ 9223372036854775807 < (bs l).size + (bs (txt true tk)).size := by rw [bs_size, bs_size]; omega
      have lb2 : ¬ 9223372036854775807 < (bs l).size + 1 + (bs (txt true tk)).size := by rw [bs_size, bs_size]; omega
      by_cases hj0 : j = 0
      · have hjz : ¬ (0 : Int) < (j : Int) := by omega
        have HN := Lib.hid (show l ++ txt true tk = joinF ((ts.take (j + 1)).map (txt true)) by
          rw [take_snoc_of htk, HLQ.out, hj0]
          simp [joinF])
        clear htk hat hSb hj0 lx
        go_wp2_with fail
        refine HC.out.mono ?_
        rintro e w2 ⟨rfl, e2⟩
        go_wp2_with fail
        go_roundw
        case rel => exact ⟨j + 1, l ++ txt true tk, by omega, congrArg Value.string (bs_app _ _), by simp, HN, Lib.hid (HX.out.trans e2)⟩
        case measure => simp [intOf]; omega
      · have hjz : (0 : Int) < (j : Int) := by omega
        have HN := Lib.hid (show (l ++ [44]) ++ txt true tk = joinF ((ts.take (j + 1)).map (txt true)) by
          rw [joinF_take_snoc htk hj0, HLQ.out])
        clear htk hat hSb hj0 lx
        go_wp2_with fail
        refine HC.out.mono ?_
        rintro e w2 ⟨rfl, e2⟩
        go_wp2_with fail
        go_roundw
        case rel => exact ⟨j + 1, (l ++ [44]) ++ txt true tk, by omega, congrArg Value.string (by rw [show (⟨#[44]⟩ : ByteArray) = bs [44] from rfl, bs_app, bs_app]), by simp, HN, Lib.hid (HX.out.trans e2)⟩
        case measure => simp [intOf]; omega
    · obtain rfl : j = ts.length := by omega
      have HQ := Lib.hid (show l = joinF (ts.map (txt true)) by rw [HLQ.out, List.take_of_length_le (Nat.le_refl _)])
      go_wp2_with fail
      go_ret
      exact ⟨by rw [← HQ.out]; rfl, HX.out⟩
end Go.Proofs.YtifklfnpaigdkaaGreatDoor
namespace Go.Proofs.YtifklfnpaigdkaaGreatDoor
open Go.RowKit
set_option linter.unusedVariables false

theorem shape_mem : ∀ (t : Tm) (d : Nat), shapeF t d = true → True := fun _ _ _ => trivial
set_option maxRecDepth 100000 in
set_option maxHeartbeats 4000000 in
theorem specl2List (n : Int) (s : ByteArray) (a b : Tm) (d : Nat) (v : Value) (S : Nat → Prop) (w : World)
    (hp : ∀ u, Tm.sz u < Tm.sz (.mk 3 n s [a, b]) → S2C u) (hsh : shapeF (.mk 3 n s [a, b]) d = true) (hsz : Tm.sz (.mk 3 n s [a, b]) ≤ 120) (hpr : pairF 3 s 2 = true) (ht : Tm.at S w (.mk 3 n s [a, b]) v) :
    Calls Tryz.prog 46 #[v] w fun e w' => e = .returned (.string (bs (txt true (.mk 3 n s [a, b])))) ∧ Ext w w' := by
  have HP := Lib.hid hp
  have HL := Lib.hid (tx_len true _ d hsh)
  have HS0 := Lib.hid hsh
  have HSA := Lib.hid (shape_kid hsh (j := 0) (t := a) rfl)
  have HSB := Lib.hid (shape_kid hsh (j := 1) (t := b) rfl)
  have HPR := Lib.hid hpr
  have hno : (true && infF 3 s 2) = false := by
    obtain ⟨_, _, h46⟩ := pair_two hpr
    simp [infF, h46, opLevelF]
  have HF := Lib.hid (txt_pair (o := true) (n := n) (a := a) (b := b) hno hpr)
  have HZ := Lib.hid hsz
  have ht' := Tm.at_bound ht
  have HT := Lib.hid ht'
  obtain ⟨i0, hi, hz0, hz1, hz2⟩ := info_parts info_term3
  have HI := Lib.hid hi
  have HZ0 := Lib.hid hz0
  have HZ1 := Lib.hid hz1
  have HZ2 := Lib.hid hz2
  obtain ⟨hs1, sv, rfl, ar, cap, rfl, h1, h2, h3, h4⟩ := ht'
  obtain ⟨hcap, _⟩ : 2 ≤ cap ∧ True := ⟨h1, trivial⟩
  have HTX := Lib.hid (show (txt true (.mk 3 n s [a, b])).length ≤ 3900 by have := HL.out.1; have := HZ.out; omega)
  clear hp hsh hsz hpr ht h4 hno hi hz0 hz1 hz2
  go_enter Tryz.func46, Tryz.ntmps46
  go_wp2_with fail
  go_loopg [3] (Tm.sz (.mk 3 n s [a, b])) (fun g sv wr => ∃ (u : Tm) (its : List Tm) (av : Option Addr) (cv : Nat) (ac : Option Addr) (cc e : Nat), Tm.sz u ≤ g ∧ sv = .slice av its.length cv ∧
      Hid ((its = [] ∧ u = .mk 3 n s [a, b]) ∨ (its ≠ [] ∧ Tm.sz u < Tm.sz (.mk 3 n s [a, b]) ∧ joinF (its.map (txt true)) ++ rst true u = txt true a ++ rst true b)) ∧ Hid (shapeF u e = true) ∧ Hid (its.length + Tm.sz u ≤ Tm.sz (.mk 3 n s [a, b])) ∧
      Hid (∀ (j : Nat) (x : Tm), its[j]? = some x → Tm.sz x < Tm.sz (.mk 3 n s [a, b]) ∧ ∃ d, shapeF x d = true) ∧
      Hid (BoxT wr w.heap.size (.int .i64 u.kind) (.int .i64 u.n) (.string u.name) (.slice ac u.kids.length cc)) ∧ Hid (Tm.at (fun x => S x ∧ x < w.heap.size) wr u (.agg #[.int .i64 u.kind, .int .i64 u.n, .string u.name, .slice ac u.kids.length cc])) ∧
      Hid (AppS 31 (fun b => w.heap.size + 1 ≤ b) (fun x => S x ∧ x < w.heap.size) its (.slice av its.length cv) wr) ∧ Hid (Ext w wr))
  case atStart =>
    refine ⟨.mk 3 n s [a, b], [], _, _, _, cap, d, Nat.le_refl _, rfl, Lib.hid (.inl ⟨rfl, rfl⟩), HS0, Lib.hid (by simp), Lib.hid (fun j x h => by simp at h), Lib.hid ?_, Lib.hid (Tm.at_ext ((Ext.alloc _ _).trans (Ext.alloc _ _)) HT.out), Lib.hid ?_, Lib.hid ((Ext.alloc _ _).trans (Ext.alloc _ _))⟩
    · exact (BoxT.new w _ _ _ _ 31 rfl).ext (Ext.alloc _ _)
    · exact AppS.empty (by simp) (by simp)
  case round =>
    obtain ⟨u, its, av, cv, ac, cc, e, hg, rfl, HE, HSU, HSZ, HIT, HBX, HAT, HAP, HX⟩ := hrel
    have sB : w.heap.size < wr.heap.size := HBX.out.lt
    obtain ⟨uk, un, us, uks⟩ := u
    simp only [Tm.kind, Tm.n, Tm.name, Tm.kids] at HBX HAT
    obtain ⟨b0, b1, b2, b3, f0, f1, f2, f3⟩ := HBX.out
    have lits : its.length ≤ 120 := by have := HSZ.out; have := HZ.out; omega
    go_wp2_with fail
    refine (specl1Pair uk un us uks _ (fun x => S x ∧ x < w.heap.size) _ HAT.out).mono ?_
    rintro e3 w3 ⟨rfl, e3⟩
    have E3 := Lib.hid (HX.out.trans e3)
    have HBX3 := Lib.hid (HBX.out.ext e3)
    obtain ⟨b0, b1, b2, b3, f0, f1, f2, f3⟩ := HBX.out.ext e3
    have s3 : w.heap.size < w3.heap.size := block_lt_of_cell b0
    have HAT3 := Lib.hid (Tm.at_ext e3 HAT.out)
    have HAP3 := Lib.hid (HAP.out.ext e3)
    cases hpu : pairF uk us uks.length
    · have HEE : Hid (its ≠ [] ∧ Tm.sz (.mk uk un us uks) < Tm.sz (.mk 3 n s [a, b]) ∧ joinF (its.map (txt true)) ++ rst true (.mk uk un us uks) = txt true a ++ rst true b) := Lib.hid (by
        rcases HE.out with ⟨_, h⟩ | h
        · simp only [Tm.mk.injEq] at h
          obtain ⟨rfl, rfl, rfl, rfl⟩ := h
          have := HPR.out
          rw [show ([a, b] : List Tm).length = 2 from rfl] at hpu
          rw [this] at hpu
          cases hpu
        · exact h)
      have HLJ := Lib.hid (show (joinF (its.map (txt true))).length + (rst true (.mk uk un us uks)).length ≤ 3900 by
        have h1 := congrArg List.length HEE.out.2.2
        have h2 := HTX.out
        rw [HF.out] at h2
        simp only [List.length_append, List.length_cons, List.length_nil] at h1 h2
        omega)
      have CARGS := Lib.hid (fun w' (e' : Ext w3 w') => specl2Args its (.slice av its.length cv) (fun b => (S b ∧ b < w.heap.size) ∨ (Value.slice av its.length cv).ownBlock = some b) w' (fun j x h => HP.out x (HIT.out j x h).1) (fun j x h => (HIT.out j x h).2) (by have := HLJ.out; omega) ((HAP3.out.ext e').sl (by omega)))
      go_wp2_with fail
      refine (specl1Nil uk un us uks _ (fun x => S x ∧ x < w.heap.size) _ HAT3.out).mono ?_
      rintro e4 w4 ⟨rfl, e4⟩
      have E4 := Lib.hid (E3.out.trans e4)
      have E34 := Lib.hid e4
      obtain ⟨b0, b1, b2, b3, f0, f1, f2, f3⟩ := HBX3.out.ext e4
      have s4 : w.heap.size < w4.heap.size := block_lt_of_cell b0
      have lb1 : ¬ 9223372036854775807 < 1 + (bs (joinF (its.map (txt true)))).size := by rw [bs_size]; have := HLJ.out; omega
      have lb2 : ¬ 9223372036854775807 < 1 + (bs (joinF (its.map (txt true)))).size + 1 := by rw [bs_size]; have := HLJ.out; omega
      cases hnu : nilF uk us uks.length
      · have HR := Lib.hid (rst_tail (o := true) (n := un) (ks := uks) hpu hnu)
        have lx : (joinF (its.map (txt true))).length + (txt true (.mk uk un us uks)).length ≤ 3900 := by
          have := HLJ.out
          rw [HR.out] at this
          simp only [List.length_cons] at this
          omega
        have lb3 : ¬ 9223372036854775807 < 1 + (bs (joinF (its.map (txt true)))).size + 1 + (bs (txt true (.mk uk un us uks))).size := by rw [bs_size, bs_size]; omega
        have lb4 : ¬ 9223372036854775807 < 1 + (bs (joinF (its.map (txt true)))).size + 1 + (bs (txt true (.mk uk un us uks))).size + 1 := by rw [bs_size, bs_size]; omega
        have cQ := quiet_call (w := w4) (fun w' e' => CARGS.out w' (E34.out.trans e'))
        have cT := quiet_call (w := w4) (fun w' e' => HP.out (.mk uk un us uks) HEE.out.2.1 e (.agg #[.int .i64 uk, .int .i64 un, .string us, .slice ac uks.length cc]) (fun x => S x ∧ x < w.heap.size) w' HSU.out (Tm.at_ext (E34.out.trans e') HAT3.out))
        replace b0 := cell_regrown b0
        replace b1 := cell_regrown b1
        replace b2 := cell_regrown b2
        replace b3 := cell_regrown b3
        clear f0 f1 f2 f3
        go_wp2_with fail
        refine region_ext (by kernel_rfl) (by kernel_rfl) ?_
        repeat (quiet_step (first | with_reducible exact cQ _ _ | with_reducible exact cT _ _))
        refine wpQuiet_nil ?_
        intro wq eq
        go_wp2_with fail
        go_ret
        refine ⟨?_, E4.out.trans eq⟩
        rw [HF.out]
        have h := HEE.out.2.2
        rw [HR.out] at h
        refine retS ?_
        show (((bs [91] ++ bs (joinF (its.map (txt true)))) ++ bs [124]) ++ bs (txt true (.mk uk un us uks))) ++ bs [93] = bs _
        rw [bs_app, bs_app, bs_app, bs_app, ← List.append_assoc (txt true a), ← h]
        simp
      · have HR := Lib.hid (rst_nil (o := true) (n := un) (ks := uks) hpu hnu)
        go_wp2_with (go_at_call 51; refine (CARGS.out _ E34.out).mono ?_; rintro e5 w5 ⟨rfl, e5⟩)
        go_ret
        refine ⟨?_, E4.out.trans e5⟩
        rw [HF.out]
        have h := HEE.out.2.2
        rw [HR.out, List.append_nil] at h
        refine retS ?_
        show (bs [91] ++ bs (joinF (its.map (txt true)))) ++ bs [93] = bs _
        rw [bs_app, bs_app, ← List.append_assoc (txt true a), ← h]
        simp
    · obtain ⟨rfl, h2l, h46⟩ := pair_two hpu
      obtain ⟨x, y, rfl⟩ := len_two h2l
      have HR := Lib.hid (rst_pair (o := true) (n := un) (a := x) (b := y) hpu)
      have hz1 := HSZ.out
      have HSX := Lib.hid (shape_kid HSU.out (j := 0) (t := x) rfl)
      have HSY := Lib.hid (shape_kid HSU.out (j := 1) (t := y) rfl)
      obtain ⟨_, _, hcc1, hcc2, _, x4⟩ := at_kids HAT3.out
      obtain ⟨ru, offu, px, cx, py, cy, rfl, hSu, k1, k2, k3, k4, r1, r2, r3, r4, hatx, haty⟩ := two_get x4
      have HXA := Lib.hid hatx
      have HYA := Lib.hid haty
      have lru := hSu.2
      have hcc1 : 2 ≤ cc := hcc1
      have HM := Lib.hid (show Tm.sz y < gk ∧ its.length + 1 + Tm.sz y ≤ Tm.sz (.mk 3 n s [a, b]) ∧ Tm.sz x < Tm.sz (.mk 3 n s [a, b]) ∧ Tm.sz y < Tm.sz (.mk 3 n s [a, b]) by have := Tm.sz_pos x; simp only [Tm.sz, Tm.szL] at hz1 hg ⊢; omega)
      have HEN := Lib.hid (show joinF ((its ++ [x]).map (txt true)) ++ rst true y = txt true a ++ rst true b by
        rcases HE.out with ⟨hn1, hn2⟩ | ⟨hn1, _, hn2⟩
        · simp only [Tm.mk.injEq] at hn2
          obtain ⟨_, hn3, hn4, hn5⟩ := hn2
          simp only [List.cons.injEq, and_true] at hn5
          obtain ⟨hn6, hn7⟩ := hn5
          rw [hn1, hn6, hn7]
          simp [joinF]
        · rw [HR.out] at hn2
          rw [List.map_append, List.map_cons, List.map_nil, joinF_snoc _ _ (by simpa using hn1), ← hn2]
          simp)
      have HITN := Lib.hid (show ∀ (j : Nat) (z : Tm), (its ++ [x])[j]? = some z → Tm.sz z < Tm.sz (.mk 3 n s [a, b]) ∧ ∃ d, shapeF z d = true from fun j z hz => by
        by_cases hj : j < its.length
        · rw [List.getElem?_append_left hj] at hz
          exact HIT.out j z hz
        · rw [List.getElem?_append_right (by omega)] at hz
          have : j - its.length = 0 := by
            apply Decidable.byContradiction
            intro hne
            rw [List.getElem?_eq_none (by simp; omega)] at hz
            cases hz
          rw [this] at hz
          simp at hz
          subst hz
          exact ⟨HM.out.2.2.1, e - 1, HSX.out⟩)
      clear hatx haty x4 hSu hz1 hg
      go_wp2_with (at_builtin; refine wpList_append_sh rfl (.tmp 7) (.tmp 12) 29 rfl (fun b => w.heap.size + 1 ≤ b) (fun x => S x ∧ x < w.heap.size) 31 i0 Tryz.underlying29 HI.out HZ0.out HZ1.out HZ2.out (.slice av its.length cv) its x px cx rfl HAP3.out rfl HXA.out (fun b hb hz => by omega) (by omega) (fun b hb => by omega) rfl ?_; intro av2 cv2 w4 hA2 hf2; have K4 := Lib.hid hA2; have F4 := Lib.hid hf2; have g0 := hf2.cell (by omega) b0; have g1 := hf2.cell (by omega) b1; have g2 := hf2.cell (by omega) b2; have g3 := hf2.cell (by omega) b3; have t1 := hf2.cell (by omega) r1; have t2 := hf2.cell (by omega) r2; have t3 := hf2.cell (by omega) r3; have t4 := hf2.cell (by omega) r4; have v0 := hf2.frozen s3 (by omega) f0; have v1 := hf2.frozen s3 (by omega) f1; have v2 := hf2.frozen s3 (by omega) f2; have v3 := hf2.frozen s3 (by omega) f3; clear hA2 hf2)
      have f5 : Fr (fun k => k = w.heap.size) w4 _ := put4_frw w4 (b := w.heap.size) (.int .i64 y.kind) (.int .i64 y.n) (.string y.name) (.slice py y.kids.length cy) rfl
      have F := ((Fr.of_ext (M := fun k => w.heap.size ≤ k) E3.out).trans (F4.out.mono (M' := fun k => w.heap.size ≤ k) (fun k _ h => by omega))).trans (f5.mono (M' := fun k => w.heap.size ≤ k) (fun k _ h => by omega))
      go_roundg (Tm.sz y)
      case measure => exact HM.out.1
      case rel =>
        refine ⟨y, its ++ [x], av2, cv2, py, cy, e - 1, Nat.le_refl _, by simp, Lib.hid (.inr ⟨by simp, HM.out.2.2.2, HEN.out⟩), HSY, Lib.hid (by simp only [List.length_append, List.length_cons, List.length_nil]; exact HM.out.2.1), HITN, Lib.hid (BoxT.put4 (HBX3.out.fr F4.out (by omega)) _ _ _ _), Lib.hid (f5.at (F4.out.at HYA.out (fun k hk h => by omega)) (fun k hk h => by omega)), Lib.hid ?_, Lib.hid (F.toExt (fun k hk h => by omega))⟩
        have := K4.out.keep f5 (fun k hk h => by omega) (fun k hk h => by omega)
        simpa using this

theorem sub_nn {n : Int} (h : 0 < n) : 0 ≤ n - 1 := by omega
set_option maxRecDepth 100000 in
set_option maxHeartbeats 4000000 in
theorem specl2Text_op (n : Int) (s : ByteArray) (a b : Tm) (d : Nat) (v : Value) (S : Nat → Prop) (w : World) (ha : S2C a) (hb : S2C b) (hin : infF 3 s 2 = true) (hsh : shapeF (.mk 3 n s [a, b]) d = true) (hsz : Tm.sz (.mk 3 n s [a, b]) ≤ 120)
    (ht : Tm.at S w (.mk 3 n s [a, b]) v) :
    Calls Tryz.prog 31 #[v] w fun e w' => e = .returned (.string (bs (txt true (.mk 3 n s [a, b])))) ∧ Ext w w' := by
  have HF := Lib.hid (show txt true (.mk 3 n s [a, b]) = opn (txF true a) (leftM s.toList) false ++ (spaced s.toList ++ opn (txF true b) (opLevelF s.toList - 1) true) by simp [txt, txF, ownTx, txL, hin])
  obtain ⟨_, _, hpos⟩ := inf_two hin
  have hlv := op_le3 s.toList
  have HLN := Lib.hid (tx_len true _ d hsh)
  have HZ := Lib.hid hsz
  have HSA := Lib.hid (shape_kid hsh (j := 0) (t := a) rfl)
  have HSB := Lib.hid (shape_kid hsh (j := 1) (t := b) rfl)
  have HIN := Lib.hid hin
  have hpr : pairF 3 s 2 = false := by
    cases h : pairF 3 s 2
    · rfl
    · obtain ⟨_, _, h46⟩ := pair_two h
      rw [h46] at hpos
      simp [opLevelF] at hpos
  have HT := Lib.hid ht
  obtain ⟨hs1, sv, rfl, ar, cap, rfl, h1, h2, h3, h4⟩ := ht
  obtain ⟨rb, off, p, c, p', c', rfl, hSb, k1, k2, k3, k4, q1, q2, q3, q4, hat, hat'⟩ := two_get h4
  have za : Tm.sz a ≤ 120 := by simp only [Tm.sz, Tm.szL] at hsz; omega
  have zb : Tm.sz b ≤ 120 := by simp only [Tm.sz, Tm.szL] at hsz; omega
  have hlm : 0 ≤ leftM s.toList := by unfold leftM; split <;> omega
  have CA := Lib.hid (fun w1 (e1 : Ext w w1) => quiet_call (w := w1) (fun w' e' => specl2Left a (d - 1) (.agg #[.int .i64 a.kind, .int .i64 a.n, .string a.name, .slice p a.kids.length c]) S w' (leftM s.toList) hlm ha HSA.out za (Tm.at_ext (e1.trans e') hat)))
  have CB := Lib.hid (fun w1 (e1 : Ext w w1) => quiet_call (w := w1) (fun w' e' => specl2Right b (d - 1) (.agg #[.int .i64 b.kind, .int .i64 b.n, .string b.name, .slice p' b.kids.length c']) S w' (opLevelF s.toList - 1) (sub_nn hpos) hb HSB.out zb (Tm.at_ext (e1.trans e') hat')))
  clear h4 hat hat' hsh hsz ha hb hin za zb
  go_enter Tryz.func31, Tryz.ntmps31
  go_wp2_with fail
  refine (specl1Pair 3 n s [a, b] _ S _ (Tm.at_ext (Ext.alloc _ _) HT.out)).mono ?_
  rw [show ([a, b] : List Tm).length = 2 from rfl, hpr]
  rintro e w1 ⟨rfl, e1⟩
  have E1 := Lib.hid ((Ext.alloc w (.cells #[.int .i64 3, .int .i64 n, .string s, .slice (some ⟨rb, off, none⟩) 2 cap] 31)).trans e1)
  have HBX := Lib.hid ((BoxT.new w (.int .i64 3) (.int .i64 n) (.string s) (.slice (some ⟨rb, off, none⟩) 2 cap) 31 rfl).ext e1)
  obtain ⟨c0, c1, c2, c3, g0, g1, g2, g3⟩ := HBX.out
  have s1 : w.heap.size < w1.heap.size := block_lt_of_cell c0
  clear e1
  go_wp2_with fail
  refine (specl2Infix 3 n s [a, b] _ S _ (Tm.at_ext E1.out HT.out)).mono ?_
  rw [show ([a, b] : List Tm).length = 2 from rfl, HIN.out]
  rintro e w2 ⟨rfl, e2⟩
  have E2 := Lib.hid (E1.out.trans e2)
  have HBX := Lib.hid (HBX.out.ext e2)
  obtain ⟨c0, c1, c2, c3, g0, g1, g2, g3⟩ := HBX.out
  have s1 : w.heap.size < w2.heap.size := block_lt_of_cell c0
  clear e2
  go_wp2_with fail
  refine (specl2Level_x s _).mono ?_
  rintro e w3 ⟨rfl, e3⟩
  have E3 := Lib.hid (E2.out.trans e3)
  obtain ⟨c0, c1, c2, c3, g0, g1, g2, g3⟩ := HBX.out.ext e3
  have s1 : w.heap.size < w3.heap.size := block_lt_of_cell c0
  replace k1 := cell_regrown (E3.out.cell k1)
  replace k2 := cell_regrown (E3.out.cell k2)
  replace k3 := cell_regrown (E3.out.cell k3)
  replace k4 := cell_regrown (E3.out.cell k4)
  replace q1 := cell_regrown (E3.out.cell q1)
  replace q2 := cell_regrown (E3.out.cell q2)
  replace q3 := cell_regrown (E3.out.cell q3)
  replace q4 := cell_regrown (E3.out.cell q4)
  have cA := CA.out w3 E3.out
  have cB := CB.out w3 E3.out
  have cO := quiet_call (w := w3) (fun w' _ => specl2Spaced s w' hs1 hpos)
  have m2 := cell_regrown c2
  have m3 := cell_regrown c3
  have hlen : (opn (txF true a) (leftM s.toList) false).length + ((spaced s.toList).length + (opn (txF true b) (opLevelF s.toList - 1) true).length) ≤ 4000 := by
    have h1 := HLN.out.1
    have h2 := HZ.out
    rw [HF.out] at h1
    simp only [List.length_append] at h1
    omega
  have lb1 : ¬ 9223372036854775807 < (bs (opn (txF true a) (leftM s.toList) false)).size + (bs (spaced s.toList)).size := by rw [bs_size, bs_size]; omega
  have lb2 : ¬ 9223372036854775807 < (bs (opn (txF true a) (leftM s.toList) false)).size + (bs (spaced s.toList)).size + (bs (opn (txF true b) (opLevelF s.toList - 1) true)).size := by rw [bs_size, bs_size, bs_size]; omega
  have hwr : IntKind.i64.wrap (opLevelF s.toList - 1) = opLevelF s.toList - 1 := IntWalk.i64_in _ (by omega)
  clear e3 g0 g1 g2 g3 hlen
  by_cases h3' : opLevelF s.toList = 3
  · have h3b : (opLevelF s.toList == 3) = true := by simp [h3']
    have hl2 : leftM s.toList = 2 := by simp [leftM, h3']
    rw [hl2] at cA lb1 lb2
    have HF2 := Lib.hid (show txt true (.mk 3 n s [a, b]) = opn (txF true a) 2 false ++ (spaced s.toList ++ opn (txF true b) (opLevelF s.toList - 1) true) by rw [HF.out, hl2])
    clear h3' hl2 hlm
    go_wp2_with fail
    refine region_ext (by kernel_rfl) (by kernel_rfl) ?_
    repeat (quiet_step (first | with_reducible exact cA _ _ | with_reducible exact cB _ _ | with_reducible exact cO _ _))
    refine wpQuiet_nil ?_
    intro wq eq
    go_wp2_with fail
    go_ret
    refine ⟨?_, E3.out.trans eq⟩
    rw [HF2.out]
    refine retS ?_
    exact bl_ext (by simp only [list_app, bs_list]; simp)
  · have h3b : (opLevelF s.toList == 3) = false := by simp [h3']
    have hl2 : leftM s.toList = opLevelF s.toList := by simp [leftM, h3']
    rw [hl2] at cA lb1 lb2
    have HF2 := Lib.hid (show txt true (.mk 3 n s [a, b]) = opn (txF true a) (opLevelF s.toList) false ++ (spaced s.toList ++ opn (txF true b) (opLevelF s.toList - 1) true) by rw [HF.out, hl2])
    clear h3' hl2 hlm
    go_wp2_with fail
    refine region_ext (by kernel_rfl) (by kernel_rfl) ?_
    repeat (quiet_step (first | with_reducible exact cA _ _ | with_reducible exact cB _ _ | with_reducible exact cO _ _))
    refine wpQuiet_nil ?_
    intro wq eq
    go_wp2_with fail
    go_ret
    refine ⟨?_, E3.out.trans eq⟩
    rw [HF2.out]
    refine retS ?_
    exact bl_ext (by simp only [list_app, bs_list]; simp)
end Go.Proofs.YtifklfnpaigdkaaGreatDoor
namespace Go.Proofs.YtifklfnpaigdkaaGreatDoor
open Go.RowKit
set_option linter.unusedVariables false

theorem txt_leaf {k n : Int} {s : ByteArray} (o : Bool) : txt o (.mk k n s []) = txt false (.mk k n s []) := by
  simp [txt, txF, ownTx, txL, infF]
set_option maxRecDepth 100000 in
set_option maxHeartbeats 4000000 in
theorem specl2Text_leaf (k n : Int) (s : ByteArray) (d : Nat) (v : Value) (S : Nat → Prop) (w : World) (hsh : shapeF (.mk k n s []) d = true) (ht : Tm.at S w (.mk k n s []) v) :
    Calls Tryz.prog 31 #[v] w fun e w' => e = .returned (.string (bs (txt true (.mk k n s [])))) ∧ Ext w w' := by
  have hz : Tm.sz (.mk k n s []) ≤ 120 := by simp [Tm.sz, Tm.szL]
  have HC := Lib.hid (fun w' (e' : Ext w w') => specl1Text _ (.mk k n s []) (Nat.le_refl _) hz d v S w' hsh (Tm.at_ext e' ht))
  have HF := Lib.hid (txt_leaf (k := k) (n := n) (s := s) true)
  have hp : pairF k s ([] : List Tm).length = false := by simp [pairF]
  have hi : infF k s ([] : List Tm).length = false := by simp [infF]
  have HT := Lib.hid ht
  obtain ⟨hs1, sv, rfl, ar, cap, rfl, h1, h2, h3, h4⟩ := ht
  clear h4 hsh hz
  go_enter Tryz.func31, Tryz.ntmps31
  go_wp2_with fail
  refine (specl1Pair k n s [] _ S _ (Tm.at_ext (Ext.alloc _ _) HT.out)).mono ?_
  rw [hp]
  rintro e w1 ⟨rfl, e1⟩
  have E1 := Lib.hid ((Ext.alloc w (.cells #[.int .i64 k, .int .i64 n, .string s, .slice ar 0 cap] 31)).trans e1)
  have HBX := Lib.hid ((BoxT.new w (.int .i64 k) (.int .i64 n) (.string s) (.slice ar 0 cap) 31 rfl).ext e1)
  obtain ⟨c0, c1, c2, c3, g0, g1, g2, g3⟩ := HBX.out
  have s1 : w.heap.size < w1.heap.size := block_lt_of_cell c0
  clear e1
  go_wp2_with fail
  refine (specl2Infix k n s [] _ S _ (Tm.at_ext E1.out HT.out)).mono ?_
  rw [hi]
  rintro e w2 ⟨rfl, e2⟩
  have E2 := Lib.hid (E1.out.trans e2)
  obtain ⟨c0, c1, c2, c3, g0, g1, g2, g3⟩ := HBX.out.ext e2
  have s1 : w.heap.size < w2.heap.size := block_lt_of_cell c0
  clear e2
  by_cases hk : k = 3
  · have hk3 : (k == 3) = true := by simp [hk]
    clear hk
    go_wp2_with (go_at_call 52; refine (HC.out _ E2.out).mono ?_; rintro e w3 ⟨rfl, e3⟩)
    go_ret
    exact ⟨by rw [HF.out]; rfl, E2.out.trans e3⟩
  · have hk3 : (k == 3) = false := by simp [hk]
    clear hk
    go_wp2_with (go_at_call 52; refine (HC.out _ E2.out).mono ?_; rintro e w3 ⟨rfl, e3⟩)
    go_ret
    exact ⟨by rw [HF.out]; rfl, E2.out.trans e3⟩

set_option maxRecDepth 100000 in
set_option maxHeartbeats 4000000 in
theorem specl2Text_args (n : Int) (s : ByteArray) (ks : List Tm) (d : Nat) (v : Value) (S : Nat → Prop) (w : World) (hp : ∀ u, Tm.sz u < Tm.sz (.mk 3 n s ks) → S2C u) (hsh : shapeF (.mk 3 n s ks) d = true) (hsz : Tm.sz (.mk 3 n s ks) ≤ 120)
    (hpr : pairF 3 s ks.length = false) (hi : infF 3 s ks.length = false) (hl : ks.length ≠ 0) (ht : Tm.at S w (.mk 3 n s ks) v) :
    Calls Tryz.prog 31 #[v] w fun e w' => e = .returned (.string (bs (txt true (.mk 3 n s ks)))) ∧ Ext w w' := by
  have HF := Lib.hid (txt_args (o := true) (n := n) (by rw [hi]; rfl) hpr hl)
  have HLN := Lib.hid (tx_len true _ d hsh)
  have HT := Lib.hid ht
  obtain ⟨hs1, sv, rfl, ar, cap, rfl, h1, h2, h3, h4⟩ := ht
  have HSL := Lib.hid (show Tm.sl S w ks (.slice ar ks.length cap) from ⟨ar, cap, rfl, h1, h2, h3, h4⟩)
  have lj : (joinF (ks.map (txt true))).length + s.toList.length + 2 ≤ 4000 := by
    have h1 := HLN.out.1
    rw [HF.out] at h1
    simp only [List.length_append, List.length_cons, List.length_nil] at h1
    omega
  have HC := Lib.hid (fun w' (e' : Ext w w') => specl2Args ks (.slice ar ks.length cap) S w' (fun j u h => hp u (kid_lt h)) (fun j u h => ⟨d - 1, shape_kid hsh h⟩) (by omega) (Tm.sl_ext e' HSL.out))
  have lj1 : (bs (joinF (ks.map (txt true)))).size + s.size + 2 ≤ 4000 := by rw [bs_size, ← bl_len]; exact lj
  have hlz : (0 : Int) < (ks.length : Int) := by omega
  clear h4 hp hsh hsz hl lj
  go_enter Tryz.func31, Tryz.ntmps31
  go_wp2_with fail
  refine (specl1Pair 3 n s ks _ S _ (Tm.at_ext (Ext.alloc _ _) HT.out)).mono ?_
  rw [hpr]
  rintro e w1 ⟨rfl, e1⟩
  have E1 := Lib.hid ((Ext.alloc w (.cells #[.int .i64 3, .int .i64 n, .string s, .slice ar ks.length cap] 31)).trans e1)
  have HBX := Lib.hid ((BoxT.new w (.int .i64 3) (.int .i64 n) (.string s) (.slice ar ks.length cap) 31 rfl).ext e1)
  obtain ⟨c0, c1, c2, c3, g0, g1, g2, g3⟩ := HBX.out
  have s1 : w.heap.size < w1.heap.size := block_lt_of_cell c0
  clear e1
  go_wp2_with fail
  refine (specl2Infix 3 n s ks _ S _ (Tm.at_ext E1.out HT.out)).mono ?_
  rw [hi]
  rintro e w2 ⟨rfl, e2⟩
  have E2 := Lib.hid (E1.out.trans e2)
  obtain ⟨c0, c1, c2, c3, g0, g1, g2, g3⟩ := HBX.out.ext e2
  have s1 : w.heap.size < w2.heap.size := block_lt_of_cell c0
  have cQ := quiet_call (w := w2) (fun w' e' => HC.out w' (E2.out.trans e'))
  have m2 := cell_regrown c2
  have m3 := cell_regrown c3
  have lb1 : ¬ 9223372036854775807 < s.size + 1 := by omega
  have lb2 : ¬ 9223372036854775807 < s.size + 1 + (bs (joinF (ks.map (txt true)))).size := by omega
  have lb3 : ¬ 9223372036854775807 < s.size + 1 + (bs (joinF (ks.map (txt true)))).size + 1 := by omega
  clear e2 g0 g1 g2 g3
  go_wp2_with fail
  refine region_ext (by kernel_rfl) (by kernel_rfl) ?_
  repeat (quiet_step (with_reducible exact cQ _ _))
  refine wpQuiet_nil ?_
  intro wq eq
  go_wp2_with fail
  go_ret
  refine ⟨?_, E2.out.trans eq⟩
  rw [HF.out]
  refine retS ?_
  show ((s ++ bs [40]) ++ bs (joinF (ks.map (txt true)))) ++ bs [41] = bs _
  exact bl_ext (by simp only [list_app, bs_list]; simp)

set_option maxRecDepth 100000 in
set_option maxHeartbeats 4000000 in
theorem specl2Text_pair (n : Int) (s : ByteArray) (a b : Tm) (d : Nat) (v : Value) (S : Nat → Prop) (w : World) (hp : ∀ u, Tm.sz u < Tm.sz (.mk 3 n s [a, b]) → S2C u) (hsh : shapeF (.mk 3 n s [a, b]) d = true) (hsz : Tm.sz (.mk 3 n s [a, b]) ≤ 120)
    (hpr : pairF 3 s 2 = true) (ht : Tm.at S w (.mk 3 n s [a, b]) v) :
    Calls Tryz.prog 31 #[v] w fun e w' => e = .returned (.string (bs (txt true (.mk 3 n s [a, b])))) ∧ Ext w w' := by
  have HC := Lib.hid (fun w' (e' : Ext w w') => specl2List n s a b d v S w' hp hsh hsz hpr (Tm.at_ext e' ht))
  have HT := Lib.hid ht
  obtain ⟨hs1, sv, rfl, ar, cap, rfl, h1, h2, h3, h4⟩ := ht
  clear h4 hp hsh hsz
  go_enter Tryz.func31, Tryz.ntmps31
  go_wp2_with fail
  refine (specl1Pair 3 n s [a, b] _ S _ (Tm.at_ext (Ext.alloc _ _) HT.out)).mono ?_
  rw [show ([a, b] : List Tm).length = 2 from rfl, hpr]
  rintro e w1 ⟨rfl, e1⟩
  have E1 := Lib.hid ((Ext.alloc w (.cells #[.int .i64 3, .int .i64 n, .string s, .slice ar 2 cap] 31)).trans e1)
  obtain ⟨c0, c1, c2, c3, g0, g1, g2, g3⟩ := (BoxT.new w (.int .i64 3) (.int .i64 n) (.string s) (.slice ar 2 cap) 31 rfl).ext e1
  have s1 : w.heap.size < w1.heap.size := block_lt_of_cell c0
  go_wp2_with (go_at_call 46; refine (HC.out _ E1.out).mono ?_; rintro e w2 ⟨rfl, e2⟩)
  go_ret
  exact ⟨rfl, E1.out.trans e2⟩

theorem specl2Text : ∀ (m : Nat) (t : Tm), Tm.sz t ≤ m → Tm.sz t ≤ 120 → S2C t := by
  intro m
  induction m with
  | zero => intro t hm; have := Tm.sz_pos t; omega
  | succ m ih =>
    intro t hm hsz d v S w hsh ht
    obtain ⟨k, n, s, ks⟩ := t
    by_cases hl : ks.length = 0
    · rw [List.eq_nil_of_length_eq_zero hl] at hsh ht ⊢
      exact specl2Text_leaf k n s d v S w hsh ht
    · obtain rfl : k = 3 := by
        rcases shape_own hsh with ⟨_, _, rfl⟩ | ⟨_, _, rfl⟩ | ⟨h, _⟩
        · simp at hl
        · simp at hl
        · exact h
      cases hi : infF 3 s ks.length
      · cases hpr : pairF 3 s ks.length
        · exact specl2Text_args n s ks d v S w (fun u hu => ih u (by omega) (by omega)) hsh hsz hpr hi hl ht
        · obtain ⟨a, b, rfl⟩ := len_two (pair_two hpr).2.1
          exact specl2Text_pair n s a b d v S w (fun u hu => ih u (by omega) (by omega)) hsh hsz hpr ht
      · obtain ⟨a, b, rfl⟩ := len_two (inf_two hi).2.1
        have h1 : Tm.sz a ≤ m ∧ Tm.sz b ≤ m := by simp only [Tm.sz, Tm.szL] at hm; omega
        have h2 : Tm.sz a ≤ 120 ∧ Tm.sz b ≤ 120 := by simp only [Tm.sz, Tm.szL] at hsz; omega
        exact specl2Text_op n s a b d v S w (ih a h1.1 h2.1) (ih b h1.2 h2.2) hi hsh hsz ht
end Go.Proofs.YtifklfnpaigdkaaGreatDoor
