/-
  Texts of terms, the reference's: bytes at an offset; how an operator and its operands are written.
-/
import Derived.BigQuiet
import Derived.Test.YtognkaebiafgbaaMu25
import Derived.Test.YtognkaebiafgbaaMu18
namespace Go.Proofs.Ytognkaebiafgbaa
open Go.RowKit
set_option linter.unusedVariables false
set_option maxRecDepth 100000 in
set_option maxHeartbeats 1000000 in
theorem specl1Small (s : ByteArray) (i : Int) (w : World) (hs : s.size ≤ 1048576) : Calls Try.prog 77 #[.string s, .int .i64 i] w fun e w' => e = .returned (.bool (atB s.toList i smallB)) ∧ Ext w w' := by
  by_cases h0 : 0 ≤ i
  · obtain ⟨n, rfl⟩ := Int.eq_ofNat_of_zero_le h0
    by_cases hn : n < s.size
    · have hat := atB_str (p := smallB) hn
      by_cases h1 : (97 : Int) ≤ s[n].toNat
      · by_cases h2 : (s[n].toNat : Int) ≤ 122
        · have HF := Lib.hid (show atB s.toList (n : Int) smallB = true by rw [hat]; simp [smallB]; omega)
          clear hat
          go_enter Try.func77, Try.ntmps77
          go_wp2_with fail
          go_ret
          exact ⟨retB HF.out.symm, Ext.refl _⟩
        · have HF := Lib.hid (show atB s.toList (n : Int) smallB = false by rw [hat]; simp [smallB]; omega)
          clear hat
          go_enter Try.func77, Try.ntmps77
          go_wp2_with fail
          go_ret
          exact ⟨retB HF.out.symm, Ext.refl _⟩
      · have HF := Lib.hid (show atB s.toList (n : Int) smallB = false by rw [hat]; simp [smallB]; omega)
        clear hat
        go_enter Try.func77, Try.ntmps77
        go_wp2_with fail
        go_ret
        exact ⟨retB HF.out.symm, Ext.refl _⟩
    · have HF := Lib.hid (show atB s.toList (n : Int) smallB = false from atB_end (by rw [bl_len]; omega))
      go_enter Try.func77, Try.ntmps77
      go_wp2_with fail
      go_ret
      exact ⟨retB HF.out.symm, Ext.refl _⟩
  · have HF := Lib.hid (show atB s.toList i smallB = false from atB_neg h0)
    go_enter Try.func77, Try.ntmps77
    go_wp2_with fail
    go_ret
    exact ⟨retB HF.out.symm, Ext.refl _⟩
set_option maxRecDepth 100000 in
set_option maxHeartbeats 1000000 in
theorem specl1Digit (s : ByteArray) (i : Int) (w : World) (hs : s.size ≤ 1048576) : Calls Try.prog 70 #[.string s, .int .i64 i] w fun e w' => e = .returned (.bool (atB s.toList i digitB)) ∧ Ext w w' := by
  by_cases h0 : 0 ≤ i
  · obtain ⟨n, rfl⟩ := Int.eq_ofNat_of_zero_le h0
    by_cases hn : n < s.size
    · have hat := atB_str (p := digitB) hn
      by_cases h1 : (48 : Int) ≤ s[n].toNat
      · by_cases h2 : (s[n].toNat : Int) ≤ 57
        · have HF := Lib.hid (show atB s.toList (n : Int) digitB = true by rw [hat]; simp [digitB]; omega)
          clear hat
          go_enter Try.func70, Try.ntmps70
          go_wp2_with fail
          go_ret
          exact ⟨retB HF.out.symm, Ext.refl _⟩
        · have HF := Lib.hid (show atB s.toList (n : Int) digitB = false by rw [hat]; simp [digitB]; omega)
          clear hat
          go_enter Try.func70, Try.ntmps70
          go_wp2_with fail
          go_ret
          exact ⟨retB HF.out.symm, Ext.refl _⟩
      · have HF := Lib.hid (show atB s.toList (n : Int) digitB = false by rw [hat]; simp [digitB]; omega)
        clear hat
        go_enter Try.func70, Try.ntmps70
        go_wp2_with fail
        go_ret
        exact ⟨retB HF.out.symm, Ext.refl _⟩
    · have HF := Lib.hid (show atB s.toList (n : Int) digitB = false from atB_end (by rw [bl_len]; omega))
      go_enter Try.func70, Try.ntmps70
      go_wp2_with fail
      go_ret
      exact ⟨retB HF.out.symm, Ext.refl _⟩
  · have HF := Lib.hid (show atB s.toList i digitB = false from atB_neg h0)
    go_enter Try.func70, Try.ntmps70
    go_wp2_with fail
    go_ret
    exact ⟨retB HF.out.symm, Ext.refl _⟩
theorem small_first {b : UInt8} {r : List UInt8} (v : Bool) (h : decide (97 ≤ (b.toNat : Int) ∧ (b.toNat : Int) ≤ 122) = v) : atB (bs (b :: r)).toList 0 smallB = v := by
  rw [bs_list, ← h]
  simp only [atB, smallB]
  rw [Bool.eq_iff_iff]
  simp
  omega
theorem digit_first {b : UInt8} {r : List UInt8} (v : Bool) (h : digitB b = v) : atB (bs (b :: r)).toList 0 digitB = v := by
  rw [bs_list, ← h]
  simp [atB]
set_option maxRecDepth 100000 in
set_option maxHeartbeats 4000000 in
theorem specl2Plain (b : UInt8) (r : List UInt8) (w : World) (hl : (b :: r).length ≤ 8000) : Calls Try.prog 89 #[.string (bs (b :: r))] w fun e w' => e = .returned (.bool (plB (b :: r))) ∧ Ext w w' := by
  have hsize : (bs (b :: r)).size = r.length + 1 := by rw [bs_size]; simp
  have lb0 : 0 < (bs (b :: r)).size := by rw [hsize]; omega
  have lb1 : (bs (b :: r)).size ≤ 1048576 := by rw [hsize]; simp at hl; omega
  have hget := fun h => bs_get0 b r h
  rcases first_cases b r with ⟨⟨q1, q2⟩, hq⟩ | ⟨q1, q2, hq⟩ | ⟨⟨q1, q2, q3⟩, hq⟩ | ⟨⟨q1, q2⟩, q3, q4, hq⟩ | ⟨⟨q1, q2⟩, q3, q4, q5, hq⟩ | ⟨q1, q2, hq⟩ | ⟨q1, q2, q3, q4, hq⟩ | ⟨q1, q2, q3, q4, hq⟩
  · have HQ := Lib.hid hq
    have hsm := small_first (b := b) (r := r) true (by first | (simp; done) | (simp; omega) | (rw [decide_eq_true (by omega)]) | (rw [decide_eq_false (by omega)]))
    have hdg := digit_first (b := b) (r := r) false (by first | (simp [digitB]; done) | (simp [digitB]; omega))
    clear hq hsize hl
    go_enter Try.func89, Try.ntmps89
    go_wp2_with (first | (go_at_call 77; refine (specl1Small _ _ _ lb1).mono ?_; rw [hsm]; rintro e w1 ⟨rfl, e1⟩) | (go_at_call 70; refine (specl1Digit _ _ _ lb1).mono ?_; rw [hdg]; rintro e w2 ⟨rfl, e2⟩))
    go_ret
    exact ⟨retB (by first | exact HQ.out.symm | (rw [HQ.out]; simp; omega)), by first | exact e1 | exact e1.trans e2⟩
  · have HQ := Lib.hid hq
    have hsm := small_first (b := b) (r := r) false (by first | (simp; done) | (simp; omega) | (rw [decide_eq_true (by omega)]) | (rw [decide_eq_false (by omega)]))
    have hdg := digit_first (b := b) (r := r) _ q2
    clear hq hsize hl
    go_enter Try.func89, Try.ntmps89
    go_wp2_with (first | (go_at_call 77; refine (specl1Small _ _ _ lb1).mono ?_; rw [hsm]; rintro e w1 ⟨rfl, e1⟩) | (go_at_call 70; refine (specl1Digit _ _ _ lb1).mono ?_; rw [hdg]; rintro e w2 ⟨rfl, e2⟩))
    go_ret
    exact ⟨retB (by first | exact HQ.out.symm | (rw [HQ.out]; simp; omega)), by first | exact e1 | exact e1.trans e2⟩
  · have HQ := Lib.hid hq
    have hsm := small_first (b := b) (r := r) false (by first | (simp; done) | (simp; omega) | (rw [decide_eq_true (by omega)]) | (rw [decide_eq_false (by omega)]))
    have hdg := digit_first (b := b) (r := r) false (by first | (simp [digitB]; done) | (simp [digitB]; omega))
    clear hq hsize hl
    go_enter Try.func89, Try.ntmps89
    go_wp2_with (first | (go_at_call 77; refine (specl1Small _ _ _ lb1).mono ?_; rw [hsm]; rintro e w1 ⟨rfl, e1⟩) | (go_at_call 70; refine (specl1Digit _ _ _ lb1).mono ?_; rw [hdg]; rintro e w2 ⟨rfl, e2⟩))
    go_ret
    exact ⟨retB (by first | exact HQ.out.symm | (rw [HQ.out]; simp; omega)), by first | exact e1 | exact e1.trans e2⟩
  · have HQ := Lib.hid hq
    have hsm := small_first (b := b) (r := r) false (by first | (simp; done) | (simp; omega) | (rw [decide_eq_true (by omega)]) | (rw [decide_eq_false (by omega)]))
    have hdg := digit_first (b := b) (r := r) _ q3
    clear hq hsize hl
    go_enter Try.func89, Try.ntmps89
    go_wp2_with (first | (go_at_call 77; refine (specl1Small _ _ _ lb1).mono ?_; rw [hsm]; rintro e w1 ⟨rfl, e1⟩) | (go_at_call 70; refine (specl1Digit _ _ _ lb1).mono ?_; rw [hdg]; rintro e w2 ⟨rfl, e2⟩))
    go_ret
    exact ⟨retB (by first | exact HQ.out.symm | (rw [HQ.out]; simp; omega)), by first | exact e1 | exact e1.trans e2⟩
  · have HQ := Lib.hid hq
    have hsm := small_first (b := b) (r := r) false (by first | (simp; done) | (simp; omega) | (rw [decide_eq_true (by omega)]) | (rw [decide_eq_false (by omega)]))
    have hdg := digit_first (b := b) (r := r) _ q3
    clear hq hsize hl
    go_enter Try.func89, Try.ntmps89
    go_wp2_with (first | (go_at_call 77; refine (specl1Small _ _ _ lb1).mono ?_; rw [hsm]; rintro e w1 ⟨rfl, e1⟩) | (go_at_call 70; refine (specl1Digit _ _ _ lb1).mono ?_; rw [hdg]; rintro e w2 ⟨rfl, e2⟩))
    go_ret
    exact ⟨retB (by first | exact HQ.out.symm | (rw [HQ.out]; simp; omega)), by first | exact e1 | exact e1.trans e2⟩
  · have HQ := Lib.hid hq
    have hsm := small_first (b := b) (r := r) false (by first | (simp; done) | (simp; omega) | (rw [decide_eq_true (by omega)]) | (rw [decide_eq_false (by omega)]))
    have hdg := digit_first (b := b) (r := r) _ q2
    clear hq hsize hl
    go_enter Try.func89, Try.ntmps89
    go_wp2_with (first | (go_at_call 77; refine (specl1Small _ _ _ lb1).mono ?_; rw [hsm]; rintro e w1 ⟨rfl, e1⟩) | (go_at_call 70; refine (specl1Digit _ _ _ lb1).mono ?_; rw [hdg]; rintro e w2 ⟨rfl, e2⟩))
    go_ret
    exact ⟨retB (by first | exact HQ.out.symm | (rw [HQ.out]; simp; omega)), by first | exact e1 | exact e1.trans e2⟩
  · have HQ := Lib.hid hq
    have hsm := small_first (b := b) (r := r) false (by first | (simp; done) | (simp; omega) | (rw [decide_eq_true (by omega)]) | (rw [decide_eq_false (by omega)]))
    have hdg := digit_first (b := b) (r := r) _ q2
    clear hq hsize hl
    go_enter Try.func89, Try.ntmps89
    go_wp2_with (first | (go_at_call 77; refine (specl1Small _ _ _ lb1).mono ?_; rw [hsm]; rintro e w1 ⟨rfl, e1⟩) | (go_at_call 70; refine (specl1Digit _ _ _ lb1).mono ?_; rw [hdg]; rintro e w2 ⟨rfl, e2⟩))
    go_ret
    exact ⟨retB (by first | exact HQ.out.symm | (rw [HQ.out]; simp; omega)), by first | exact e1 | exact e1.trans e2⟩
  · have HQ := Lib.hid hq
    have hsm := small_first (b := b) (r := r) false (by first | (simp; done) | (simp; omega) | (rw [decide_eq_true (by omega)]) | (rw [decide_eq_false (by omega)]))
    have hdg := digit_first (b := b) (r := r) _ q2
    clear hq hsize hl
    go_enter Try.func89, Try.ntmps89
    go_wp2_with (first | (go_at_call 77; refine (specl1Small _ _ _ lb1).mono ?_; rw [hsm]; rintro e w1 ⟨rfl, e1⟩) | (go_at_call 70; refine (specl1Digit _ _ _ lb1).mono ?_; rw [hdg]; rintro e w2 ⟨rfl, e2⟩))
    go_ret
    exact ⟨retB (by first | exact HQ.out.symm | (rw [HQ.out]; simp; omega)), by first | exact e1 | exact e1.trans e2⟩
set_option maxRecDepth 100000 in
theorem specl2Spaced (s : ByteArray) (w : World) (hs : s.size ≤ 1048576) (hop : 0 < opLevelF s.toList) : Calls Try.prog 82 #[.string s] w fun e w' => e = .returned (.string (bs (spaced s.toList))) ∧ Ext w w' := by
  have hw := op_word hop
  have lb1 : ¬ 9223372036854775807 < 1 + s.size := by omega
  have lb2 : ¬ 9223372036854775807 < 1 + s.size + 1 := by omega
  cases h1 : (s.toList == [105, 115])
  · cases h2 : (s.toList == [109, 111, 100])
    · have HF := Lib.hid (show spaced s.toList = s.toList by simp [spaced, hw, h1, h2])
      clear hw
      go_enter Try.func82, Try.ntmps82
      go_wp2_with fail
      go_ret
      exact ⟨by rw [HF.out, bs_of]; rfl, Ext.refl _⟩
    · have HF := Lib.hid (show spaced s.toList = 32 :: (s.toList ++ [32]) by simp [spaced, hw, h1, h2])
      clear hw
      go_enter Try.func82, Try.ntmps82
      go_wp2_with fail
      go_ret
      refine ⟨?_, Ext.refl _⟩
      rw [HF.out]
      refine retS ?_
      show (bs [32] ++ s) ++ bs [32] = bs _
      exact bl_ext (by simp only [list_app, bs_list]; simp)
  · have HF := Lib.hid (show spaced s.toList = 32 :: (s.toList ++ [32]) by simp [spaced, hw, h1])
    clear hw
    go_enter Try.func82, Try.ntmps82
    go_wp2_with fail
    go_ret
    refine ⟨?_, Ext.refl _⟩
    rw [HF.out]
    refine retS ?_
    show (bs [32] ++ s) ++ bs [32] = bs _
    exact bl_ext (by simp only [list_app, bs_list]; simp)
def S2C (u : Tm) : Prop := ∀ (d : Nat) (v : Value) (S : Nat → Prop) (w : World), shapeF u d = true → Tm.at S w u v → Calls Try.prog 74 #[v] w fun e w' => e = .returned (.string (bs (txt true u))) ∧ Ext w w'
theorem brk_le (x : Tx) (m : Int) : (brk x m).length ≤ x.txt.length + 2 := by
  unfold brk
  split
  · simp
  · omega
set_option maxRecDepth 100000 in
set_option maxHeartbeats 4000000 in
theorem specl2Bracket (t : Tm) (d : Nat) (v : Value) (S : Nat → Prop) (w : World) (most : Int) (hm : 0 ≤ most) (hw : S2C t) (hsh : shapeF t d = true) (hsz : Tm.sz t ≤ 120) (ht : Tm.at S w t v) :
    Calls Try.prog 88 #[v, .int .i64 most] w fun e w' => e = .returned (.string (bs (brk (txF true t) most))) ∧ Ext w w' := by
  have HW := Lib.hid (fun w' (e' : Ext w w') => hw d v S w' hsh (Tm.at_ext e' ht))
  have hlen : (txt true t).length ≤ 4000 := by have := (tx_len true t d hsh).1; omega
  have lb1 : ¬ 9223372036854775807 < 1 + (bs (txt true t)).size := by rw [bs_size]; omega
  have lb2 : ¬ 9223372036854775807 < 1 + (bs (txt true t)).size + 1 := by rw [bs_size]; omega
  obtain ⟨k, n, s, ks⟩ := t
  have HT := Lib.hid ht
  obtain ⟨hs1, sv, rfl, ar, cap, rfl, h1, h2, h3, h4⟩ := ht
  have e1 : (txF true (.mk k n s ks)).lev = if infF k s ks.length = true then opLevelF s.toList else 0 := rfl
  have e2 : (txF true (.mk k n s ks)).txt = txt true (.mk k n s ks) := rfl
  clear h4 hw hsh hsz hlen
  cases hin : infF k s ks.length
  · have HF := Lib.hid (show brk (txF true (.mk k n s ks)) most = txt true (.mk k n s ks) by unfold brk; rw [e1, e2, hin, if_neg]; simp; omega)
    clear e1 e2
    go_enter Try.func88, Try.ntmps88
    go_wp2_with fail
    refine (specl2Infix k n s ks _ S _ (Tm.at_ext (Ext.alloc _ _) HT.out)).mono ?_
    rw [hin]
    rintro e w1 ⟨rfl, e1⟩
    have E1 := Lib.hid ((Ext.alloc w (.cells #[.int .i64 k, .int .i64 n, .string s, .slice ar ks.length cap] 25)).trans e1)
    obtain ⟨c0, c1, c2, c3, g0, g1, g2, g3⟩ := (BoxT.new w (.int .i64 k) (.int .i64 n) (.string s) (.slice ar ks.length cap) 25 rfl).ext e1
    have s1 : w.heap.size < w1.heap.size := block_lt_of_cell c0
    go_wp2_with (go_at_call 74; refine (HW.out _ E1.out).mono ?_; rintro e w2 ⟨rfl, e2⟩)
    go_ret
    exact ⟨by rw [HF.out]; rfl, E1.out.trans e2⟩
  · by_cases hlv : most < opLevelF s.toList
    · have HF := Lib.hid (show brk (txF true (.mk k n s ks)) most = 40 :: (txt true (.mk k n s ks) ++ [41]) by unfold brk; rw [e1, e2, hin, if_pos]; simpa using hlv)
      clear e1 e2
      go_enter Try.func88, Try.ntmps88
      go_wp2_with fail
      refine (specl2Infix k n s ks _ S _ (Tm.at_ext (Ext.alloc _ _) HT.out)).mono ?_
      rw [hin]
      rintro e w1 ⟨rfl, e1⟩
      have E1 := Lib.hid ((Ext.alloc w (.cells #[.int .i64 k, .int .i64 n, .string s, .slice ar ks.length cap] 25)).trans e1)
      obtain ⟨c0, c1, c2, c3, g0, g1, g2, g3⟩ := (BoxT.new w (.int .i64 k) (.int .i64 n) (.string s) (.slice ar ks.length cap) 25 rfl).ext e1
      have s1 : w.heap.size < w1.heap.size := block_lt_of_cell c0
      go_wp2_with fail
      refine (specl2Level_x s _).mono ?_
      rintro e w2 ⟨rfl, e2⟩
      have E2 := Lib.hid (E1.out.trans e2)
      replace c0 := e2.cell c0
      replace c1 := e2.cell c1
      replace c2 := e2.cell c2
      replace c3 := e2.cell c3
      have s2 : w.heap.size < w2.heap.size := block_lt_of_cell c0
      go_wp2_with (go_at_call 74; refine (HW.out _ E2.out).mono ?_; rintro e w3 ⟨rfl, e3⟩)
      go_ret
      refine ⟨?_, E2.out.trans e3⟩
      rw [HF.out]
      refine retS ?_
      show (bs [40] ++ bs _) ++ bs [41] = bs _
      rw [bs_app, bs_app]
      rfl
    · have HF := Lib.hid (show brk (txF true (.mk k n s ks)) most = txt true (.mk k n s ks) by unfold brk; rw [e1, e2, hin, if_neg]; simpa using hlv)
      clear e1 e2
      go_enter Try.func88, Try.ntmps88
      go_wp2_with fail
      refine (specl2Infix k n s ks _ S _ (Tm.at_ext (Ext.alloc _ _) HT.out)).mono ?_
      rw [hin]
      rintro e w1 ⟨rfl, e1⟩
      have E1 := Lib.hid ((Ext.alloc w (.cells #[.int .i64 k, .int .i64 n, .string s, .slice ar ks.length cap] 25)).trans e1)
      obtain ⟨c0, c1, c2, c3, g0, g1, g2, g3⟩ := (BoxT.new w (.int .i64 k) (.int .i64 n) (.string s) (.slice ar ks.length cap) 25 rfl).ext e1
      have s1 : w.heap.size < w1.heap.size := block_lt_of_cell c0
      go_wp2_with fail
      refine (specl2Level_x s _).mono ?_
      rintro e w2 ⟨rfl, e2⟩
      have E2 := Lib.hid (E1.out.trans e2)
      replace c0 := e2.cell c0
      replace c1 := e2.cell c1
      replace c2 := e2.cell c2
      replace c3 := e2.cell c3
      have s2 : w.heap.size < w2.heap.size := block_lt_of_cell c0
      go_wp2_with (go_at_call 74; refine (HW.out _ E2.out).mono ?_; rintro e w3 ⟨rfl, e3⟩)
      go_ret
      exact ⟨by rw [HF.out]; rfl, E2.out.trans e3⟩
set_option maxRecDepth 100000 in
set_option maxHeartbeats 4000000 in
theorem specl2Left (t : Tm) (d : Nat) (v : Value) (S : Nat → Prop) (w : World) (most : Int) (hm : 0 ≤ most) (hw : S2C t) (hsh : shapeF t d = true) (hsz : Tm.sz t ≤ 120) (ht : Tm.at S w t v) :
    Calls Try.prog 81 #[v, .int .i64 most] w fun e w' => e = .returned (.string (bs (opn (txF true t) most false))) ∧ Ext w w' := by
  have HW := Lib.hid (fun w' (e' : Ext w w') => hw d v S w' hsh (Tm.at_ext e' ht))
  have HB := Lib.hid (fun w' (e' : Ext w w') => specl2Bracket t d v S w' most hm hw hsh hsz (Tm.at_ext e' ht))
  have hlen : (txt true t).length ≤ 4000 := by have := (tx_len true t d hsh).1; omega
  have lb1 : ¬ 9223372036854775807 < 1 + (bs (txt true t)).size := by rw [bs_size]; omega
  have lb2 : ¬ 9223372036854775807 < 1 + (bs (txt true t)).size + 1 := by rw [bs_size]; omega
  have HO := Lib.hid (opn_left (txF true t) most)
  obtain ⟨k, n, s, ks⟩ := t
  have HT := Lib.hid ht
  obtain ⟨hs1, sv, rfl, ar, cap, rfl, h1, h2, h3, h4⟩ := ht
  have e0 : (txF true (.mk k n s ks)).sole = soleF k s ks.length := rfl
  clear h4 hw hsh hsz hlen
  cases hso : soleF k s ks.length
  · have HF := Lib.hid (show opn (txF true (.mk k n s ks)) most false = brk (txF true (.mk k n s ks)) most by rw [HO.out, e0, hso]; rfl)
    clear e0 HO
    go_enter Try.func81, Try.ntmps81
    go_wp2_with fail
    refine (specl2Sole k n s ks _ S _ (Tm.at_ext (Ext.alloc _ _) HT.out)).mono ?_
    rw [hso]
    rintro e w1 ⟨rfl, e1⟩
    have E1 := Lib.hid ((Ext.alloc w (.cells #[.int .i64 k, .int .i64 n, .string s, .slice ar ks.length cap] 25)).trans e1)
    obtain ⟨c0, c1, c2, c3, g0, g1, g2, g3⟩ := (BoxT.new w (.int .i64 k) (.int .i64 n) (.string s) (.slice ar ks.length cap) 25 rfl).ext e1
    have s1 : w.heap.size < w1.heap.size := block_lt_of_cell c0
    go_wp2_with (go_at_call 88; refine (HB.out _ E1.out).mono ?_; rintro e w2 ⟨rfl, e2⟩)
    go_ret
    exact ⟨by rw [HF.out]; rfl, E1.out.trans e2⟩
  · have HF := Lib.hid (show opn (txF true (.mk k n s ks)) most false = 40 :: (txt true (.mk k n s ks) ++ [41]) by rw [HO.out, e0, hso]; rfl)
    clear e0 HO
    go_enter Try.func81, Try.ntmps81
    go_wp2_with fail
    refine (specl2Sole k n s ks _ S _ (Tm.at_ext (Ext.alloc _ _) HT.out)).mono ?_
    rw [hso]
    rintro e w1 ⟨rfl, e1⟩
    have E1 := Lib.hid ((Ext.alloc w (.cells #[.int .i64 k, .int .i64 n, .string s, .slice ar ks.length cap] 25)).trans e1)
    obtain ⟨c0, c1, c2, c3, g0, g1, g2, g3⟩ := (BoxT.new w (.int .i64 k) (.int .i64 n) (.string s) (.slice ar ks.length cap) 25 rfl).ext e1
    have s1 : w.heap.size < w1.heap.size := block_lt_of_cell c0
    go_wp2_with (go_at_call 74; refine (HW.out _ E1.out).mono ?_; rintro e w2 ⟨rfl, e2⟩)
    go_ret
    refine ⟨?_, E1.out.trans e2⟩
    rw [HF.out]
    refine retS ?_
    show (bs [40] ++ bs _) ++ bs [41] = bs _
    rw [bs_app, bs_app]
    rfl
set_option maxRecDepth 100000 in
set_option maxHeartbeats 4000000 in
theorem specl2Right (t : Tm) (d : Nat) (v : Value) (S : Nat → Prop) (w : World) (most : Int) (hm : 0 ≤ most) (hw : S2C t) (hsh : shapeF t d = true) (hsz : Tm.sz t ≤ 120) (ht : Tm.at S w t v) :
    Calls Try.prog 83 #[v, .int .i64 most] w fun e w' => e = .returned (.string (bs (opn (txF true t) most true))) ∧ Ext w w' := by
  have HB := Lib.hid (fun w' (e' : Ext w w') => specl2Bracket t d v S w' most hm hw hsh hsz (Tm.at_ext e' ht))
  obtain ⟨b, r, hb⟩ : ∃ b r, brk (txF true t) most = b :: r := by
    cases h : brk (txF true t) most with
    | nil =>
      unfold brk at h
      split at h
      · cases h
      · exact absurd h (tx_ne true t d hsh)
    | cons b r => exact ⟨b, r, rfl⟩
  have hlen : (b :: r).length ≤ 4002 := by rw [← hb]; have := (tx_len true t d hsh).1; have := brk_le (txF true t) most; simp only [txt] at *; omega
  have HO := Lib.hid (opn_right (txF true t) most (fun h => by rw [sole_lev h]; exact hm))
  rw [hb] at HB HO
  have lb1 : ¬ 9223372036854775807 < 1 + (bs (b :: r)).size := by rw [bs_size]; omega
  have lb2 : ¬ 9223372036854775807 < 1 + (bs (b :: r)).size + 1 := by rw [bs_size]; omega
  have HLEN := Lib.hid (show (b :: r).length ≤ 8000 by omega)
  obtain ⟨k, n, s, ks⟩ := t
  have HT := Lib.hid ht
  obtain ⟨hs1, sv, rfl, ar, cap, rfl, h1, h2, h3, h4⟩ := ht
  have e0 : (txF true (.mk k n s ks)).sole = soleF k s ks.length := rfl
  rw [e0] at HO
  clear h4 hw hsh hsz hlen hb e0
  cases hso : soleF k s ks.length
  · cases hpl : plB (b :: r)
    · have HF := Lib.hid (show opn (txF true (.mk k n s ks)) most true = 40 :: (b :: r ++ [41]) by rw [HO.out, hso, hpl]; simp)
      clear HO
      go_enter Try.func83, Try.ntmps83
      go_wp2_with fail
      refine (HB.out _ (Ext.alloc _ _)).mono ?_
      rintro e w1 ⟨rfl, e1⟩
      have E1 := Lib.hid ((Ext.alloc w (.cells #[.int .i64 k, .int .i64 n, .string s, .slice ar ks.length cap] 25)).trans e1)
      obtain ⟨c0, c1, c2, c3, g0, g1, g2, g3⟩ := (BoxT.new w (.int .i64 k) (.int .i64 n) (.string s) (.slice ar ks.length cap) 25 rfl).ext e1
      have s1 : w.heap.size < w1.heap.size := block_lt_of_cell c0
      go_wp2_with fail
      refine (specl2Sole k n s ks _ S _ (Tm.at_ext E1.out HT.out)).mono ?_
      rw [hso]
      rintro e w2 ⟨rfl, e2⟩
      have E2 := Lib.hid (E1.out.trans e2)
      go_wp2_with (go_at_call 89; refine (specl2Plain b r _ HLEN.out).mono ?_; rw [hpl]; rintro e w3 ⟨rfl, e3⟩)
      go_ret
      refine ⟨?_, (E2.out.trans e3)⟩
      rw [HF.out]
      refine retS ?_
      show (bs [40] ++ bs _) ++ bs [41] = bs _
      rw [bs_app, bs_app]
      rfl
    · have HF := Lib.hid (show opn (txF true (.mk k n s ks)) most true = b :: r by rw [HO.out, hso, hpl]; simp)
      clear HO
      go_enter Try.func83, Try.ntmps83
      go_wp2_with fail
      refine (HB.out _ (Ext.alloc _ _)).mono ?_
      rintro e w1 ⟨rfl, e1⟩
      have E1 := Lib.hid ((Ext.alloc w (.cells #[.int .i64 k, .int .i64 n, .string s, .slice ar ks.length cap] 25)).trans e1)
      obtain ⟨c0, c1, c2, c3, g0, g1, g2, g3⟩ := (BoxT.new w (.int .i64 k) (.int .i64 n) (.string s) (.slice ar ks.length cap) 25 rfl).ext e1
      have s1 : w.heap.size < w1.heap.size := block_lt_of_cell c0
      go_wp2_with fail
      refine (specl2Sole k n s ks _ S _ (Tm.at_ext E1.out HT.out)).mono ?_
      rw [hso]
      rintro e w2 ⟨rfl, e2⟩
      have E2 := Lib.hid (E1.out.trans e2)
      go_wp2_with (go_at_call 89; refine (specl2Plain b r _ HLEN.out).mono ?_; rw [hpl]; rintro e w3 ⟨rfl, e3⟩)
      go_ret
      exact ⟨by rw [HF.out]; rfl, (E2.out.trans e3)⟩
  · have HF := Lib.hid (show opn (txF true (.mk k n s ks)) most true = 40 :: (b :: r ++ [41]) by rw [HO.out, hso]; simp)
    clear HO
    go_enter Try.func83, Try.ntmps83
    go_wp2_with fail
    refine (HB.out _ (Ext.alloc _ _)).mono ?_
    rintro e w1 ⟨rfl, e1⟩
    have E1 := Lib.hid ((Ext.alloc w (.cells #[.int .i64 k, .int .i64 n, .string s, .slice ar ks.length cap] 25)).trans e1)
    obtain ⟨c0, c1, c2, c3, g0, g1, g2, g3⟩ := (BoxT.new w (.int .i64 k) (.int .i64 n) (.string s) (.slice ar ks.length cap) 25 rfl).ext e1
    have s1 : w.heap.size < w1.heap.size := block_lt_of_cell c0
    go_wp2_with fail
    refine (specl2Sole k n s ks _ S _ (Tm.at_ext E1.out HT.out)).mono ?_
    rw [hso]
    rintro e w2 ⟨rfl, e2⟩
    have E2 := Lib.hid (E1.out.trans e2)
    go_wp2_with fail
    go_ret
    refine ⟨?_, E2.out⟩
    rw [HF.out]
    refine retS ?_
    show (bs [40] ++ bs _) ++ bs [41] = bs _
    rw [bs_app, bs_app]
    rfl
end Go.Proofs.Ytognkaebiafgbaa
