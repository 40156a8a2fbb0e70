/-
  Texts of terms: the program's writeOperand, write and WriteTerm.
-/
import Derived.Test.YtognkaebiafgbaaGreatDoorMr15
import Derived.Test.YtognkaebiafgbaaGreatDoorMr11
namespace Go.Proofs.YtognkaebiafgbaaGreatDoor
open Go.RowKit
set_option linter.unusedVariables false
set_option maxRecDepth 100000 in
theorem implisDigit (b : UInt8) (w : World) : Calls Tryz.prog 173 #[.int .u8 b.toNat] w fun e w' => e = .returned (.bool (digitB b)) ∧ Ext w w' := by
  by_cases h1 : (48 : Int) ≤ b.toNat
  · by_cases h2 : (b.toNat : Int) ≤ 57
    · have HF := Lib.hid (show digitB b = true by simp [digitB]; omega)
      go_enter Tryz.func173, Tryz.ntmps173
      go_wp2_with fail
      go_ret
      exact ⟨retB HF.out.symm, Ext.refl _⟩
    · have HF := Lib.hid (show digitB b = false by simp [digitB]; omega)
      go_enter Tryz.func173, Tryz.ntmps173
      go_wp2_with fail
      go_ret
      exact ⟨retB HF.out.symm, Ext.refl _⟩
  · have HF := Lib.hid (show digitB b = false by simp [digitB]; omega)
    go_enter Tryz.func173, Tryz.ntmps173
    go_wp2_with fail
    go_ret
    exact ⟨retB HF.out.symm, Ext.refl _⟩
set_option maxRecDepth 100000 in
set_option maxHeartbeats 4000000 in
theorem implwriteOperand (t : Tm) (d : Nat) (v : Value) (S : Nat → Prop) (w : World) (most : Int) (right : Bool) (hw : PartC true 98 t) (hsh : shapeF t d = true) (hsz : Tm.sz t ≤ 120) (ht : Tm.at S w t v) (htab : TabW w) :
    Calls Tryz.prog 150 #[v, .int .i64 most, .bool right] w fun e w' => e = .returned (.string (bs (opn (txF true t) most right))) ∧ Ext w w' := by
  have HW := Lib.hid (fun w' (e' : Ext w w') => hw d v S w' hsh (Tm.at_ext e' ht) (htab.ext e'))
  have HL := Lib.hid (tx_len true t d hsh)
  obtain ⟨b, r, hb⟩ : ∃ b r, txt true t = b :: r := by
    cases h : txt true t with
    | nil => exact absurd h (tx_ne true t d hsh)
    | cons b r => exact ⟨b, r, rfl⟩
  have hlen : (b :: r).length ≤ 4000 := by rw [← hb]; have := HL.out.1; omega
  rw [hb] at HW
  have hsize : (bs (b :: r)).size = r.length + 1 := by rw [bs_size]; simp
  have hget := fun h => bs_get0 b r h
  obtain ⟨k, n, s, ks⟩ := t
  have e1 : (txF true (.mk k n s ks)).txt = b :: r := hb
  have HOP1 := Lib.hid (show (most < levF k s ks.length ∨ soleF k s ks.length = true ∨ (right = true ∧ plB (b :: r) = false)) → Ending.returned (.string ((⟨#[40]⟩ ++ bs (b :: r)) ++ ⟨#[41]⟩)) = Ending.returned (.string (bs (opn (txF true (.mk k n s ks)) most right))) from by
    intro hc
    refine retS ?_
    unfold opn
    rw [e1, show (txF true (.mk k n s ks)).lev = levF k s ks.length from rfl, show (txF true (.mk k n s ks)).sole = soleF k s ks.length from rfl, if_pos hc]
    show (bs [40] ++ bs (b :: r)) ++ bs [41] = bs _
    rw [bs_app, bs_app]
    rfl)
  have HOP2 := Lib.hid (show ¬ (most < levF k s ks.length ∨ soleF k s ks.length = true ∨ (right = true ∧ plB (b :: r) = false)) → Ending.returned (.string (bs (b :: r))) = Ending.returned (.string (bs (opn (txF true (.mk k n s ks)) most right))) from by
    intro hc
    unfold opn
    rw [e1, show (txF true (.mk k n s ks)).lev = levF k s ks.length from rfl, show (txF true (.mk k n s ks)).sole = soleF k s ks.length from rfl, if_neg hc])
  clear e1
  have HT := Lib.hid ht
  have HSH := Lib.hid hsh
  obtain ⟨hs1, sv, rfl, ar, cap, rfl, h1, h2, h3, h4⟩ := ht
  clear h4 hw hsh hsz htab HL hb
  by_cases hl2 : ks.length = 2
  · have hlev := lev_two HSH.out hl2
    have hlz : ((ks.length : Int) == 2) = true := by simp [hl2]
    have HL2 := Lib.hid hl2
    have hsole : soleF k s ks.length = false := by unfold soleF; simp [HL2.out]
    have hatom : atomF k ks.length = false := by unfold atomF; simp [HL2.out]
    clear hl2
    go_enter Tryz.func150, Tryz.ntmps150
    go_wp2_with fail
    refine (HW.out _ (Ext.alloc _ _)).mono ?_
    rintro e w1 ⟨rfl, e1⟩
    have E1 := Lib.hid ((Ext.alloc w (.cells #[.int .i64 k, .int .i64 n, .string s, .slice ar ks.length cap] 25)).trans e1)
    obtain ⟨c0, c1, c2, c3, g0, g1, g2, g3⟩ := (BoxT.new w (.int .i64 k) (.int .i64 n) (.string s) (.slice ar ks.length cap) 25 rfl).ext e1
    have s1 : w.heap.size < w1.heap.size := block_lt_of_cell c0
    have lb1 : ¬ 9223372036854775807 < 1 + (bs (b :: r)).size := by rw [hsize]; simp at hlen; omega
    have lb2 : ¬ 9223372036854775807 < 1 + (bs (b :: r)).size + 1 := by rw [hsize]; simp at hlen; omega
    have lb0 : 0 < (bs (b :: r)).size := by rw [hsize]; omega
    have HO := Lib.hid hlev
    have HSO := Lib.hid hsole
    clear hlev hsole e1 g0 g1 g2 g3 hsize
    rcases first_cases b r with ⟨⟨q1, q2⟩, hq⟩ | ⟨q1, q2, hq⟩ | ⟨⟨q1, q2, q3⟩, hq⟩ | ⟨⟨q1, q2⟩, q3, q4, hq⟩ | ⟨⟨q1, q2⟩, q3, q4, q5, hq⟩ | ⟨q1, q2, hq⟩ | ⟨q1, q2, q3, q4, hq⟩ | ⟨q1, q2, q3, q4, hq⟩
    · have HQ := Lib.hid hq
      clear hq
      go_wp2_with (first | (go_at_call 102; refine (implOpLevel s _).mono ?_; rintro e w2 ⟨rfl, rfl⟩) | (go_at_call 186; refine (implisAtom k n s ks _ S _ (Tm.at_ext E1.out HT.out)).mono ?_; rw [hatom]; rintro e w4 ⟨rfl, e4⟩; replace c2 := e4.cell c2; have s4 := block_lt_of_cell c2))
      all_goals
        go_ret
        first
        | exact ⟨HOP1.out (by simp only [HO.out, HSO.out, HQ.out]; first | omega | simp_all), by first | exact E1.out | exact E1.out.trans e4 | exact E1.out.trans e3 | exact (E1.out.trans e3).trans e4 | exact (E1.out.trans e4).trans e5 | exact ((E1.out.trans e3).trans e4).trans e5⟩
        | exact ⟨HOP2.out (by simp only [HO.out, HSO.out, HQ.out]; first | omega | (simp_all; done) | (simp_all; omega)), by first | exact E1.out | exact E1.out.trans e4 | exact E1.out.trans e3 | exact (E1.out.trans e3).trans e4 | exact (E1.out.trans e4).trans e5 | exact ((E1.out.trans e3).trans e4).trans e5⟩
    · have HQ := Lib.hid hq
      clear hq
      go_wp2_with (first | (go_at_call 102; refine (implOpLevel s _).mono ?_; rintro e w2 ⟨rfl, rfl⟩) | (go_at_call 173; refine (implisDigit b _).mono ?_; rw [q2]; rintro e w3 ⟨rfl, e3⟩; replace c0 := e3.cell c0; replace c1 := e3.cell c1; replace c2 := e3.cell c2; replace c3 := e3.cell c3; have E3 := Lib.hid (E1.out.trans e3); have s3 := block_lt_of_cell c0) | (go_at_call 186; refine (implisAtom k n s ks _ S _ (Tm.at_ext E3.out HT.out)).mono ?_; rw [hatom]; rintro e w4 ⟨rfl, e4⟩; replace c2 := e4.cell c2; have s4 := block_lt_of_cell c2))
      all_goals
        go_ret
        first
        | exact ⟨HOP1.out (by simp only [HO.out, HSO.out, HQ.out]; first | omega | simp_all), by first | exact E1.out | exact E1.out.trans e4 | exact E1.out.trans e3 | exact (E1.out.trans e3).trans e4 | exact (E1.out.trans e4).trans e5 | exact ((E1.out.trans e3).trans e4).trans e5⟩
        | exact ⟨HOP2.out (by simp only [HO.out, HSO.out, HQ.out]; first | omega | (simp_all; done) | (simp_all; omega)), by first | exact E1.out | exact E1.out.trans e4 | exact E1.out.trans e3 | exact (E1.out.trans e3).trans e4 | exact (E1.out.trans e4).trans e5 | exact ((E1.out.trans e3).trans e4).trans e5⟩
    · have HQ := Lib.hid hq
      clear hq
      go_wp2_with (first | (go_at_call 102; refine (implOpLevel s _).mono ?_; rintro e w2 ⟨rfl, rfl⟩) | (go_at_call 186; refine (implisAtom k n s ks _ S _ (Tm.at_ext E1.out HT.out)).mono ?_; rw [hatom]; rintro e w4 ⟨rfl, e4⟩; replace c2 := e4.cell c2; have s4 := block_lt_of_cell c2))
      all_goals
        go_ret
        first
        | exact ⟨HOP1.out (by simp only [HO.out, HSO.out, HQ.out]; first | omega | simp_all), by first | exact E1.out | exact E1.out.trans e4 | exact E1.out.trans e3 | exact (E1.out.trans e3).trans e4 | exact (E1.out.trans e4).trans e5 | exact ((E1.out.trans e3).trans e4).trans e5⟩
        | exact ⟨HOP2.out (by simp only [HO.out, HSO.out, HQ.out]; first | omega | (simp_all; done) | (simp_all; omega)), by first | exact E1.out | exact E1.out.trans e4 | exact E1.out.trans e3 | exact (E1.out.trans e3).trans e4 | exact (E1.out.trans e4).trans e5 | exact ((E1.out.trans e3).trans e4).trans e5⟩
    · have HQ := Lib.hid hq
      clear hq
      go_wp2_with (first | (go_at_call 102; refine (implOpLevel s _).mono ?_; rintro e w2 ⟨rfl, rfl⟩) | (go_at_call 173; refine (implisDigit b _).mono ?_; rw [q3]; rintro e w3 ⟨rfl, e3⟩; replace c0 := e3.cell c0; replace c1 := e3.cell c1; replace c2 := e3.cell c2; replace c3 := e3.cell c3; have E3 := Lib.hid (E1.out.trans e3); have s3 := block_lt_of_cell c0) | (go_at_call 186; refine (implisAtom k n s ks _ S _ (Tm.at_ext E3.out HT.out)).mono ?_; rw [hatom]; rintro e w4 ⟨rfl, e4⟩; replace c2 := e4.cell c2; have s4 := block_lt_of_cell c2))
      all_goals
        go_ret
        first
        | exact ⟨HOP1.out (by simp only [HO.out, HSO.out, HQ.out]; first | omega | simp_all), by first | exact E1.out | exact E1.out.trans e4 | exact E1.out.trans e3 | exact (E1.out.trans e3).trans e4 | exact (E1.out.trans e4).trans e5 | exact ((E1.out.trans e3).trans e4).trans e5⟩
        | exact ⟨HOP2.out (by simp only [HO.out, HSO.out, HQ.out]; first | omega | (simp_all; done) | (simp_all; omega)), by first | exact E1.out | exact E1.out.trans e4 | exact E1.out.trans e3 | exact (E1.out.trans e3).trans e4 | exact (E1.out.trans e4).trans e5 | exact ((E1.out.trans e3).trans e4).trans e5⟩
    · have HQ := Lib.hid hq
      clear hq
      go_wp2_with (first | (go_at_call 102; refine (implOpLevel s _).mono ?_; rintro e w2 ⟨rfl, rfl⟩) | (go_at_call 173; refine (implisDigit b _).mono ?_; rw [q3]; rintro e w3 ⟨rfl, e3⟩; replace c0 := e3.cell c0; replace c1 := e3.cell c1; replace c2 := e3.cell c2; replace c3 := e3.cell c3; have E3 := Lib.hid (E1.out.trans e3); have s3 := block_lt_of_cell c0) | (go_at_call 186; refine (implisAtom k n s ks _ S _ (Tm.at_ext E3.out HT.out)).mono ?_; rw [hatom]; rintro e w4 ⟨rfl, e4⟩; replace c2 := e4.cell c2; have s4 := block_lt_of_cell c2))
      all_goals
        go_ret
        first
        | exact ⟨HOP1.out (by simp only [HO.out, HSO.out, HQ.out]; first | omega | simp_all), by first | exact E1.out | exact E1.out.trans e4 | exact E1.out.trans e3 | exact (E1.out.trans e3).trans e4 | exact (E1.out.trans e4).trans e5 | exact ((E1.out.trans e3).trans e4).trans e5⟩
        | exact ⟨HOP2.out (by simp only [HO.out, HSO.out, HQ.out]; first | omega | (simp_all; done) | (simp_all; omega)), by first | exact E1.out | exact E1.out.trans e4 | exact E1.out.trans e3 | exact (E1.out.trans e3).trans e4 | exact (E1.out.trans e4).trans e5 | exact ((E1.out.trans e3).trans e4).trans e5⟩
    · have HQ := Lib.hid hq
      clear hq
      go_wp2_with (first | (go_at_call 102; refine (implOpLevel s _).mono ?_; rintro e w2 ⟨rfl, rfl⟩) | (go_at_call 173; refine (implisDigit b _).mono ?_; rw [q2]; rintro e w3 ⟨rfl, e3⟩; replace c0 := e3.cell c0; replace c1 := e3.cell c1; replace c2 := e3.cell c2; replace c3 := e3.cell c3; have E3 := Lib.hid (E1.out.trans e3); have s3 := block_lt_of_cell c0) | (go_at_call 186; refine (implisAtom k n s ks _ S _ (Tm.at_ext E3.out HT.out)).mono ?_; rw [hatom]; rintro e w4 ⟨rfl, e4⟩; replace c2 := e4.cell c2; have s4 := block_lt_of_cell c2))
      all_goals
        go_ret
        first
        | exact ⟨HOP1.out (by simp only [HO.out, HSO.out, HQ.out]; first | omega | simp_all), by first | exact E1.out | exact E1.out.trans e4 | exact E1.out.trans e3 | exact (E1.out.trans e3).trans e4 | exact (E1.out.trans e4).trans e5 | exact ((E1.out.trans e3).trans e4).trans e5⟩
        | exact ⟨HOP2.out (by simp only [HO.out, HSO.out, HQ.out]; first | omega | (simp_all; done) | (simp_all; omega)), by first | exact E1.out | exact E1.out.trans e4 | exact E1.out.trans e3 | exact (E1.out.trans e3).trans e4 | exact (E1.out.trans e4).trans e5 | exact ((E1.out.trans e3).trans e4).trans e5⟩
    · have HQ := Lib.hid hq
      clear hq
      go_wp2_with (first | (go_at_call 102; refine (implOpLevel s _).mono ?_; rintro e w2 ⟨rfl, rfl⟩) | (go_at_call 173; refine (implisDigit b _).mono ?_; rw [q2]; rintro e w3 ⟨rfl, e3⟩; replace c0 := e3.cell c0; replace c1 := e3.cell c1; replace c2 := e3.cell c2; replace c3 := e3.cell c3; have E3 := Lib.hid (E1.out.trans e3); have s3 := block_lt_of_cell c0) | (go_at_call 186; refine (implisAtom k n s ks _ S _ (Tm.at_ext E3.out HT.out)).mono ?_; rw [hatom]; rintro e w4 ⟨rfl, e4⟩; replace c2 := e4.cell c2; have s4 := block_lt_of_cell c2))
      all_goals
        go_ret
        first
        | exact ⟨HOP1.out (by simp only [HO.out, HSO.out, HQ.out]; first | omega | simp_all), by first | exact E1.out | exact E1.out.trans e4 | exact E1.out.trans e3 | exact (E1.out.trans e3).trans e4 | exact (E1.out.trans e4).trans e5 | exact ((E1.out.trans e3).trans e4).trans e5⟩
        | exact ⟨HOP2.out (by simp only [HO.out, HSO.out, HQ.out]; first | omega | (simp_all; done) | (simp_all; omega)), by first | exact E1.out | exact E1.out.trans e4 | exact E1.out.trans e3 | exact (E1.out.trans e3).trans e4 | exact (E1.out.trans e4).trans e5 | exact ((E1.out.trans e3).trans e4).trans e5⟩
    · have HQ := Lib.hid hq
      clear hq
      go_wp2_with (first | (go_at_call 102; refine (implOpLevel s _).mono ?_; rintro e w2 ⟨rfl, rfl⟩) | (go_at_call 173; refine (implisDigit b _).mono ?_; rw [q2]; rintro e w3 ⟨rfl, e3⟩; replace c0 := e3.cell c0; replace c1 := e3.cell c1; replace c2 := e3.cell c2; replace c3 := e3.cell c3; have E3 := Lib.hid (E1.out.trans e3); have s3 := block_lt_of_cell c0) | (go_at_call 186; refine (implisAtom k n s ks _ S _ (Tm.at_ext E3.out HT.out)).mono ?_; rw [hatom]; rintro e w4 ⟨rfl, e4⟩; replace c2 := e4.cell c2; have s4 := block_lt_of_cell c2))
      all_goals
        go_ret
        first
        | exact ⟨HOP1.out (by simp only [HO.out, HSO.out, HQ.out]; first | omega | simp_all), by first | exact E1.out | exact E1.out.trans e4 | exact E1.out.trans e3 | exact (E1.out.trans e3).trans e4 | exact (E1.out.trans e4).trans e5 | exact ((E1.out.trans e3).trans e4).trans e5⟩
        | exact ⟨HOP2.out (by simp only [HO.out, HSO.out, HQ.out]; first | omega | (simp_all; done) | (simp_all; omega)), by first | exact E1.out | exact E1.out.trans e4 | exact E1.out.trans e3 | exact (E1.out.trans e3).trans e4 | exact (E1.out.trans e4).trans e5 | exact ((E1.out.trans e3).trans e4).trans e5⟩
  · have hlev := lev_no (k := k) (s := s) hl2
    have hlz : ((ks.length : Int) == 2) = false := by simp; omega
    have HSS : Hid (soleF k s ks.length = (atomF k ks.length && decide (0 < opLevelF s.toList))) := Lib.hid rfl
    clear hl2
    cases hatom : atomF k ks.length
    · have hsole : soleF k s ks.length = false := by rw [HSS.out, hatom]; rfl
      clear HSS
      go_enter Tryz.func150, Tryz.ntmps150
      go_wp2_with fail
      refine (HW.out _ (Ext.alloc _ _)).mono ?_
      rintro e w1 ⟨rfl, e1⟩
      have E1 := Lib.hid ((Ext.alloc w (.cells #[.int .i64 k, .int .i64 n, .string s, .slice ar ks.length cap] 25)).trans e1)
      obtain ⟨c0, c1, c2, c3, g0, g1, g2, g3⟩ := (BoxT.new w (.int .i64 k) (.int .i64 n) (.string s) (.slice ar ks.length cap) 25 rfl).ext e1
      have s1 : w.heap.size < w1.heap.size := block_lt_of_cell c0
      have lb1 : ¬ 9223372036854775807 < 1 + (bs (b :: r)).size := by rw [hsize]; simp at hlen; omega
      have lb2 : ¬ 9223372036854775807 < 1 + (bs (b :: r)).size + 1 := by rw [hsize]; simp at hlen; omega
      have lb0 : 0 < (bs (b :: r)).size := by rw [hsize]; omega
      have HO := Lib.hid hlev
      have HSO := Lib.hid hsole
      clear hlev hsole e1 g0 g1 g2 g3 hsize
      rcases first_cases b r with ⟨⟨q1, q2⟩, hq⟩ | ⟨q1, q2, hq⟩ | ⟨⟨q1, q2, q3⟩, hq⟩ | ⟨⟨q1, q2⟩, q3, q4, hq⟩ | ⟨⟨q1, q2⟩, q3, q4, q5, hq⟩ | ⟨q1, q2, hq⟩ | ⟨q1, q2, q3, q4, hq⟩ | ⟨q1, q2, q3, q4, hq⟩
      · have HQ := Lib.hid hq
        clear hq
        go_wp2_with (first | (go_at_call 186; refine (implisAtom k n s ks _ S _ (Tm.at_ext E1.out HT.out)).mono ?_; rw [hatom]; rintro e w4 ⟨rfl, e4⟩; replace c2 := e4.cell c2; have s4 := block_lt_of_cell c2))
        all_goals
          go_ret
          first
          | exact ⟨HOP1.out (by simp only [HO.out, HSO.out, HQ.out]; first | omega | simp_all), by first | exact E1.out | exact E1.out.trans e4 | exact E1.out.trans e3 | exact (E1.out.trans e3).trans e4 | exact (E1.out.trans e4).trans e5 | exact ((E1.out.trans e3).trans e4).trans e5⟩
          | exact ⟨HOP2.out (by simp only [HO.out, HSO.out, HQ.out]; first | omega | (simp_all; done) | (simp_all; omega)), by first | exact E1.out | exact E1.out.trans e4 | exact E1.out.trans e3 | exact (E1.out.trans e3).trans e4 | exact (E1.out.trans e4).trans e5 | exact ((E1.out.trans e3).trans e4).trans e5⟩
      · have HQ := Lib.hid hq
        clear hq
        go_wp2_with (first | (go_at_call 173; refine (implisDigit b _).mono ?_; rw [q2]; rintro e w3 ⟨rfl, e3⟩; replace c0 := e3.cell c0; replace c1 := e3.cell c1; replace c2 := e3.cell c2; replace c3 := e3.cell c3; have E3 := Lib.hid (E1.out.trans e3); have s3 := block_lt_of_cell c0) | (go_at_call 186; refine (implisAtom k n s ks _ S _ (Tm.at_ext E3.out HT.out)).mono ?_; rw [hatom]; rintro e w4 ⟨rfl, e4⟩; replace c2 := e4.cell c2; have s4 := block_lt_of_cell c2))
        all_goals
          go_ret
          first
          | exact ⟨HOP1.out (by simp only [HO.out, HSO.out, HQ.out]; first | omega | simp_all), by first | exact E1.out | exact E1.out.trans e4 | exact E1.out.trans e3 | exact (E1.out.trans e3).trans e4 | exact (E1.out.trans e4).trans e5 | exact ((E1.out.trans e3).trans e4).trans e5⟩
          | exact ⟨HOP2.out (by simp only [HO.out, HSO.out, HQ.out]; first | omega | (simp_all; done) | (simp_all; omega)), by first | exact E1.out | exact E1.out.trans e4 | exact E1.out.trans e3 | exact (E1.out.trans e3).trans e4 | exact (E1.out.trans e4).trans e5 | exact ((E1.out.trans e3).trans e4).trans e5⟩
      · have HQ := Lib.hid hq
        clear hq
        go_wp2_with (first | (go_at_call 186; refine (implisAtom k n s ks _ S _ (Tm.at_ext E1.out HT.out)).mono ?_; rw [hatom]; rintro e w4 ⟨rfl, e4⟩; replace c2 := e4.cell c2; have s4 := block_lt_of_cell c2))
        all_goals
          go_ret
          first
          | exact ⟨HOP1.out (by simp only [HO.out, HSO.out, HQ.out]; first | omega | simp_all), by first | exact E1.out | exact E1.out.trans e4 | exact E1.out.trans e3 | exact (E1.out.trans e3).trans e4 | exact (E1.out.trans e4).trans e5 | exact ((E1.out.trans e3).trans e4).trans e5⟩
          | exact ⟨HOP2.out (by simp only [HO.out, HSO.out, HQ.out]; first | omega | (simp_all; done) | (simp_all; omega)), by first | exact E1.out | exact E1.out.trans e4 | exact E1.out.trans e3 | exact (E1.out.trans e3).trans e4 | exact (E1.out.trans e4).trans e5 | exact ((E1.out.trans e3).trans e4).trans e5⟩
      · have HQ := Lib.hid hq
        clear hq
        go_wp2_with (first | (go_at_call 173; refine (implisDigit b _).mono ?_; rw [q3]; rintro e w3 ⟨rfl, e3⟩; replace c0 := e3.cell c0; replace c1 := e3.cell c1; replace c2 := e3.cell c2; replace c3 := e3.cell c3; have E3 := Lib.hid (E1.out.trans e3); have s3 := block_lt_of_cell c0) | (go_at_call 186; refine (implisAtom k n s ks _ S _ (Tm.at_ext E3.out HT.out)).mono ?_; rw [hatom]; rintro e w4 ⟨rfl, e4⟩; replace c2 := e4.cell c2; have s4 := block_lt_of_cell c2))
        all_goals
          go_ret
          first
          | exact ⟨HOP1.out (by simp only [HO.out, HSO.out, HQ.out]; first | omega | simp_all), by first | exact E1.out | exact E1.out.trans e4 | exact E1.out.trans e3 | exact (E1.out.trans e3).trans e4 | exact (E1.out.trans e4).trans e5 | exact ((E1.out.trans e3).trans e4).trans e5⟩
          | exact ⟨HOP2.out (by simp only [HO.out, HSO.out, HQ.out]; first | omega | (simp_all; done) | (simp_all; omega)), by first | exact E1.out | exact E1.out.trans e4 | exact E1.out.trans e3 | exact (E1.out.trans e3).trans e4 | exact (E1.out.trans e4).trans e5 | exact ((E1.out.trans e3).trans e4).trans e5⟩
      · have HQ := Lib.hid hq
        clear hq
        go_wp2_with (first | (go_at_call 173; refine (implisDigit b _).mono ?_; rw [q3]; rintro e w3 ⟨rfl, e3⟩; replace c0 := e3.cell c0; replace c1 := e3.cell c1; replace c2 := e3.cell c2; replace c3 := e3.cell c3; have E3 := Lib.hid (E1.out.trans e3); have s3 := block_lt_of_cell c0) | (go_at_call 186; refine (implisAtom k n s ks _ S _ (Tm.at_ext E3.out HT.out)).mono ?_; rw [hatom]; rintro e w4 ⟨rfl, e4⟩; replace c2 := e4.cell c2; have s4 := block_lt_of_cell c2))
        all_goals
          go_ret
          first
          | exact ⟨HOP1.out (by simp only [HO.out, HSO.out, HQ.out]; first | omega | simp_all), by first | exact E1.out | exact E1.out.trans e4 | exact E1.out.trans e3 | exact (E1.out.trans e3).trans e4 | exact (E1.out.trans e4).trans e5 | exact ((E1.out.trans e3).trans e4).trans e5⟩
          | exact ⟨HOP2.out (by simp only [HO.out, HSO.out, HQ.out]; first | omega | (simp_all; done) | (simp_all; omega)), by first | exact E1.out | exact E1.out.trans e4 | exact E1.out.trans e3 | exact (E1.out.trans e3).trans e4 | exact (E1.out.trans e4).trans e5 | exact ((E1.out.trans e3).trans e4).trans e5⟩
      · have HQ := Lib.hid hq
        clear hq
        go_wp2_with (first | (go_at_call 173; refine (implisDigit b _).mono ?_; rw [q2]; rintro e w3 ⟨rfl, e3⟩; replace c0 := e3.cell c0; replace c1 := e3.cell c1; replace c2 := e3.cell c2; replace c3 := e3.cell c3; have E3 := Lib.hid (E1.out.trans e3); have s3 := block_lt_of_cell c0) | (go_at_call 186; refine (implisAtom k n s ks _ S _ (Tm.at_ext E3.out HT.out)).mono ?_; rw [hatom]; rintro e w4 ⟨rfl, e4⟩; replace c2 := e4.cell c2; have s4 := block_lt_of_cell c2))
        all_goals
          go_ret
          first
          | exact ⟨HOP1.out (by simp only [HO.out, HSO.out, HQ.out]; first | omega | simp_all), by first | exact E1.out | exact E1.out.trans e4 | exact E1.out.trans e3 | exact (E1.out.trans e3).trans e4 | exact (E1.out.trans e4).trans e5 | exact ((E1.out.trans e3).trans e4).trans e5⟩
          | exact ⟨HOP2.out (by simp only [HO.out, HSO.out, HQ.out]; first | omega | (simp_all; done) | (simp_all; omega)), by first | exact E1.out | exact E1.out.trans e4 | exact E1.out.trans e3 | exact (E1.out.trans e3).trans e4 | exact (E1.out.trans e4).trans e5 | exact ((E1.out.trans e3).trans e4).trans e5⟩
      · have HQ := Lib.hid hq
        clear hq
        go_wp2_with (first | (go_at_call 173; refine (implisDigit b _).mono ?_; rw [q2]; rintro e w3 ⟨rfl, e3⟩; replace c0 := e3.cell c0; replace c1 := e3.cell c1; replace c2 := e3.cell c2; replace c3 := e3.cell c3; have E3 := Lib.hid (E1.out.trans e3); have s3 := block_lt_of_cell c0) | (go_at_call 186; refine (implisAtom k n s ks _ S _ (Tm.at_ext E3.out HT.out)).mono ?_; rw [hatom]; rintro e w4 ⟨rfl, e4⟩; replace c2 := e4.cell c2; have s4 := block_lt_of_cell c2))
        all_goals
          go_ret
          first
          | exact ⟨HOP1.out (by simp only [HO.out, HSO.out, HQ.out]; first | omega | simp_all), by first | exact E1.out | exact E1.out.trans e4 | exact E1.out.trans e3 | exact (E1.out.trans e3).trans e4 | exact (E1.out.trans e4).trans e5 | exact ((E1.out.trans e3).trans e4).trans e5⟩
          | exact ⟨HOP2.out (by simp only [HO.out, HSO.out, HQ.out]; first | omega | (simp_all; done) | (simp_all; omega)), by first | exact E1.out | exact E1.out.trans e4 | exact E1.out.trans e3 | exact (E1.out.trans e3).trans e4 | exact (E1.out.trans e4).trans e5 | exact ((E1.out.trans e3).trans e4).trans e5⟩
      · have HQ := Lib.hid hq
        clear hq
        go_wp2_with (first | (go_at_call 173; refine (implisDigit b _).mono ?_; rw [q2]; rintro e w3 ⟨rfl, e3⟩; replace c0 := e3.cell c0; replace c1 := e3.cell c1; replace c2 := e3.cell c2; replace c3 := e3.cell c3; have E3 := Lib.hid (E1.out.trans e3); have s3 := block_lt_of_cell c0) | (go_at_call 186; refine (implisAtom k n s ks _ S _ (Tm.at_ext E3.out HT.out)).mono ?_; rw [hatom]; rintro e w4 ⟨rfl, e4⟩; replace c2 := e4.cell c2; have s4 := block_lt_of_cell c2))
        all_goals
          go_ret
          first
          | exact ⟨HOP1.out (by simp only [HO.out, HSO.out, HQ.out]; first | omega | simp_all), by first | exact E1.out | exact E1.out.trans e4 | exact E1.out.trans e3 | exact (E1.out.trans e3).trans e4 | exact (E1.out.trans e4).trans e5 | exact ((E1.out.trans e3).trans e4).trans e5⟩
          | exact ⟨HOP2.out (by simp only [HO.out, HSO.out, HQ.out]; first | omega | (simp_all; done) | (simp_all; omega)), by first | exact E1.out | exact E1.out.trans e4 | exact E1.out.trans e3 | exact (E1.out.trans e3).trans e4 | exact (E1.out.trans e4).trans e5 | exact ((E1.out.trans e3).trans e4).trans e5⟩
    · cases hop : decide (0 < opLevelF s.toList)
      · have hsole : soleF k s ks.length = false := by rw [HSS.out, hatom, hop]; rfl
        clear HSS
        go_enter Tryz.func150, Tryz.ntmps150
        go_wp2_with fail
        refine (HW.out _ (Ext.alloc _ _)).mono ?_
        rintro e w1 ⟨rfl, e1⟩
        have E1 := Lib.hid ((Ext.alloc w (.cells #[.int .i64 k, .int .i64 n, .string s, .slice ar ks.length cap] 25)).trans e1)
        obtain ⟨c0, c1, c2, c3, g0, g1, g2, g3⟩ := (BoxT.new w (.int .i64 k) (.int .i64 n) (.string s) (.slice ar ks.length cap) 25 rfl).ext e1
        have s1 : w.heap.size < w1.heap.size := block_lt_of_cell c0
        have lb1 : ¬ 9223372036854775807 < 1 + (bs (b :: r)).size := by rw [hsize]; simp at hlen; omega
        have lb2 : ¬ 9223372036854775807 < 1 + (bs (b :: r)).size + 1 := by rw [hsize]; simp at hlen; omega
        have lb0 : 0 < (bs (b :: r)).size := by rw [hsize]; omega
        have HO := Lib.hid hlev
        have HSO := Lib.hid hsole
        clear hlev hsole e1 g0 g1 g2 g3 hsize
        rcases first_cases b r with ⟨⟨q1, q2⟩, hq⟩ | ⟨q1, q2, hq⟩ | ⟨⟨q1, q2, q3⟩, hq⟩ | ⟨⟨q1, q2⟩, q3, q4, hq⟩ | ⟨⟨q1, q2⟩, q3, q4, q5, hq⟩ | ⟨q1, q2, hq⟩ | ⟨q1, q2, q3, q4, hq⟩ | ⟨q1, q2, q3, q4, hq⟩
        · have HQ := Lib.hid hq
          clear hq
          go_wp2_with (first | (go_at_call 186; refine (implisAtom k n s ks _ S _ (Tm.at_ext E1.out HT.out)).mono ?_; rw [hatom]; rintro e w4 ⟨rfl, e4⟩; replace c2 := e4.cell c2; have s4 := block_lt_of_cell c2) | (go_at_call 107; refine (implisOp s _).mono ?_; rw [hop]; rintro e w5 ⟨rfl, e5⟩))
          all_goals
            go_ret
            first
            | exact ⟨HOP1.out (by simp only [HO.out, HSO.out, HQ.out]; first | omega | simp_all), by first | exact E1.out | exact E1.out.trans e4 | exact E1.out.trans e3 | exact (E1.out.trans e3).trans e4 | exact (E1.out.trans e4).trans e5 | exact ((E1.out.trans e3).trans e4).trans e5⟩
            | exact ⟨HOP2.out (by simp only [HO.out, HSO.out, HQ.out]; first | omega | (simp_all; done) | (simp_all; omega)), by first | exact E1.out | exact E1.out.trans e4 | exact E1.out.trans e3 | exact (E1.out.trans e3).trans e4 | exact (E1.out.trans e4).trans e5 | exact ((E1.out.trans e3).trans e4).trans e5⟩
        · have HQ := Lib.hid hq
          clear hq
          go_wp2_with (first | (go_at_call 173; refine (implisDigit b _).mono ?_; rw [q2]; rintro e w3 ⟨rfl, e3⟩; replace c0 := e3.cell c0; replace c1 := e3.cell c1; replace c2 := e3.cell c2; replace c3 := e3.cell c3; have E3 := Lib.hid (E1.out.trans e3); have s3 := block_lt_of_cell c0) | (go_at_call 186; refine (implisAtom k n s ks _ S _ (Tm.at_ext E3.out HT.out)).mono ?_; rw [hatom]; rintro e w4 ⟨rfl, e4⟩; replace c2 := e4.cell c2; have s4 := block_lt_of_cell c2) | (go_at_call 107; refine (implisOp s _).mono ?_; rw [hop]; rintro e w5 ⟨rfl, e5⟩))
          all_goals
            go_ret
            first
            | exact ⟨HOP1.out (by simp only [HO.out, HSO.out, HQ.out]; first | omega | simp_all), by first | exact E1.out | exact E1.out.trans e4 | exact E1.out.trans e3 | exact (E1.out.trans e3).trans e4 | exact (E1.out.trans e4).trans e5 | exact ((E1.out.trans e3).trans e4).trans e5⟩
            | exact ⟨HOP2.out (by simp only [HO.out, HSO.out, HQ.out]; first | omega | (simp_all; done) | (simp_all; omega)), by first | exact E1.out | exact E1.out.trans e4 | exact E1.out.trans e3 | exact (E1.out.trans e3).trans e4 | exact (E1.out.trans e4).trans e5 | exact ((E1.out.trans e3).trans e4).trans e5⟩
        · have HQ := Lib.hid hq
          clear hq
          go_wp2_with (first | (go_at_call 186; refine (implisAtom k n s ks _ S _ (Tm.at_ext E1.out HT.out)).mono ?_; rw [hatom]; rintro e w4 ⟨rfl, e4⟩; replace c2 := e4.cell c2; have s4 := block_lt_of_cell c2) | (go_at_call 107; refine (implisOp s _).mono ?_; rw [hop]; rintro e w5 ⟨rfl, e5⟩))
          all_goals
            go_ret
            first
            | exact ⟨HOP1.out (by simp only [HO.out, HSO.out, HQ.out]; first | omega | simp_all), by first | exact E1.out | exact E1.out.trans e4 | exact E1.out.trans e3 | exact (E1.out.trans e3).trans e4 | exact (E1.out.trans e4).trans e5 | exact ((E1.out.trans e3).trans e4).trans e5⟩
            | exact ⟨HOP2.out (by simp only [HO.out, HSO.out, HQ.out]; first | omega | (simp_all; done) | (simp_all; omega)), by first | exact E1.out | exact E1.out.trans e4 | exact E1.out.trans e3 | exact (E1.out.trans e3).trans e4 | exact (E1.out.trans e4).trans e5 | exact ((E1.out.trans e3).trans e4).trans e5⟩
        · have HQ := Lib.hid hq
          clear hq
          go_wp2_with (first | (go_at_call 173; refine (implisDigit b _).mono ?_; rw [q3]; rintro e w3 ⟨rfl, e3⟩; replace c0 := e3.cell c0; replace c1 := e3.cell c1; replace c2 := e3.cell c2; replace c3 := e3.cell c3; have E3 := Lib.hid (E1.out.trans e3); have s3 := block_lt_of_cell c0) | (go_at_call 186; refine (implisAtom k n s ks _ S _ (Tm.at_ext E3.out HT.out)).mono ?_; rw [hatom]; rintro e w4 ⟨rfl, e4⟩; replace c2 := e4.cell c2; have s4 := block_lt_of_cell c2) | (go_at_call 107; refine (implisOp s _).mono ?_; rw [hop]; rintro e w5 ⟨rfl, e5⟩))
          all_goals
            go_ret
            first
            | exact ⟨HOP1.out (by simp only [HO.out, HSO.out, HQ.out]; first | omega | simp_all), by first | exact E1.out | exact E1.out.trans e4 | exact E1.out.trans e3 | exact (E1.out.trans e3).trans e4 | exact (E1.out.trans e4).trans e5 | exact ((E1.out.trans e3).trans e4).trans e5⟩
            | exact ⟨HOP2.out (by simp only [HO.out, HSO.out, HQ.out]; first | omega | (simp_all; done) | (simp_all; omega)), by first | exact E1.out | exact E1.out.trans e4 | exact E1.out.trans e3 | exact (E1.out.trans e3).trans e4 | exact (E1.out.trans e4).trans e5 | exact ((E1.out.trans e3).trans e4).trans e5⟩
        · have HQ := Lib.hid hq
          clear hq
          go_wp2_with (first | (go_at_call 173; refine (implisDigit b _).mono ?_; rw [q3]; rintro e w3 ⟨rfl, e3⟩; replace c0 := e3.cell c0; replace c1 := e3.cell c1; replace c2 := e3.cell c2; replace c3 := e3.cell c3; have E3 := Lib.hid (E1.out.trans e3); have s3 := block_lt_of_cell c0) | (go_at_call 186; refine (implisAtom k n s ks _ S _ (Tm.at_ext E3.out HT.out)).mono ?_; rw [hatom]; rintro e w4 ⟨rfl, e4⟩; replace c2 := e4.cell c2; have s4 := block_lt_of_cell c2) | (go_at_call 107; refine (implisOp s _).mono ?_; rw [hop]; rintro e w5 ⟨rfl, e5⟩))
          all_goals
            go_ret
            first
            | exact ⟨HOP1.out (by simp only [HO.out, HSO.out, HQ.out]; first | omega | simp_all), by first | exact E1.out | exact E1.out.trans e4 | exact E1.out.trans e3 | exact (E1.out.trans e3).trans e4 | exact (E1.out.trans e4).trans e5 | exact ((E1.out.trans e3).trans e4).trans e5⟩
            | exact ⟨HOP2.out (by simp only [HO.out, HSO.out, HQ.out]; first | omega | (simp_all; done) | (simp_all; omega)), by first | exact E1.out | exact E1.out.trans e4 | exact E1.out.trans e3 | exact (E1.out.trans e3).trans e4 | exact (E1.out.trans e4).trans e5 | exact ((E1.out.trans e3).trans e4).trans e5⟩
        · have HQ := Lib.hid hq
          clear hq
          go_wp2_with (first | (go_at_call 173; refine (implisDigit b _).mono ?_; rw [q2]; rintro e w3 ⟨rfl, e3⟩; replace c0 := e3.cell c0; replace c1 := e3.cell c1; replace c2 := e3.cell c2; replace c3 := e3.cell c3; have E3 := Lib.hid (E1.out.trans e3); have s3 := block_lt_of_cell c0) | (go_at_call 186; refine (implisAtom k n s ks _ S _ (Tm.at_ext E3.out HT.out)).mono ?_; rw [hatom]; rintro e w4 ⟨rfl, e4⟩; replace c2 := e4.cell c2; have s4 := block_lt_of_cell c2) | (go_at_call 107; refine (implisOp s _).mono ?_; rw [hop]; rintro e w5 ⟨rfl, e5⟩))
          all_goals
            go_ret
            first
            | exact ⟨HOP1.out (by simp only [HO.out, HSO.out, HQ.out]; first | omega | simp_all), by first | exact E1.out | exact E1.out.trans e4 | exact E1.out.trans e3 | exact (E1.out.trans e3).trans e4 | exact (E1.out.trans e4).trans e5 | exact ((E1.out.trans e3).trans e4).trans e5⟩
            | exact ⟨HOP2.out (by simp only [HO.out, HSO.out, HQ.out]; first | omega | (simp_all; done) | (simp_all; omega)), by first | exact E1.out | exact E1.out.trans e4 | exact E1.out.trans e3 | exact (E1.out.trans e3).trans e4 | exact (E1.out.trans e4).trans e5 | exact ((E1.out.trans e3).trans e4).trans e5⟩
        · have HQ := Lib.hid hq
          clear hq
          go_wp2_with (first | (go_at_call 173; refine (implisDigit b _).mono ?_; rw [q2]; rintro e w3 ⟨rfl, e3⟩; replace c0 := e3.cell c0; replace c1 := e3.cell c1; replace c2 := e3.cell c2; replace c3 := e3.cell c3; have E3 := Lib.hid (E1.out.trans e3); have s3 := block_lt_of_cell c0) | (go_at_call 186; refine (implisAtom k n s ks _ S _ (Tm.at_ext E3.out HT.out)).mono ?_; rw [hatom]; rintro e w4 ⟨rfl, e4⟩; replace c2 := e4.cell c2; have s4 := block_lt_of_cell c2) | (go_at_call 107; refine (implisOp s _).mono ?_; rw [hop]; rintro e w5 ⟨rfl, e5⟩))
          all_goals
            go_ret
            first
            | exact ⟨HOP1.out (by simp only [HO.out, HSO.out, HQ.out]; first | omega | simp_all), by first | exact E1.out | exact E1.out.trans e4 | exact E1.out.trans e3 | exact (E1.out.trans e3).trans e4 | exact (E1.out.trans e4).trans e5 | exact ((E1.out.trans e3).trans e4).trans e5⟩
            | exact ⟨HOP2.out (by simp only [HO.out, HSO.out, HQ.out]; first | omega | (simp_all; done) | (simp_all; omega)), by first | exact E1.out | exact E1.out.trans e4 | exact E1.out.trans e3 | exact (E1.out.trans e3).trans e4 | exact (E1.out.trans e4).trans e5 | exact ((E1.out.trans e3).trans e4).trans e5⟩
        · have HQ := Lib.hid hq
          clear hq
          go_wp2_with (first | (go_at_call 173; refine (implisDigit b _).mono ?_; rw [q2]; rintro e w3 ⟨rfl, e3⟩; replace c0 := e3.cell c0; replace c1 := e3.cell c1; replace c2 := e3.cell c2; replace c3 := e3.cell c3; have E3 := Lib.hid (E1.out.trans e3); have s3 := block_lt_of_cell c0) | (go_at_call 186; refine (implisAtom k n s ks _ S _ (Tm.at_ext E3.out HT.out)).mono ?_; rw [hatom]; rintro e w4 ⟨rfl, e4⟩; replace c2 := e4.cell c2; have s4 := block_lt_of_cell c2) | (go_at_call 107; refine (implisOp s _).mono ?_; rw [hop]; rintro e w5 ⟨rfl, e5⟩))
          all_goals
            go_ret
            first
            | exact ⟨HOP1.out (by simp only [HO.out, HSO.out, HQ.out]; first | omega | simp_all), by first | exact E1.out | exact E1.out.trans e4 | exact E1.out.trans e3 | exact (E1.out.trans e3).trans e4 | exact (E1.out.trans e4).trans e5 | exact ((E1.out.trans e3).trans e4).trans e5⟩
            | exact ⟨HOP2.out (by simp only [HO.out, HSO.out, HQ.out]; first | omega | (simp_all; done) | (simp_all; omega)), by first | exact E1.out | exact E1.out.trans e4 | exact E1.out.trans e3 | exact (E1.out.trans e3).trans e4 | exact (E1.out.trans e4).trans e5 | exact ((E1.out.trans e3).trans e4).trans e5⟩
      · have hsole : soleF k s ks.length = true := by rw [HSS.out, hatom, hop]; rfl
        clear HSS
        go_enter Tryz.func150, Tryz.ntmps150
        go_wp2_with fail
        refine (HW.out _ (Ext.alloc _ _)).mono ?_
        rintro e w1 ⟨rfl, e1⟩
        have E1 := Lib.hid ((Ext.alloc w (.cells #[.int .i64 k, .int .i64 n, .string s, .slice ar ks.length cap] 25)).trans e1)
        obtain ⟨c0, c1, c2, c3, g0, g1, g2, g3⟩ := (BoxT.new w (.int .i64 k) (.int .i64 n) (.string s) (.slice ar ks.length cap) 25 rfl).ext e1
        have s1 : w.heap.size < w1.heap.size := block_lt_of_cell c0
        have lb1 : ¬ 9223372036854775807 < 1 + (bs (b :: r)).size := by rw [hsize]; simp at hlen; omega
        have lb2 : ¬ 9223372036854775807 < 1 + (bs (b :: r)).size + 1 := by rw [hsize]; simp at hlen; omega
        have lb0 : 0 < (bs (b :: r)).size := by rw [hsize]; omega
        have HO := Lib.hid hlev
        have HSO := Lib.hid hsole
        clear hlev hsole e1 g0 g1 g2 g3 hsize
        rcases first_cases b r with ⟨⟨q1, q2⟩, hq⟩ | ⟨q1, q2, hq⟩ | ⟨⟨q1, q2, q3⟩, hq⟩ | ⟨⟨q1, q2⟩, q3, q4, hq⟩ | ⟨⟨q1, q2⟩, q3, q4, q5, hq⟩ | ⟨q1, q2, hq⟩ | ⟨q1, q2, q3, q4, hq⟩ | ⟨q1, q2, q3, q4, hq⟩
        · have HQ := Lib.hid hq
          clear hq
          go_wp2_with (first | (go_at_call 186; refine (implisAtom k n s ks _ S _ (Tm.at_ext E1.out HT.out)).mono ?_; rw [hatom]; rintro e w4 ⟨rfl, e4⟩; replace c2 := e4.cell c2; have s4 := block_lt_of_cell c2) | (go_at_call 107; refine (implisOp s _).mono ?_; rw [hop]; rintro e w5 ⟨rfl, e5⟩))
          all_goals
            go_ret
            first
            | exact ⟨HOP1.out (by simp only [HO.out, HSO.out, HQ.out]; first | omega | simp_all), by first | exact E1.out | exact E1.out.trans e4 | exact E1.out.trans e3 | exact (E1.out.trans e3).trans e4 | exact (E1.out.trans e4).trans e5 | exact ((E1.out.trans e3).trans e4).trans e5⟩
            | exact ⟨HOP2.out (by simp only [HO.out, HSO.out, HQ.out]; first | omega | (simp_all; done) | (simp_all; omega)), by first | exact E1.out | exact E1.out.trans e4 | exact E1.out.trans e3 | exact (E1.out.trans e3).trans e4 | exact (E1.out.trans e4).trans e5 | exact ((E1.out.trans e3).trans e4).trans e5⟩
        · have HQ := Lib.hid hq
          clear hq
          go_wp2_with (first | (go_at_call 173; refine (implisDigit b _).mono ?_; rw [q2]; rintro e w3 ⟨rfl, e3⟩; replace c0 := e3.cell c0; replace c1 := e3.cell c1; replace c2 := e3.cell c2; replace c3 := e3.cell c3; have E3 := Lib.hid (E1.out.trans e3); have s3 := block_lt_of_cell c0) | (go_at_call 186; refine (implisAtom k n s ks _ S _ (Tm.at_ext E3.out HT.out)).mono ?_; rw [hatom]; rintro e w4 ⟨rfl, e4⟩; replace c2 := e4.cell c2; have s4 := block_lt_of_cell c2) | (go_at_call 107; refine (implisOp s _).mono ?_; rw [hop]; rintro e w5 ⟨rfl, e5⟩))
          all_goals
            go_ret
            first
            | exact ⟨HOP1.out (by simp only [HO.out, HSO.out, HQ.out]; first | omega | simp_all), by first | exact E1.out | exact E1.out.trans e4 | exact E1.out.trans e3 | exact (E1.out.trans e3).trans e4 | exact (E1.out.trans e4).trans e5 | exact ((E1.out.trans e3).trans e4).trans e5⟩
            | exact ⟨HOP2.out (by simp only [HO.out, HSO.out, HQ.out]; first | omega | (simp_all; done) | (simp_all; omega)), by first | exact E1.out | exact E1.out.trans e4 | exact E1.out.trans e3 | exact (E1.out.trans e3).trans e4 | exact (E1.out.trans e4).trans e5 | exact ((E1.out.trans e3).trans e4).trans e5⟩
        · have HQ := Lib.hid hq
          clear hq
          go_wp2_with (first | (go_at_call 186; refine (implisAtom k n s ks _ S _ (Tm.at_ext E1.out HT.out)).mono ?_; rw [hatom]; rintro e w4 ⟨rfl, e4⟩; replace c2 := e4.cell c2; have s4 := block_lt_of_cell c2) | (go_at_call 107; refine (implisOp s _).mono ?_; rw [hop]; rintro e w5 ⟨rfl, e5⟩))
          all_goals
            go_ret
            first
            | exact ⟨HOP1.out (by simp only [HO.out, HSO.out, HQ.out]; first | omega | simp_all), by first | exact E1.out | exact E1.out.trans e4 | exact E1.out.trans e3 | exact (E1.out.trans e3).trans e4 | exact (E1.out.trans e4).trans e5 | exact ((E1.out.trans e3).trans e4).trans e5⟩
            | exact ⟨HOP2.out (by simp only [HO.out, HSO.out, HQ.out]; first | omega | (simp_all; done) | (simp_all; omega)), by first | exact E1.out | exact E1.out.trans e4 | exact E1.out.trans e3 | exact (E1.out.trans e3).trans e4 | exact (E1.out.trans e4).trans e5 | exact ((E1.out.trans e3).trans e4).trans e5⟩
        · have HQ := Lib.hid hq
          clear hq
          go_wp2_with (first | (go_at_call 173; refine (implisDigit b _).mono ?_; rw [q3]; rintro e w3 ⟨rfl, e3⟩; replace c0 := e3.cell c0; replace c1 := e3.cell c1; replace c2 := e3.cell c2; replace c3 := e3.cell c3; have E3 := Lib.hid (E1.out.trans e3); have s3 := block_lt_of_cell c0) | (go_at_call 186; refine (implisAtom k n s ks _ S _ (Tm.at_ext E3.out HT.out)).mono ?_; rw [hatom]; rintro e w4 ⟨rfl, e4⟩; replace c2 := e4.cell c2; have s4 := block_lt_of_cell c2) | (go_at_call 107; refine (implisOp s _).mono ?_; rw [hop]; rintro e w5 ⟨rfl, e5⟩))
          all_goals
            go_ret
            first
            | exact ⟨HOP1.out (by simp only [HO.out, HSO.out, HQ.out]; first | omega | simp_all), by first | exact E1.out | exact E1.out.trans e4 | exact E1.out.trans e3 | exact (E1.out.trans e3).trans e4 | exact (E1.out.trans e4).trans e5 | exact ((E1.out.trans e3).trans e4).trans e5⟩
            | exact ⟨HOP2.out (by simp only [HO.out, HSO.out, HQ.out]; first | omega | (simp_all; done) | (simp_all; omega)), by first | exact E1.out | exact E1.out.trans e4 | exact E1.out.trans e3 | exact (E1.out.trans e3).trans e4 | exact (E1.out.trans e4).trans e5 | exact ((E1.out.trans e3).trans e4).trans e5⟩
        · have HQ := Lib.hid hq
          clear hq
          go_wp2_with (first | (go_at_call 173; refine (implisDigit b _).mono ?_; rw [q3]; rintro e w3 ⟨rfl, e3⟩; replace c0 := e3.cell c0; replace c1 := e3.cell c1; replace c2 := e3.cell c2; replace c3 := e3.cell c3; have E3 := Lib.hid (E1.out.trans e3); have s3 := block_lt_of_cell c0) | (go_at_call 186; refine (implisAtom k n s ks _ S _ (Tm.at_ext E3.out HT.out)).mono ?_; rw [hatom]; rintro e w4 ⟨rfl, e4⟩; replace c2 := e4.cell c2; have s4 := block_lt_of_cell c2) | (go_at_call 107; refine (implisOp s _).mono ?_; rw [hop]; rintro e w5 ⟨rfl, e5⟩))
          all_goals
            go_ret
            first
            | exact ⟨HOP1.out (by simp only [HO.out, HSO.out, HQ.out]; first | omega | simp_all), by first | exact E1.out | exact E1.out.trans e4 | exact E1.out.trans e3 | exact (E1.out.trans e3).trans e4 | exact (E1.out.trans e4).trans e5 | exact ((E1.out.trans e3).trans e4).trans e5⟩
            | exact ⟨HOP2.out (by simp only [HO.out, HSO.out, HQ.out]; first | omega | (simp_all; done) | (simp_all; omega)), by first | exact E1.out | exact E1.out.trans e4 | exact E1.out.trans e3 | exact (E1.out.trans e3).trans e4 | exact (E1.out.trans e4).trans e5 | exact ((E1.out.trans e3).trans e4).trans e5⟩
        · have HQ := Lib.hid hq
          clear hq
          go_wp2_with (first | (go_at_call 173; refine (implisDigit b _).mono ?_; rw [q2]; rintro e w3 ⟨rfl, e3⟩; replace c0 := e3.cell c0; replace c1 := e3.cell c1; replace c2 := e3.cell c2; replace c3 := e3.cell c3; have E3 := Lib.hid (E1.out.trans e3); have s3 := block_lt_of_cell c0) | (go_at_call 186; refine (implisAtom k n s ks _ S _ (Tm.at_ext E3.out HT.out)).mono ?_; rw [hatom]; rintro e w4 ⟨rfl, e4⟩; replace c2 := e4.cell c2; have s4 := block_lt_of_cell c2) | (go_at_call 107; refine (implisOp s _).mono ?_; rw [hop]; rintro e w5 ⟨rfl, e5⟩))
          all_goals
            go_ret
            first
            | exact ⟨HOP1.out (by simp only [HO.out, HSO.out, HQ.out]; first | omega | simp_all), by first | exact E1.out | exact E1.out.trans e4 | exact E1.out.trans e3 | exact (E1.out.trans e3).trans e4 | exact (E1.out.trans e4).trans e5 | exact ((E1.out.trans e3).trans e4).trans e5⟩
            | exact ⟨HOP2.out (by simp only [HO.out, HSO.out, HQ.out]; first | omega | (simp_all; done) | (simp_all; omega)), by first | exact E1.out | exact E1.out.trans e4 | exact E1.out.trans e3 | exact (E1.out.trans e3).trans e4 | exact (E1.out.trans e4).trans e5 | exact ((E1.out.trans e3).trans e4).trans e5⟩
        · have HQ := Lib.hid hq
          clear hq
          go_wp2_with (first | (go_at_call 173; refine (implisDigit b _).mono ?_; rw [q2]; rintro e w3 ⟨rfl, e3⟩; replace c0 := e3.cell c0; replace c1 := e3.cell c1; replace c2 := e3.cell c2; replace c3 := e3.cell c3; have E3 := Lib.hid (E1.out.trans e3); have s3 := block_lt_of_cell c0) | (go_at_call 186; refine (implisAtom k n s ks _ S _ (Tm.at_ext E3.out HT.out)).mono ?_; rw [hatom]; rintro e w4 ⟨rfl, e4⟩; replace c2 := e4.cell c2; have s4 := block_lt_of_cell c2) | (go_at_call 107; refine (implisOp s _).mono ?_; rw [hop]; rintro e w5 ⟨rfl, e5⟩))
          all_goals
            go_ret
            first
            | exact ⟨HOP1.out (by simp only [HO.out, HSO.out, HQ.out]; first | omega | simp_all), by first | exact E1.out | exact E1.out.trans e4 | exact E1.out.trans e3 | exact (E1.out.trans e3).trans e4 | exact (E1.out.trans e4).trans e5 | exact ((E1.out.trans e3).trans e4).trans e5⟩
            | exact ⟨HOP2.out (by simp only [HO.out, HSO.out, HQ.out]; first | omega | (simp_all; done) | (simp_all; omega)), by first | exact E1.out | exact E1.out.trans e4 | exact E1.out.trans e3 | exact (E1.out.trans e3).trans e4 | exact (E1.out.trans e4).trans e5 | exact ((E1.out.trans e3).trans e4).trans e5⟩
        · have HQ := Lib.hid hq
          clear hq
          go_wp2_with (first | (go_at_call 173; refine (implisDigit b _).mono ?_; rw [q2]; rintro e w3 ⟨rfl, e3⟩; replace c0 := e3.cell c0; replace c1 := e3.cell c1; replace c2 := e3.cell c2; replace c3 := e3.cell c3; have E3 := Lib.hid (E1.out.trans e3); have s3 := block_lt_of_cell c0) | (go_at_call 186; refine (implisAtom k n s ks _ S _ (Tm.at_ext E3.out HT.out)).mono ?_; rw [hatom]; rintro e w4 ⟨rfl, e4⟩; replace c2 := e4.cell c2; have s4 := block_lt_of_cell c2) | (go_at_call 107; refine (implisOp s _).mono ?_; rw [hop]; rintro e w5 ⟨rfl, e5⟩))
          all_goals
            go_ret
            first
            | exact ⟨HOP1.out (by simp only [HO.out, HSO.out, HQ.out]; first | omega | simp_all), by first | exact E1.out | exact E1.out.trans e4 | exact E1.out.trans e3 | exact (E1.out.trans e3).trans e4 | exact (E1.out.trans e4).trans e5 | exact ((E1.out.trans e3).trans e4).trans e5⟩
            | exact ⟨HOP2.out (by simp only [HO.out, HSO.out, HQ.out]; first | omega | (simp_all; done) | (simp_all; omega)), by first | exact E1.out | exact E1.out.trans e4 | exact E1.out.trans e3 | exact (E1.out.trans e3).trans e4 | exact (E1.out.trans e4).trans e5 | exact ((E1.out.trans e3).trans e4).trans e5⟩
end Go.Proofs.YtognkaebiafgbaaGreatDoor
