/-
  The reference's readers with operators: l2Op.
-/
import Derived.Test.YtognkaebiafgbaaGreatMv29
namespace Go.Proofs.YtognkaebiafgbaaGreat
open Go.RowKit
set_option linter.unusedVariables false
def SpOp (s : ByteArray) (X : Option (List UInt8 × List UInt8)) (w : World) (e : Ending) (w' : World) : Prop :=
  ∃ i, e = .returned (.tuple #[.string (bs ((X.map Prod.fst).getD [])), .int .i64 i]) ∧ Ext w w' ∧ (∀ nm r, X = some (nm, r) → AtR s (some r) i)
def opN (sp : Bool) : Option (List UInt8 × List UInt8) → Option (List UInt8 × List UInt8)
  | none => none
  | some (s, r') => if opLevelF s = 0 then none else if isWordOp s = true then (if sp = true ∧ r'.head? = some 32 then some (s, r'.drop 1) else none) else (if sp = true then none else some (s, r'))
theorem opS_sp {q : List UInt8} : opS (32 :: q) = if q = [] then none else opN true (nameP q) := by
  unfold opS
  simp only [List.head?_cons, if_true, List.drop_succ_cons, List.drop_zero, true_and]
  split
  · rfl
  · cases nameP q with
    | none => rfl
    | some p => simp only [opN, true_and, if_true]
theorem opS_ns {rest : List UInt8} (h : hdB (isB 32) (some rest) = false) : opS rest = if rest = [] then none else opN false (nameP rest) := by
  have h32 : ¬ rest.head? = some 32 := by
    cases rest with
    | nil => simp
    | cons c q =>
      intro e
      have : c = 32 := by simpa using e
      rw [this] at h
      exact absurd h (by simp [hdB, isB])
  unfold opS
  simp only [h32, if_false, false_and]
  split
  · rfl
  · cases nameP rest with
    | none => rfl
    | some p => simp only [opN, Bool.false_eq_true, false_and, if_false]
set_option maxRecDepth 100000 in
set_option maxHeartbeats 4000000 in
theorem specl2Op {s : ByteArray} {rest : List UInt8} {i : Int} (hs : s.size ≤ 1048576) (hat : AtR s (some rest) i) (w : World) :
    Calls Tryz.prog 84 #[.string s, .int .i64 i] w (SpOp s (opS rest) w) := by
  have SG0 := signX hat 32 32 rfl w hs
  have hlen := hat.len
  obtain ⟨n, rfl, h1, h2⟩ := hat.good
  clear h2
  cases hsp : hdB (isB 32) (some rest)
  · rw [hsp] at SG0
    have SG0 := Lib.hid SG0
    obtain ⟨q, hq⟩ : ∃ q, q = rest := ⟨_, rfl⟩
    have HAq := Lib.hid (show AtR s (some q) (n : Int) by rw [hq]; exact hat)
    have HOP := Lib.hid (show opS rest = if q = [] then none else opN false (nameP q) by rw [opS_ns hsp, hq])
    clear hsp hat hq
    go_enter Tryz.func84, Tryz.ntmps84
    go_wp2_with fail
    refine SG0.out.mono ?_
    rintro e w1 ⟨rfl, e1⟩
    have E1 := Lib.hid e1
    clear e1
    by_cases hq0 : q = []
    · have HXN := Lib.hid (show opS rest = none by rw [HOP.out, if_pos hq0])
      have hge : (s.size : Int) ≤ (n : Int) := by
        have := HAq.out.len
        rw [hq0] at this
        simp at this
        omega
      clear hq0
      go_wp2_with fail
      go_ret2
      rw [HXN.out]
      exact ⟨_, rfl, E1.out, fun nm r h => by cases h⟩
    · have hql := List.length_pos_iff.2 hq0
      have hge : ¬ (s.size : Int) ≤ (n : Int) := by
        have := HAq.out.len
        omega
      have HOP2 := Lib.hid (show opS rest = opN false (nameP q) by rw [HOP.out, if_neg hq0])
      have NM := Lib.hid (specl1Name hs HAq.out w1)
      clear hq0
      go_wp2_with fail
      refine NM.out.mono ?_
      rintro e w5 ⟨i5, rfl, e5, hat5⟩
      have E5 := Lib.hid (E1.out.trans e5)
      have HA5 := Lib.hid hat5
      have l5 := hat5.le hs
      clear e5 hat5
      cases hnm : nameP q with
      | none =>
        rw [hnm] at HA5 HOP2
        have hneg : i5 < 0 := HA5.out.bad.1
        have HXN := Lib.hid (show opS rest = none from HOP2.out)
        clear hnm
        go_wp2_with fail
        go_ret2
        rw [HXN.out]
        exact ⟨_, rfl, E5.out, fun nm r h => by cases h⟩
      | some p =>
        obtain ⟨nm, r'⟩ := p
        rw [hnm] at HA5 HOP2
        have hA := HA5.out
        obtain ⟨n5, rfl, hn5, hd5⟩ := hA.good
        have LV := Lib.hid (specl2Level_x (bs nm) w5)
        rw [bs_list] at LV
        clear hnm hA hd5
        by_cases hlv : opLevelF nm = 0
        · have HXN := Lib.hid (show opS rest = none by rw [HOP2.out]; simp only [opN, if_pos hlv])
          have hlv' : (opLevelF nm == 0) = true := by rw [hlv]; rfl
          go_wp2_with fail
          refine LV.out.mono ?_
          rintro e w6 ⟨rfl, e6⟩
          have E6 := Lib.hid (E5.out.trans e6)
          clear e6
          go_wp2_with fail
          go_ret2
          rw [HXN.out]
          exact ⟨_, rfl, E6.out, fun nm r h => by cases h⟩
        · have hlv' : (opLevelF nm == 0) = false := by rw [beq_eq_false_iff_ne]; exact hlv
          have HOP3 := Lib.hid (show opS rest = if isWordOp nm = true then (if false = true ∧ r'.head? = some 32 then some (nm, r'.drop 1) else none) else (if false = true then none else some (nm, r')) by rw [HOP2.out]; simp only [opN, if_neg hlv])
          go_wp2_with fail
          refine LV.out.mono ?_
          rintro e w6 ⟨rfl, e6⟩
          have E6 := Lib.hid (E5.out.trans e6)
          clear e6
          cases h1 : ((bs nm).toList == [105, 115])
          · cases h2 : ((bs nm).toList == [109, 111, 100])
            · have hw : isWordOp nm = false := by unfold isWordOp; rw [bs_list] at h1 h2; rw [h1, h2]; rfl
              have g1 : ¬ (bs nm).toList = [105, 115] := by simpa using h1
              have g2 : ¬ (bs nm).toList = [109, 111, 100] := by simpa using h2
              have HXN := Lib.hid (show opS rest = some (nm, r') by rw [HOP3.out, if_neg (by rw [hw]; decide), if_neg (by decide)])
              clear hw
              go_wp2_with fail
              go_ret2
              rw [HXN.out]
              exact ⟨(n5 : Int), rfl, E6.out, fun nm r h => by cases h; exact HA5.out⟩
            · have hw : isWordOp nm = true := by unfold isWordOp; rw [bs_list] at h1 h2; rw [h2, Bool.or_true]
              have g1 : ¬ (bs nm).toList = [105, 115] := by simpa using h1
              have g2 : (bs nm).toList = [109, 111, 100] := by simpa using h2
              have HXN := Lib.hid (show opS rest = none by rw [HOP3.out, if_pos hw, if_neg (fun h => by cases h.1)])
              clear hw
              go_wp2_with fail
              go_ret2
              rw [HXN.out]
              exact ⟨_, rfl, E6.out, fun nm r h => by cases h⟩
          · have hw : isWordOp nm = true := by unfold isWordOp; rw [bs_list] at h1; rw [h1, Bool.true_or]
            have g1 : (bs nm).toList = [105, 115] := by simpa using h1
            have HXN := Lib.hid (show opS rest = none by rw [HOP3.out, if_pos hw, if_neg (fun h => by cases h.1)])
            clear hw
            go_wp2_with fail
            go_ret2
            rw [HXN.out]
            exact ⟨_, rfl, E6.out, fun nm r h => by cases h⟩
  · rw [hsp] at SG0
    have SG0 := Lib.hid SG0
    obtain ⟨q, hq⟩ : ∃ q, rest = 32 :: q := by
      cases rest with
      | nil => cases hsp
      | cons c q => exact ⟨q, by rw [show c = 32 by simpa [hdB, isB] using hsp]⟩
    subst hq
    have HAq := Lib.hid (show AtR s (some q) ((n : Int) + 1) from AtR.next (b := 32) hat)
    have HOP := Lib.hid (opS_sp (q := q))
    have hgt : (n : Int) < (n : Int) + 1 := by omega
    have hn1 : n + 1 ≤ 1048576 := by simp only [List.length_cons] at hlen; omega
    obtain ⟨rest, hrest⟩ : ∃ rest, 32 :: q = rest := ⟨_, rfl⟩
    rw [hrest] at HOP ⊢
    clear hsp hat hrest hlen
    go_enter Tryz.func84, Tryz.ntmps84
    go_wp2_with fail
    refine SG0.out.mono ?_
    rintro e w1 ⟨rfl, e1⟩
    have E1 := Lib.hid e1
    clear e1
    by_cases hq0 : q = []
    · have HXN := Lib.hid (show opS rest = none by rw [HOP.out, if_pos hq0])
      have hge : (s.size : Int) ≤ (n : Int) + 1 := by
        have := HAq.out.len
        rw [hq0] at this
        simp at this
        omega
      clear hq0
      go_wp2_with fail
      go_ret2
      rw [HXN.out]
      exact ⟨_, rfl, E1.out, fun nm r h => by cases h⟩
    · have hql := List.length_pos_iff.2 hq0
      have hge : ¬ (s.size : Int) ≤ (n : Int) + 1 := by
        have := HAq.out.len
        omega
      have HOP2 := Lib.hid (show opS rest = opN true (nameP q) by rw [HOP.out, if_neg hq0])
      have NM := Lib.hid (specl1Name hs HAq.out w1)
      clear hq0
      go_wp2_with fail
      refine NM.out.mono ?_
      rintro e w5 ⟨i5, rfl, e5, hat5⟩
      have E5 := Lib.hid (E1.out.trans e5)
      have HA5 := Lib.hid hat5
      have l5 := hat5.le hs
      clear e5 hat5
      cases hnm : nameP q with
      | none =>
        rw [hnm] at HA5 HOP2
        have hneg : i5 < 0 := HA5.out.bad.1
        have HXN := Lib.hid (show opS rest = none from HOP2.out)
        clear hnm
        go_wp2_with fail
        go_ret2
        rw [HXN.out]
        exact ⟨_, rfl, E5.out, fun nm r h => by cases h⟩
      | some p =>
        obtain ⟨nm, r'⟩ := p
        rw [hnm] at HA5 HOP2
        have hA := HA5.out
        obtain ⟨n5, rfl, hn5, hd5⟩ := hA.good
        have LV := Lib.hid (specl2Level_x (bs nm) w5)
        rw [bs_list] at LV
        clear hnm hA hd5
        by_cases hlv : opLevelF nm = 0
        · have HXN := Lib.hid (show opS rest = none by rw [HOP2.out]; simp only [opN, if_pos hlv])
          have hlv' : (opLevelF nm == 0) = true := by rw [hlv]; rfl
          go_wp2_with fail
          refine LV.out.mono ?_
          rintro e w6 ⟨rfl, e6⟩
          have E6 := Lib.hid (E5.out.trans e6)
          clear e6
          go_wp2_with fail
          go_ret2
          rw [HXN.out]
          exact ⟨_, rfl, E6.out, fun nm r h => by cases h⟩
        · have hlv' : (opLevelF nm == 0) = false := by rw [beq_eq_false_iff_ne]; exact hlv
          have HOP3 := Lib.hid (show opS rest = if isWordOp nm = true then (if true = true ∧ r'.head? = some 32 then some (nm, r'.drop 1) else none) else (if true = true then none else some (nm, r')) by rw [HOP2.out]; simp only [opN, if_neg hlv])
          go_wp2_with fail
          refine LV.out.mono ?_
          rintro e w6 ⟨rfl, e6⟩
          have E6 := Lib.hid (E5.out.trans e6)
          clear e6
          cases h1 : ((bs nm).toList == [105, 115])
          · cases h2 : ((bs nm).toList == [109, 111, 100])
            · have hw : isWordOp nm = false := by unfold isWordOp; rw [bs_list] at h1 h2; rw [h1, h2]; rfl
              have g1 : ¬ (bs nm).toList = [105, 115] := by simpa using h1
              have g2 : ¬ (bs nm).toList = [109, 111, 100] := by simpa using h2
              have HXN := Lib.hid (show opS rest = none by rw [HOP3.out, if_neg (by rw [hw]; decide)]; simp)
              clear hw
              go_wp2_with fail
              go_ret2
              rw [HXN.out]
              exact ⟨_, rfl, E6.out, fun nm r h => by cases h⟩
            · have hw : isWordOp nm = true := by unfold isWordOp; rw [bs_list] at h1 h2; rw [h2, Bool.or_true]
              have g1 : ¬ (bs nm).toList = [105, 115] := by simpa using h1
              have g2 : (bs nm).toList = [109, 111, 100] := by simpa using h2
              have SG := signX HA5.out 32 32 rfl w6 hs
              cases h32 : hdB (isB 32) ((some (nm, r')).map Prod.snd)
              · rw [h32] at SG
                have SG := Lib.hid SG
                have HXN := Lib.hid (show opS rest = none by
                  rw [HOP3.out, if_pos hw, if_neg]
                  rintro ⟨_, h⟩
                  cases r' with
                  | nil => cases h
                  | cons c q' =>
                    have hc : c = 32 := by simpa using h
                    rw [hc] at h32
                    exact absurd h32 (by simp [hdB, isB]))
                clear h32 hw
                go_wp2_with fail
                refine SG.out.mono ?_
                rintro e w7 ⟨rfl, e7⟩
                have E7 := Lib.hid (E6.out.trans e7)
                clear e7
                go_wp2_with fail
                go_ret2
                rw [HXN.out]
                exact ⟨_, rfl, E7.out, fun nm r h => by cases h⟩
              · rw [h32] at SG
                have SG := Lib.hid SG
                obtain ⟨q', hq'⟩ : ∃ q', r' = 32 :: q' := by
                  cases r' with
                  | nil => cases h32
                  | cons c q' => exact ⟨q', by rw [show c = 32 by simpa [hdB, isB] using h32]⟩
                have HXN := Lib.hid (show opS rest = some (nm, q') by rw [HOP3.out, if_pos hw, hq']; simp)
                have HAN := Lib.hid (show AtR s (some q') ((n5 : Int) + 1) from AtR.next (b := 32) (by have := HA5.out; rw [hq'] at this; exact this))
                clear h32 hw hq'
                go_wp2_with fail
                refine SG.out.mono ?_
                rintro e w7 ⟨rfl, e7⟩
                have E7 := Lib.hid (E6.out.trans e7)
                clear e7
                go_wp2_with fail
                go_ret2
                rw [HXN.out]
                exact ⟨(n5 : Int) + 1, rfl, E7.out, fun nm r h => by cases h; exact HAN.out⟩
          · have hw : isWordOp nm = true := by unfold isWordOp; rw [bs_list] at h1; rw [h1, Bool.true_or]
            have g1 : (bs nm).toList = [105, 115] := by simpa using h1
            have SG := signX HA5.out 32 32 rfl w6 hs
            cases h32 : hdB (isB 32) ((some (nm, r')).map Prod.snd)
            · rw [h32] at SG
              have SG := Lib.hid SG
              have HXN := Lib.hid (show opS rest = none by
                rw [HOP3.out, if_pos hw, if_neg]
                rintro ⟨_, h⟩
                cases r' with
                | nil => cases h
                | cons c q' =>
                  have hc : c = 32 := by simpa using h
                  rw [hc] at h32
                  exact absurd h32 (by simp [hdB, isB]))
              clear h32 hw
              go_wp2_with fail
              refine SG.out.mono ?_
              rintro e w7 ⟨rfl, e7⟩
              have E7 := Lib.hid (E6.out.trans e7)
              clear e7
              go_wp2_with fail
              go_ret2
              rw [HXN.out]
              exact ⟨_, rfl, E7.out, fun nm r h => by cases h⟩
            · rw [h32] at SG
              have SG := Lib.hid SG
              obtain ⟨q', hq'⟩ : ∃ q', r' = 32 :: q' := by
                cases r' with
                | nil => cases h32
                | cons c q' => exact ⟨q', by rw [show c = 32 by simpa [hdB, isB] using h32]⟩
              have HXN := Lib.hid (show opS rest = some (nm, q') by rw [HOP3.out, if_pos hw, hq']; simp)
              have HAN := Lib.hid (show AtR s (some q') ((n5 : Int) + 1) from AtR.next (b := 32) (by have := HA5.out; rw [hq'] at this; exact this))
              clear h32 hw hq'
              go_wp2_with fail
              refine SG.out.mono ?_
              rintro e w7 ⟨rfl, e7⟩
              have E7 := Lib.hid (E6.out.trans e7)
              clear e7
              go_wp2_with fail
              go_ret2
              rw [HXN.out]
              exact ⟨(n5 : Int) + 1, rfl, E7.out, fun nm r h => by cases h; exact HAN.out⟩
end Go.Proofs.YtognkaebiafgbaaGreat
