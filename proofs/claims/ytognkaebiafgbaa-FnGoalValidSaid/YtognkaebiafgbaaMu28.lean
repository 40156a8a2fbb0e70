/-
  The reference's readers: l1Number.
-/
import Derived.Test.YtognkaebiafgbaaMu27
namespace Go.Proofs.Ytognkaebiafgbaa
open Go.RowKit
set_option linter.unusedVariables false
def zTm : Tm := .mk 0 0 ⟨#[]⟩ []
theorem own_fr0 {M : Nat → Prop} {S : Nat → Prop} {w Z : World} {k n : Int} {nm : ByteArray} {a : Option Addr} {c : Nat} (f : Fr M w Z) (h : Tm.at S w (.mk k n nm []) (.agg #[.int .i64 k, .int .i64 n, .string nm, .slice a 0 c])) : Tm.at S Z (.mk k n nm []) (.agg #[.int .i64 k, .int .i64 n, .string nm, .slice a 0 c]) := by
  obtain ⟨h1, sv, h2, h3⟩ := Tm.at_iff.1 h
  refine Tm.at_iff.2 ⟨h1, sv, h2, ?_⟩
  obtain ⟨a', c', rfl, e1, e2, e3, e4⟩ := h3
  exact ⟨a', c', rfl, e1, e2, e3, .inl rfl⟩
set_option maxRecDepth 100000 in
set_option maxHeartbeats 3000000 in
theorem specl1Number {s : ByteArray} {b : UInt8} {r : List UInt8} {i : Int} (hs : s.size ≤ 1048576) (hat : AtR s (some (b :: r)) i) (hst : numStart (b :: r) = true) (w : World) :
    Calls Try.prog 71 #[.string s, .int .i64 i] w (SpTm s (numP (b :: r)) w) := by
  obtain ⟨ds, rest, hsp, hd, hne, hr⟩ := num_split hst
  have hlaw := numP_law (b == 45) ds rest hd hne hr
  rw [← hsp] at hlaw
  have SG := Lib.hid (signX hat 45 45 rfl (w.alloc (.cells #[.int .i64 0, .int .i64 0, .string ⟨#[]⟩, .slice none 0 0] 25)) hs)
  obtain ⟨n, rfl, h1, h2⟩ := hat.good
  have hneq : hdB (isB 45) (some (b :: r)) = (b == 45) := by
    show decide (b = 45) = (b == 45)
    rw [Bool.eq_iff_iff]; simp
  rw [hneq] at SG
  clear hst hneq hat
  have hne4 : ds.take 4 ≠ [] := by
    cases ds with
    | nil => exact absurd rfl hne
    | cons c l => simp
  have hl4 : (ds.take 4).length ≤ 4 := by rw [List.length_take]; omega
  have hv9 : valD (ds.take 4) ≤ 9999 := by have := val_bd (hd.take 4) hl4 4; rwa [List.take_take] at this
  obtain ⟨v, hv⟩ : ∃ v, valD (ds.take 4) = v := ⟨_, rfl⟩
  rw [hv] at hv9
  have hlen : n + (b :: r).length = s.size := by
    have := congrArg List.length h2
    rw [List.length_drop, bl_len] at this
    omega
  rw [hsp] at h2 hlen
  cases hneg : (b == 45)
  · have hb45 : (b == 45) = false := hneg
    rw [hneg] at hlaw SG h2 hlen
    have HF := Lib.hid (show s.toList.drop n = ds ++ rest by rw [h2]; rfl)
    have hfl : n + (ds.length + rest.length) = s.size := by simp only [sgD, Bool.false_eq_true, if_false, List.length_append] at hlen; omega
    have HLAW := Lib.hid hlaw
    clear hlaw
    have HD := Lib.hid hd
    have HR := Lib.hid hr
    have HV := Lib.hid hv
    clear hv
    clear h2 hlen hd hr hsp hneg hb45
    go_enter Try.func71, Try.ntmps71
    go_wp2_with fail
    refine SG.out.mono ?_
    rintro e w1 ⟨rfl, e1⟩
    have HZ1 := Lib.hid ((BoxT.new w (.int .i64 0) (.int .i64 0) (.string ⟨#[]⟩) (.slice none 0 0) 25 rfl).ext e1)
    have E1 := Lib.hid ((Ext.alloc w (.cells #[.int .i64 0, .int .i64 0, .string ⟨#[]⟩, .slice none 0 0] 25)).trans e1)
    clear e1
    go_wp2_with fail
    go_loopw [6] (fun ev wr => ∃ k : Nat, k ≤ 4 ∧ k ≤ ds.length ∧ ev = .int .i64 ((n + k : Nat) : Int) ∧ Hid (Ext w wr) ∧ Hid (BoxT wr w.heap.size (.int .i64 0) (.int .i64 0) (.string ⟨#[]⟩) (.slice none 0 0))) (fun ev _ => n + 4 - (intOf ev).toNat)
    case atStart => exact ⟨0, by omega, by omega, rfl, E1, HZ1⟩
    case round =>
      obtain ⟨k, hk4, hkl, rfl, HE, HB⟩ := hrel
      have HA := AtR.mk (s := s) (n := n + k) (by omega) (drop_app HF.out k hkl)
      have DG := digitX HA wr hs
      rw [hd_take HD.out HR.out hkl] at DG
      have lz := HB.out.lt
      clear HA
      by_cases hgo : k < ds.length
      · rw [decide_eq_true hgo] at DG
        have DG := Lib.hid DG
        by_cases h4 : k < 4
        · have c1 : ((n + k : Nat) : Int) < (n : Int) + 4 := by omega
          go_wp2_with fail
          refine DG.out.mono ?_
          rintro e w2 ⟨rfl, e2⟩
          have E2 := Lib.hid (HE.out.trans e2)
          have Z2 := Lib.hid (HB.out.ext e2)
          clear e2
          go_wp2_with fail
          exact ⟨⟨k + 1, by omega, by omega, by go_num, E2, Z2⟩, by simp [intOf]; omega⟩
        · have c1 : ¬ ((n + k : Nat) : Int) < (n : Int) + 4 := by omega
          have DG := DG
          have hk : ds.take k = ds.take 4 := take_four hkl (fun h => h4 h.2) hk4
          have hex : s.extract n (n + k) = bs (ds.take 4) := by rw [← hk]; exact ext_bs' (l := ds.take k) (r := ds.drop k ++ rest) (by rw [HF.out, ← List.append_assoc, List.take_append_drop]) (by rw [List.length_take]; omega)
          have hkc : n + k ≤ s.size := by omega
          have HK := Lib.hid hk
          clear hk
          have HD4 := Lib.hid (HD.out.take 4)
          go_wp2_with fail
          refine DG.out.mono ?_
          rintro e w2 ⟨rfl, e2⟩
          have e02 := HE.out.trans e2
          cases hcan : canon (ds.take 4)
          · have N18 := Lib.hid (specl18Num (ds.take 4) w2 HD4.out hne4 hl4 0 false (fun h => by rw [hcan] at h; cases h) (fun _ => ⟨rfl, rfl⟩))
            have HX := Lib.hid (show numP (b :: r) = none by rw [HLAW.out, if_neg (fun h => by have := (numOk_iff.1 h).1; rw [hcan] at this; cases this)])
            clear hcan
            go_wp2_with fail
            refine N18.out.mono ?_
            rintro e w3 ⟨rfl, e3⟩
            have Z3 := Lib.hid ((HB.out.ext e2).ext e3)
            have E3 := Lib.hid (e02.trans e3)
            have z := Z3.out
            have lz3 := z.lt
            obtain ⟨z0, z1, z2, z3, y0, y1, y2, y3⟩ := z
            clear e2 e02 e3
            go_wp2_with fail
            refine ret4b_set (p := 4) (q := 5) (T := 25) (b := w.heap.size) (v0 := .int .i64 0) (v1 := .int .i64 0) (v2 := .string ⟨#[]⟩) (v3 := .slice none 0 0) (y := .int .i64 (-1)) (by kernel_rfl) (fun _ => by kernel_rfl) (fun _ => by kernel_rfl) rfl rfl rfl Z3.out ?_
            intro Z fZ
            rw [HX.out]
            exact ⟨zTm, none, 0, -1, rfl, at_zero _ _ _ _ _ (by decide), ((Fr.of_ext E3.out).trans fZ).toExt (fun q hq h => by omega), AtR.no (by decide) (by decide), fun u r h => by cases h⟩
          · have N18 := Lib.hid (specl18Num (ds.take 4) w2 HD4.out hne4 hl4 (v : Int) true (fun _ => ⟨by rw [HV.out], rfl⟩) (fun h => by rw [hcan] at h; cases h))
            have hiff : numOk false (ds.take 4) = true ↔ ¬ (false = true ∧ v = 0) ∧ v ≤ 999 := by rw [numOk_iff, hcan, HV.out]; simp
            have HIQ := Lib.hid hiff
            clear hiff
            by_cases h9 : 999 < v
            · have HX := Lib.hid (show numP (b :: r) = none by rw [HLAW.out, if_neg (fun h => by have h9 := HIQ.out.1 h; omega)])
              clear hcan
              go_wp2_with fail
              refine N18.out.mono ?_
              rintro e w3 ⟨rfl, e3⟩
              have Z3 := Lib.hid ((HB.out.ext e2).ext e3)
              have E3 := Lib.hid (e02.trans e3)
              have z := Z3.out
              have lz3 := z.lt
              obtain ⟨z0, z1, z2, z3, y0, y1, y2, y3⟩ := z
              clear e2 e02 e3
              go_wp2_with fail
              refine ret4b_set (p := 4) (q := 5) (T := 25) (b := w.heap.size) (v0 := .int .i64 0) (v1 := .int .i64 0) (v2 := .string ⟨#[]⟩) (v3 := .slice none 0 0) (y := .int .i64 (-1)) (by kernel_rfl) (fun _ => by kernel_rfl) (fun _ => by kernel_rfl) rfl rfl rfl Z3.out ?_
              intro Z fZ
              rw [HX.out]
              exact ⟨zTm, none, 0, -1, rfl, at_zero _ _ _ _ _ (by decide), ((Fr.of_ext E3.out).trans fZ).toExt (fun q hq h => by omega), AtR.no (by decide) (by decide), fun u r h => by cases h⟩
            · have hok : numOk false (ds.take 4) = true := HIQ.out.2 ⟨(fun h => by cases h.1), by omega⟩
              have HX := Lib.hid (show numP (b :: r) = some (nT ((v : Int)), rest) by rw [HLAW.out, if_pos hok]; unfold numV; rw [HV.out]; rfl)
              have h3 := numOk_len HD.out hok
              have hkd : k = ds.length := by
                have := congrArg List.length HK.out
                rw [List.length_take, List.length_take] at this
                omega
              have HA2 := Lib.hid (show AtR s (some rest) ((n + k : Nat) : Int) from AtR.mk (by omega) (by rw [drop_app HF.out k hkl, hkd, List.drop_length, List.nil_append]))
              clear hcan hok hkd h3
              go_wp2_with fail
              refine N18.out.mono ?_
              rintro e w3 ⟨rfl, e3⟩
              have Z3 := Lib.hid ((HB.out.ext e2).ext e3)
              have E3 := Lib.hid (e02.trans e3)
              have z := Z3.out
              have lz3 := z.lt
              obtain ⟨z0, z1, z2, z3, y0, y1, y2, y3⟩ := z
              clear e2 e02 e3
              go_wp2_with fail
              refine (specl1Int ((v : Int)) w3).mono ?_
              rintro e w4 ⟨v4, rfl, hat4, e4⟩
              obtain ⟨a4, c4, hf4⟩ := at_form (hat4 (fun b => w.heap.size ≤ b))
              simp only [Tm.kind, Tm.n, Tm.name, Tm.kids, List.length_nil] at hf4
              have A4 := Lib.hid (hat4 (fun b => w.heap.size ≤ b))
              subst hf4
              have Z4 := Lib.hid (Z3.out.ext e4)
              have E4 := Lib.hid (E3.out.trans e4)
              have z := Z4.out
              have lz4 := z.lt
              clear z0 z1 z2 z3 y0 y1 y2 y3 hat4 e4
              obtain ⟨z0, z1, z2, z3, y0, y1, y2, y3⟩ := z
              go_wp2_with fail
              refine ret4b_set (p := 4) (q := 5) (T := 25) (b := w.heap.size) (y := .int .i64 ((n + k : Nat) : Int)) (by kernel_rfl) (fun _ => by kernel_rfl) (fun _ => by kernel_rfl) rfl rfl rfl Z4.out ?_
              intro Z fZ
              rw [HX.out]
              exact ⟨nT ((v : Int)), a4, c4, _, rfl, Tm.at_mono (fun _ h => h) (Agree.refl _) (own_fr0 fZ A4.out), ((Fr.of_ext E4.out).trans fZ).toExt (fun q hq h => by omega), HA2.out, fun u r h => by cases h; rfl⟩
      · rw [decide_eq_false hgo] at DG
        have DG := Lib.hid DG
        have hk : ds.take k = ds.take 4 := take_four hkl (fun h => hgo h.1) hk4
        have hex : s.extract n (n + k) = bs (ds.take 4) := by rw [← hk]; exact ext_bs' (l := ds.take k) (r := ds.drop k ++ rest) (by rw [HF.out, ← List.append_assoc, List.take_append_drop]) (by rw [List.length_take]; omega)
        have hkc : n + k ≤ s.size := by omega
        have HK := Lib.hid hk
        clear hk
        have HD4 := Lib.hid (HD.out.take 4)
        go_wp2_with fail
        refine DG.out.mono ?_
        rintro e w2 ⟨rfl, e2⟩
        have e02 := HE.out.trans e2
        cases hcan : canon (ds.take 4)
        · have N18 := Lib.hid (specl18Num (ds.take 4) w2 HD4.out hne4 hl4 0 false (fun h => by rw [hcan] at h; cases h) (fun _ => ⟨rfl, rfl⟩))
          have HX := Lib.hid (show numP (b :: r) = none by rw [HLAW.out, if_neg (fun h => by have := (numOk_iff.1 h).1; rw [hcan] at this; cases this)])
          clear hcan
          go_wp2_with fail
          refine N18.out.mono ?_
          rintro e w3 ⟨rfl, e3⟩
          have Z3 := Lib.hid ((HB.out.ext e2).ext e3)
          have E3 := Lib.hid (e02.trans e3)
          have z := Z3.out
          have lz3 := z.lt
          obtain ⟨z0, z1, z2, z3, y0, y1, y2, y3⟩ := z
          clear e2 e02 e3
          go_wp2_with fail
          refine ret4b_set (p := 4) (q := 5) (T := 25) (b := w.heap.size) (v0 := .int .i64 0) (v1 := .int .i64 0) (v2 := .string ⟨#[]⟩) (v3 := .slice none 0 0) (y := .int .i64 (-1)) (by kernel_rfl) (fun _ => by kernel_rfl) (fun _ => by kernel_rfl) rfl rfl rfl Z3.out ?_
          intro Z fZ
          rw [HX.out]
          exact ⟨zTm, none, 0, -1, rfl, at_zero _ _ _ _ _ (by decide), ((Fr.of_ext E3.out).trans fZ).toExt (fun q hq h => by omega), AtR.no (by decide) (by decide), fun u r h => by cases h⟩
        · have N18 := Lib.hid (specl18Num (ds.take 4) w2 HD4.out hne4 hl4 (v : Int) true (fun _ => ⟨by rw [HV.out], rfl⟩) (fun h => by rw [hcan] at h; cases h))
          have hiff : numOk false (ds.take 4) = true ↔ ¬ (false = true ∧ v = 0) ∧ v ≤ 999 := by rw [numOk_iff, hcan, HV.out]; simp
          have HIQ := Lib.hid hiff
          clear hiff
          by_cases h9 : 999 < v
          · have HX := Lib.hid (show numP (b :: r) = none by rw [HLAW.out, if_neg (fun h => by have h9 := HIQ.out.1 h; omega)])
            clear hcan
            go_wp2_with fail
            refine N18.out.mono ?_
            rintro e w3 ⟨rfl, e3⟩
            have Z3 := Lib.hid ((HB.out.ext e2).ext e3)
            have E3 := Lib.hid (e02.trans e3)
            have z := Z3.out
            have lz3 := z.lt
            obtain ⟨z0, z1, z2, z3, y0, y1, y2, y3⟩ := z
            clear e2 e02 e3
            go_wp2_with fail
            refine ret4b_set (p := 4) (q := 5) (T := 25) (b := w.heap.size) (v0 := .int .i64 0) (v1 := .int .i64 0) (v2 := .string ⟨#[]⟩) (v3 := .slice none 0 0) (y := .int .i64 (-1)) (by kernel_rfl) (fun _ => by kernel_rfl) (fun _ => by kernel_rfl) rfl rfl rfl Z3.out ?_
            intro Z fZ
            rw [HX.out]
            exact ⟨zTm, none, 0, -1, rfl, at_zero _ _ _ _ _ (by decide), ((Fr.of_ext E3.out).trans fZ).toExt (fun q hq h => by omega), AtR.no (by decide) (by decide), fun u r h => by cases h⟩
          · have hok : numOk false (ds.take 4) = true := HIQ.out.2 ⟨(fun h => by cases h.1), by omega⟩
            have HX := Lib.hid (show numP (b :: r) = some (nT ((v : Int)), rest) by rw [HLAW.out, if_pos hok]; unfold numV; rw [HV.out]; rfl)
            have h3 := numOk_len HD.out hok
            have hkd : k = ds.length := by
              have := congrArg List.length HK.out
              rw [List.length_take, List.length_take] at this
              omega
            have HA2 := Lib.hid (show AtR s (some rest) ((n + k : Nat) : Int) from AtR.mk (by omega) (by rw [drop_app HF.out k hkl, hkd, List.drop_length, List.nil_append]))
            clear hcan hok hkd h3
            go_wp2_with fail
            refine N18.out.mono ?_
            rintro e w3 ⟨rfl, e3⟩
            have Z3 := Lib.hid ((HB.out.ext e2).ext e3)
            have E3 := Lib.hid (e02.trans e3)
            have z := Z3.out
            have lz3 := z.lt
            obtain ⟨z0, z1, z2, z3, y0, y1, y2, y3⟩ := z
            clear e2 e02 e3
            go_wp2_with fail
            refine (specl1Int ((v : Int)) w3).mono ?_
            rintro e w4 ⟨v4, rfl, hat4, e4⟩
            obtain ⟨a4, c4, hf4⟩ := at_form (hat4 (fun b => w.heap.size ≤ b))
            simp only [Tm.kind, Tm.n, Tm.name, Tm.kids, List.length_nil] at hf4
            have A4 := Lib.hid (hat4 (fun b => w.heap.size ≤ b))
            subst hf4
            have Z4 := Lib.hid (Z3.out.ext e4)
            have E4 := Lib.hid (E3.out.trans e4)
            have z := Z4.out
            have lz4 := z.lt
            clear z0 z1 z2 z3 y0 y1 y2 y3 hat4 e4
            obtain ⟨z0, z1, z2, z3, y0, y1, y2, y3⟩ := z
            go_wp2_with fail
            refine ret4b_set (p := 4) (q := 5) (T := 25) (b := w.heap.size) (y := .int .i64 ((n + k : Nat) : Int)) (by kernel_rfl) (fun _ => by kernel_rfl) (fun _ => by kernel_rfl) rfl rfl rfl Z4.out ?_
            intro Z fZ
            rw [HX.out]
            exact ⟨nT ((v : Int)), a4, c4, _, rfl, Tm.at_mono (fun _ h => h) (Agree.refl _) (own_fr0 fZ A4.out), ((Fr.of_ext E4.out).trans fZ).toExt (fun q hq h => by omega), HA2.out, fun u r h => by cases h; rfl⟩
  · have hb45 : (b == 45) = true := hneg
    rw [hneg] at hlaw SG h2 hlen
    have HF := Lib.hid (show s.toList.drop (n + 1) = ds ++ rest by rw [← List.drop_drop, h2]; rfl)
    have hfl : (n + 1) + (ds.length + rest.length) = s.size := by simp only [sgD, if_true, List.length_append, List.length_cons] at hlen; omega
    have HLAW := Lib.hid hlaw
    clear hlaw
    have HD := Lib.hid hd
    have HR := Lib.hid hr
    have HV := Lib.hid hv
    clear hv
    clear h2 hlen hd hr hsp hneg hb45
    go_enter Try.func71, Try.ntmps71
    go_wp2_with fail
    refine SG.out.mono ?_
    rintro e w1 ⟨rfl, e1⟩
    have HZ1 := Lib.hid ((BoxT.new w (.int .i64 0) (.int .i64 0) (.string ⟨#[]⟩) (.slice none 0 0) 25 rfl).ext e1)
    have E1 := Lib.hid ((Ext.alloc w (.cells #[.int .i64 0, .int .i64 0, .string ⟨#[]⟩, .slice none 0 0] 25)).trans e1)
    clear e1
    go_wp2_with fail
    go_loopw [6] (fun ev wr => ∃ k : Nat, k ≤ 4 ∧ k ≤ ds.length ∧ ev = .int .i64 (((n + 1) + k : Nat) : Int) ∧ Hid (Ext w wr) ∧ Hid (BoxT wr w.heap.size (.int .i64 0) (.int .i64 0) (.string ⟨#[]⟩) (.slice none 0 0))) (fun ev _ => (n + 1) + 4 - (intOf ev).toNat)
    case atStart => exact ⟨0, by omega, by omega, rfl, E1, HZ1⟩
    case round =>
      obtain ⟨k, hk4, hkl, rfl, HE, HB⟩ := hrel
      have HA := AtR.mk (s := s) (n := (n + 1) + k) (by omega) (drop_app HF.out k hkl)
      have DG := digitX HA wr hs
      rw [hd_take HD.out HR.out hkl] at DG
      have lz := HB.out.lt
      clear HA
      by_cases hgo : k < ds.length
      · rw [decide_eq_true hgo] at DG
        have DG := Lib.hid DG
        by_cases h4 : k < 4
        · have c1 : (((n + 1) + k : Nat) : Int) < ((n : Int) + 1) + 4 := by omega
          go_wp2_with fail
          refine DG.out.mono ?_
          rintro e w2 ⟨rfl, e2⟩
          have E2 := Lib.hid (HE.out.trans e2)
          have Z2 := Lib.hid (HB.out.ext e2)
          clear e2
          go_wp2_with fail
          exact ⟨⟨k + 1, by omega, by omega, by go_num, E2, Z2⟩, by simp [intOf]; omega⟩
        · have c1 : ¬ (((n + 1) + k : Nat) : Int) < ((n : Int) + 1) + 4 := by omega
          have DG := DG
          have hk : ds.take k = ds.take 4 := take_four hkl (fun h => h4 h.2) hk4
          have hex : s.extract (n + 1) ((n + 1) + k) = bs (ds.take 4) := by rw [← hk]; exact ext_bs' (l := ds.take k) (r := ds.drop k ++ rest) (by rw [HF.out, ← List.append_assoc, List.take_append_drop]) (by rw [List.length_take]; omega)
          have hkc : (n + 1) + k ≤ s.size := by omega
          have HK := Lib.hid hk
          clear hk
          have HD4 := Lib.hid (HD.out.take 4)
          go_wp2_with fail
          refine DG.out.mono ?_
          rintro e w2 ⟨rfl, e2⟩
          have e02 := HE.out.trans e2
          cases hcan : canon (ds.take 4)
          · have N18 := Lib.hid (specl18Num (ds.take 4) w2 HD4.out hne4 hl4 0 false (fun h => by rw [hcan] at h; cases h) (fun _ => ⟨rfl, rfl⟩))
            have HX := Lib.hid (show numP (b :: r) = none by rw [HLAW.out, if_neg (fun h => by have := (numOk_iff.1 h).1; rw [hcan] at this; cases this)])
            clear hcan
            go_wp2_with fail
            refine N18.out.mono ?_
            rintro e w3 ⟨rfl, e3⟩
            have Z3 := Lib.hid ((HB.out.ext e2).ext e3)
            have E3 := Lib.hid (e02.trans e3)
            have z := Z3.out
            have lz3 := z.lt
            obtain ⟨z0, z1, z2, z3, y0, y1, y2, y3⟩ := z
            clear e2 e02 e3
            go_wp2_with fail
            refine ret4b_set (p := 4) (q := 5) (T := 25) (b := w.heap.size) (v0 := .int .i64 0) (v1 := .int .i64 0) (v2 := .string ⟨#[]⟩) (v3 := .slice none 0 0) (y := .int .i64 (-1)) (by kernel_rfl) (fun _ => by kernel_rfl) (fun _ => by kernel_rfl) rfl rfl rfl Z3.out ?_
            intro Z fZ
            rw [HX.out]
            exact ⟨zTm, none, 0, -1, rfl, at_zero _ _ _ _ _ (by decide), ((Fr.of_ext E3.out).trans fZ).toExt (fun q hq h => by omega), AtR.no (by decide) (by decide), fun u r h => by cases h⟩
          · have N18 := Lib.hid (specl18Num (ds.take 4) w2 HD4.out hne4 hl4 (v : Int) true (fun _ => ⟨by rw [HV.out], rfl⟩) (fun h => by rw [hcan] at h; cases h))
            have hiff : numOk true (ds.take 4) = true ↔ ¬ (true = true ∧ v = 0) ∧ v ≤ 999 := by rw [numOk_iff, hcan, HV.out]; simp
            have HIQ := Lib.hid hiff
            clear hiff
            by_cases h0 : v = 0
            · subst h0
              have HX := Lib.hid (show numP (b :: r) = none by rw [HLAW.out, if_neg (fun h => by have h9 := HIQ.out.1 h; exact h9.1 ⟨rfl, rfl⟩)])
              clear hcan
              go_wp2_with fail
              refine N18.out.mono ?_
              rintro e w3 ⟨rfl, e3⟩
              have Z3 := Lib.hid ((HB.out.ext e2).ext e3)
              have E3 := Lib.hid (e02.trans e3)
              have z := Z3.out
              have lz3 := z.lt
              obtain ⟨z0, z1, z2, z3, y0, y1, y2, y3⟩ := z
              clear e2 e02 e3
              go_wp2_with fail
              refine ret4b_set (p := 4) (q := 5) (T := 25) (b := w.heap.size) (v0 := .int .i64 0) (v1 := .int .i64 0) (v2 := .string ⟨#[]⟩) (v3 := .slice none 0 0) (y := .int .i64 (-1)) (by kernel_rfl) (fun _ => by kernel_rfl) (fun _ => by kernel_rfl) rfl rfl rfl Z3.out ?_
              intro Z fZ
              rw [HX.out]
              exact ⟨zTm, none, 0, -1, rfl, at_zero _ _ _ _ _ (by decide), ((Fr.of_ext E3.out).trans fZ).toExt (fun q hq h => by omega), AtR.no (by decide) (by decide), fun u r h => by cases h⟩
            · have h0i : ((v : Int) == 0) = false := by rw [beq_eq_false_iff_ne]; omega
              by_cases h9 : 999 < v
              · have HX := Lib.hid (show numP (b :: r) = none by rw [HLAW.out, if_neg (fun h => by have h9 := HIQ.out.1 h; omega)])
                clear hcan
                go_wp2_with fail
                refine N18.out.mono ?_
                rintro e w3 ⟨rfl, e3⟩
                have Z3 := Lib.hid ((HB.out.ext e2).ext e3)
                have E3 := Lib.hid (e02.trans e3)
                have z := Z3.out
                have lz3 := z.lt
                obtain ⟨z0, z1, z2, z3, y0, y1, y2, y3⟩ := z
                clear e2 e02 e3
                go_wp2_with fail
                refine ret4b_set (p := 4) (q := 5) (T := 25) (b := w.heap.size) (v0 := .int .i64 0) (v1 := .int .i64 0) (v2 := .string ⟨#[]⟩) (v3 := .slice none 0 0) (y := .int .i64 (-1)) (by kernel_rfl) (fun _ => by kernel_rfl) (fun _ => by kernel_rfl) rfl rfl rfl Z3.out ?_
                intro Z fZ
                rw [HX.out]
                exact ⟨zTm, none, 0, -1, rfl, at_zero _ _ _ _ _ (by decide), ((Fr.of_ext E3.out).trans fZ).toExt (fun q hq h => by omega), AtR.no (by decide) (by decide), fun u r h => by cases h⟩
              · have hok : numOk true (ds.take 4) = true := HIQ.out.2 ⟨(fun h => h0 h.2), by omega⟩
                have HX := Lib.hid (show numP (b :: r) = some (nT (-(v : Int)), rest) by rw [HLAW.out, if_pos hok]; unfold numV; rw [HV.out]; rfl)
                have h3 := numOk_len HD.out hok
                have hkd : k = ds.length := by
                  have := congrArg List.length HK.out
                  rw [List.length_take, List.length_take] at this
                  omega
                have HA2 := Lib.hid (show AtR s (some rest) (((n + 1) + k : Nat) : Int) from AtR.mk (by omega) (by rw [drop_app HF.out k hkl, hkd, List.drop_length, List.nil_append]))
                clear hcan hok hkd h3
                go_wp2_with fail
                refine N18.out.mono ?_
                rintro e w3 ⟨rfl, e3⟩
                have Z3 := Lib.hid ((HB.out.ext e2).ext e3)
                have E3 := Lib.hid (e02.trans e3)
                have z := Z3.out
                have lz3 := z.lt
                obtain ⟨z0, z1, z2, z3, y0, y1, y2, y3⟩ := z
                clear e2 e02 e3
                go_wp2_with fail
                refine (specl1Int (-(v : Int)) w3).mono ?_
                rintro e w4 ⟨v4, rfl, hat4, e4⟩
                obtain ⟨a4, c4, hf4⟩ := at_form (hat4 (fun b => w.heap.size ≤ b))
                simp only [Tm.kind, Tm.n, Tm.name, Tm.kids, List.length_nil] at hf4
                have A4 := Lib.hid (hat4 (fun b => w.heap.size ≤ b))
                subst hf4
                have Z4 := Lib.hid (Z3.out.ext e4)
                have E4 := Lib.hid (E3.out.trans e4)
                have z := Z4.out
                have lz4 := z.lt
                clear z0 z1 z2 z3 y0 y1 y2 y3 hat4 e4
                obtain ⟨z0, z1, z2, z3, y0, y1, y2, y3⟩ := z
                go_wp2_with fail
                refine ret4b_set (p := 4) (q := 5) (T := 25) (b := w.heap.size) (y := .int .i64 (((n + 1) + k : Nat) : Int)) (by kernel_rfl) (fun _ => by kernel_rfl) (fun _ => by kernel_rfl) rfl rfl rfl Z4.out ?_
                intro Z fZ
                rw [HX.out]
                exact ⟨nT (-(v : Int)), a4, c4, _, rfl, Tm.at_mono (fun _ h => h) (Agree.refl _) (own_fr0 fZ A4.out), ((Fr.of_ext E4.out).trans fZ).toExt (fun q hq h => by omega), HA2.out, fun u r h => by cases h; rfl⟩
      · rw [decide_eq_false hgo] at DG
        have DG := Lib.hid DG
        have hk : ds.take k = ds.take 4 := take_four hkl (fun h => hgo h.1) hk4
        have hex : s.extract (n + 1) ((n + 1) + k) = bs (ds.take 4) := by rw [← hk]; exact ext_bs' (l := ds.take k) (r := ds.drop k ++ rest) (by rw [HF.out, ← List.append_assoc, List.take_append_drop]) (by rw [List.length_take]; omega)
        have hkc : (n + 1) + k ≤ s.size := by omega
        have HK := Lib.hid hk
        clear hk
        have HD4 := Lib.hid (HD.out.take 4)
        go_wp2_with fail
        refine DG.out.mono ?_
        rintro e w2 ⟨rfl, e2⟩
        have e02 := HE.out.trans e2
        cases hcan : canon (ds.take 4)
        · have N18 := Lib.hid (specl18Num (ds.take 4) w2 HD4.out hne4 hl4 0 false (fun h => by rw [hcan] at h; cases h) (fun _ => ⟨rfl, rfl⟩))
          have HX := Lib.hid (show numP (b :: r) = none by rw [HLAW.out, if_neg (fun h => by have := (numOk_iff.1 h).1; rw [hcan] at this; cases this)])
          clear hcan
          go_wp2_with fail
          refine N18.out.mono ?_
          rintro e w3 ⟨rfl, e3⟩
          have Z3 := Lib.hid ((HB.out.ext e2).ext e3)
          have E3 := Lib.hid (e02.trans e3)
          have z := Z3.out
          have lz3 := z.lt
          obtain ⟨z0, z1, z2, z3, y0, y1, y2, y3⟩ := z
          clear e2 e02 e3
          go_wp2_with fail
          refine ret4b_set (p := 4) (q := 5) (T := 25) (b := w.heap.size) (v0 := .int .i64 0) (v1 := .int .i64 0) (v2 := .string ⟨#[]⟩) (v3 := .slice none 0 0) (y := .int .i64 (-1)) (by kernel_rfl) (fun _ => by kernel_rfl) (fun _ => by kernel_rfl) rfl rfl rfl Z3.out ?_
          intro Z fZ
          rw [HX.out]
          exact ⟨zTm, none, 0, -1, rfl, at_zero _ _ _ _ _ (by decide), ((Fr.of_ext E3.out).trans fZ).toExt (fun q hq h => by omega), AtR.no (by decide) (by decide), fun u r h => by cases h⟩
        · have N18 := Lib.hid (specl18Num (ds.take 4) w2 HD4.out hne4 hl4 (v : Int) true (fun _ => ⟨by rw [HV.out], rfl⟩) (fun h => by rw [hcan] at h; cases h))
          have hiff : numOk true (ds.take 4) = true ↔ ¬ (true = true ∧ v = 0) ∧ v ≤ 999 := by rw [numOk_iff, hcan, HV.out]; simp
          have HIQ := Lib.hid hiff
          clear hiff
          by_cases h0 : v = 0
          · subst h0
            have HX := Lib.hid (show numP (b :: r) = none by rw [HLAW.out, if_neg (fun h => by have h9 := HIQ.out.1 h; exact h9.1 ⟨rfl, rfl⟩)])
            clear hcan
            go_wp2_with fail
            refine N18.out.mono ?_
            rintro e w3 ⟨rfl, e3⟩
            have Z3 := Lib.hid ((HB.out.ext e2).ext e3)
            have E3 := Lib.hid (e02.trans e3)
            have z := Z3.out
            have lz3 := z.lt
            obtain ⟨z0, z1, z2, z3, y0, y1, y2, y3⟩ := z
            clear e2 e02 e3
            go_wp2_with fail
            refine ret4b_set (p := 4) (q := 5) (T := 25) (b := w.heap.size) (v0 := .int .i64 0) (v1 := .int .i64 0) (v2 := .string ⟨#[]⟩) (v3 := .slice none 0 0) (y := .int .i64 (-1)) (by kernel_rfl) (fun _ => by kernel_rfl) (fun _ => by kernel_rfl) rfl rfl rfl Z3.out ?_
            intro Z fZ
            rw [HX.out]
            exact ⟨zTm, none, 0, -1, rfl, at_zero _ _ _ _ _ (by decide), ((Fr.of_ext E3.out).trans fZ).toExt (fun q hq h => by omega), AtR.no (by decide) (by decide), fun u r h => by cases h⟩
          · have h0i : ((v : Int) == 0) = false := by rw [beq_eq_false_iff_ne]; omega
            by_cases h9 : 999 < v
            · have HX := Lib.hid (show numP (b :: r) = none by rw [HLAW.out, if_neg (fun h => by have h9 := HIQ.out.1 h; omega)])
              clear hcan
              go_wp2_with fail
              refine N18.out.mono ?_
              rintro e w3 ⟨rfl, e3⟩
              have Z3 := Lib.hid ((HB.out.ext e2).ext e3)
              have E3 := Lib.hid (e02.trans e3)
              have z := Z3.out
              have lz3 := z.lt
              obtain ⟨z0, z1, z2, z3, y0, y1, y2, y3⟩ := z
              clear e2 e02 e3
              go_wp2_with fail
              refine ret4b_set (p := 4) (q := 5) (T := 25) (b := w.heap.size) (v0 := .int .i64 0) (v1 := .int .i64 0) (v2 := .string ⟨#[]⟩) (v3 := .slice none 0 0) (y := .int .i64 (-1)) (by kernel_rfl) (fun _ => by kernel_rfl) (fun _ => by kernel_rfl) rfl rfl rfl Z3.out ?_
              intro Z fZ
              rw [HX.out]
              exact ⟨zTm, none, 0, -1, rfl, at_zero _ _ _ _ _ (by decide), ((Fr.of_ext E3.out).trans fZ).toExt (fun q hq h => by omega), AtR.no (by decide) (by decide), fun u r h => by cases h⟩
            · have hok : numOk true (ds.take 4) = true := HIQ.out.2 ⟨(fun h => h0 h.2), by omega⟩
              have HX := Lib.hid (show numP (b :: r) = some (nT (-(v : Int)), rest) by rw [HLAW.out, if_pos hok]; unfold numV; rw [HV.out]; rfl)
              have h3 := numOk_len HD.out hok
              have hkd : k = ds.length := by
                have := congrArg List.length HK.out
                rw [List.length_take, List.length_take] at this
                omega
              have HA2 := Lib.hid (show AtR s (some rest) (((n + 1) + k : Nat) : Int) from AtR.mk (by omega) (by rw [drop_app HF.out k hkl, hkd, List.drop_length, List.nil_append]))
              clear hcan hok hkd h3
              go_wp2_with fail
              refine N18.out.mono ?_
              rintro e w3 ⟨rfl, e3⟩
              have Z3 := Lib.hid ((HB.out.ext e2).ext e3)
              have E3 := Lib.hid (e02.trans e3)
              have z := Z3.out
              have lz3 := z.lt
              obtain ⟨z0, z1, z2, z3, y0, y1, y2, y3⟩ := z
              clear e2 e02 e3
              go_wp2_with fail
              refine (specl1Int (-(v : Int)) w3).mono ?_
              rintro e w4 ⟨v4, rfl, hat4, e4⟩
              obtain ⟨a4, c4, hf4⟩ := at_form (hat4 (fun b => w.heap.size ≤ b))
              simp only [Tm.kind, Tm.n, Tm.name, Tm.kids, List.length_nil] at hf4
              have A4 := Lib.hid (hat4 (fun b => w.heap.size ≤ b))
              subst hf4
              have Z4 := Lib.hid (Z3.out.ext e4)
              have E4 := Lib.hid (E3.out.trans e4)
              have z := Z4.out
              have lz4 := z.lt
              clear z0 z1 z2 z3 y0 y1 y2 y3 hat4 e4
              obtain ⟨z0, z1, z2, z3, y0, y1, y2, y3⟩ := z
              go_wp2_with fail
              refine ret4b_set (p := 4) (q := 5) (T := 25) (b := w.heap.size) (y := .int .i64 (((n + 1) + k : Nat) : Int)) (by kernel_rfl) (fun _ => by kernel_rfl) (fun _ => by kernel_rfl) rfl rfl rfl Z4.out ?_
              intro Z fZ
              rw [HX.out]
              exact ⟨nT (-(v : Int)), a4, c4, _, rfl, Tm.at_mono (fun _ h => h) (Agree.refl _) (own_fr0 fZ A4.out), ((Fr.of_ext E4.out).trans fZ).toExt (fun q hq h => by omega), HA2.out, fun u r h => by cases h; rfl⟩
end Go.Proofs.Ytognkaebiafgbaa
