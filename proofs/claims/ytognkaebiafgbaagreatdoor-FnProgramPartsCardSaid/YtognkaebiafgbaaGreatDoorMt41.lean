/-
  For all codes FnProgramParts returns true: both parts of a valid drawn program are valid, and their texts are the program's text, one behind the other.
-/
import Derived.Test.YtognkaebiafgbaaGreatDoorRows
import Derived.Deep.RegionHeld3
import Derived.ProofKit
import Derived.OpenShut
import Derived.ShutString
import Derived.Test.YtognkaebiafgbaaGreatDoorCards
import Derived.Test.YtognkaebiafgbaaGreatDoorTie
import Derived.LaidMore
import Derived.Lay
import Derived.SevenTiedAt
import Derived.Stop.Joined
import Derived.Stop.LaidErr
import Derived.Lib.LaidTab
import Derived.Test.YtognkaebiafgbaaGreatDoorMt40
namespace Go.Proofs.YtognkaebiafgbaaGreatDoor.fnProgramParts
open Go.ChangeShapes Go.WideShapes Go.ChangeAt Go.RowKit
open Go.ChangeMaps (open_string shut_string)
set_option linter.unusedVariables false
theorem own : ownKnob Tryz.prog.godebug = none := by kernel_rfl
theorem laidOut : laidOutB Tryz.prog = true := by kernel_rfl
theorem sl_take {S : Nat → Prop} {w : World} {cs : List Cl} {a : Option Addr} {n c k : Nat} (hn : cs.length = n) (hk : k ≤ n) (h : Cl.sl S w cs (.slice a n c)) : Cl.sl S w (cs.take k) (.slice a k c) := by
  obtain ⟨a', c', hv, h1, h2, h3, h4⟩ := h
  simp only [Value.slice.injEq] at hv
  obtain ⟨rfl, _, rfl⟩ := hv
  have hl : (cs.take k).length = k := by rw [List.length_take]; omega
  refine ⟨a, c, by rw [hl], by rw [hl]; omega, h2, by rw [hl]; omega, ?_⟩
  rcases h4 with h4 | ⟨b, off, he, hS, hrow⟩
  · exact .inl (by rw [h4]; simp)
  · refine .inr ⟨b, off, he, hS, Cl.row_of _ _ (fun i d hd => ?_)⟩
    rw [List.getElem?_take] at hd
    split at hd
    · exact Cl.row_get hrow i d hd
    · cases hd
theorem sl_drop {S : Nat → Prop} {w : World} {cs : List Cl} {g o n c k : Nat} (hn : cs.length = n) (hk : k ≤ n) (h : Cl.sl S w cs (.slice (some ⟨g, o, none⟩) n c)) : Cl.sl S w (cs.drop k) (.slice (some ⟨g, o + k * 5, none⟩) (n - k) (c - k)) := by
  obtain ⟨a', c', hv, h1, h2, h3, h4⟩ := h
  simp only [Value.slice.injEq] at hv
  obtain ⟨rfl, _, rfl⟩ := hv
  have hl : (cs.drop k).length = n - k := by rw [List.length_drop]; omega
  refine ⟨_, _, by rw [hl], by rw [hl]; omega, by omega, by rw [hl]; omega, ?_⟩
  rcases h4 with h4 | ⟨b, off, he, hS, hrow⟩
  · exact .inl (by rw [h4]; simp)
  · simp only [Option.some.injEq, Addr.mk.injEq, and_true] at he
    obtain ⟨rfl, rfl⟩ := he
    refine .inr ⟨g, o + k * 5, rfl, hS, Cl.row_of _ _ (fun i d hd => ?_)⟩
    rw [List.getElem?_drop] at hd
    have := Cl.row_get hrow (k + i) d hd
    rwa [show o + k * 5 + i * 5 = o + (k + i) * 5 by omega]
theorem sl_none {S : Nat → Prop} {w : World} (a : Option Addr) : Cl.sl S w [] (.slice a 0 0) := ⟨a, 0, rfl, Nat.le_refl _, by omega, by simp, .inl rfl⟩
theorem parts_valid {cs : List Cl} (h : prValidF cs = true) (k : Nat) : prValidF (cs.take k) = true ∧ prValidF (cs.drop k) = true := by
  obtain ⟨h1, h2⟩ := pr_mem h
  exact ⟨prValid_of (by rw [List.length_take]; omega) (fun c hc => h2 c (List.mem_of_mem_take hc)), prValid_of (by rw [List.length_drop]; omega) (fun c hc => h2 c (List.mem_of_mem_drop hc))⟩
theorem parts_text (cs : List Cl) (k : Nat) : prTxt (cs.take k) ++ prTxt (cs.drop k) = prTxt cs := by
  unfold prTxt
  rw [← List.flatten_append, ← List.map_append, List.take_append_drop]
theorem text_size {cs : List Cl} (h : prValidF cs = true) : (bs (prTxt cs)).size ≤ 700000 := by
  have := prTxt_len cs cs.length (fun j c hc => (pr_parts h).2 j c hc)
  rw [List.take_of_length_le (Nat.le_refl _)] at this
  have := (pr_mem h).1
  rw [bs_size]
  omega
set_option maxRecDepth 100000 in
set_option maxHeartbeats 4000000 in
theorem walk (v0 v1 : Value) (w : World) (htab : TabW w) (hv0 : BytesAt w v0) (hv1 : BytesAt w v1) :
    Calls Tryz.prog 6 #[v0, v1] w fun e w' => e = .returned (.bool true) ∧ Below w.heap.size w w' := by
  have HV0 := Lib.hid hv0
  have HTAB := Lib.hid htab
  clear htab
  obtain ⟨a, len, cap, rfl, h1, h2, h3⟩ := hv0
  obtain ⟨a', len', cap', rfl, h1', h2', h3'⟩ := hv1
  clear h3 h3'
  by_cases hl : len ≤ 1048576
  · by_cases hl' : len' ≤ 1048576
    · go_enter Tryz.func6, Tryz.ntmps6
      go_wp2_with fail
      refine (drawProgramValid _ _ HV0.out).mono ?_
      rintro e w1 ⟨ds, g, o, c, rfl, hd, hsl, e1⟩
      have D1 := Lib.hid hsl
      have E1 := Lib.hid e1
      clear hsl e1
      go_wp2_with fail
      refine (implProgramValid ds _ _ w1 D1.out).mono ?_
      cases hv : prValidF ds
      · rintro e w2 ⟨rfl, e2⟩
        have E2 := Lib.hid (E1.out.trans e2)
        have D2 := Lib.hid (Cl.sl_ext e2 D1.out)
        have SV := Lib.hid (fun w' (e : Ext w2 w') => hv ▸ specProgramValid ds _ _ w' (Cl.sl_ext e D2.out))
        clear e2 hv
        go_wp2_with fail
        refine (SV.out _ (Ext.refl _)).mono ?_
        rintro e w3 ⟨rfl, e3⟩
        have E3 := Lib.hid (E2.out.trans e3)
        have E23 := Lib.hid e3
        clear e3
        go_wp2_with fail
        refine (SV.out _ E23.out).mono ?_
        rintro e w4 ⟨rfl, e4⟩
        go_wp2_with fail
        go_ret
        exact ⟨rfl, E3.out.trans e4⟩
      · rintro e w2 ⟨rfl, e2⟩
        have E2 := Lib.hid (E1.out.trans e2)
        have D2 := Lib.hid (Cl.sl_ext e2 D1.out)
        have SV := Lib.hid (hv ▸ specProgramValid ds _ _ w2 D2.out)
        have HVD := Lib.hid hv
        clear e2 hv
        go_wp2_with fail
        refine SV.out.mono ?_
        rintro e w3 ⟨rfl, e3⟩
        have E3 := Lib.hid (E2.out.trans e3)
        have D3 := Lib.hid (Cl.sl_ext e3 D2.out)
        clear e3
        obtain ⟨n, hn⟩ : ∃ n, ds.length = n := ⟨_, rfl⟩
        have hn21 : n ≤ 21 := by omega
        have HN := Lib.hid hn
        rw [hn] at D3 ⊢
        obtain ⟨k, hk⟩ : ∃ k, k = len' % (n + 1) := ⟨_, rfl⟩
        have hkn : k ≤ n := by rw [hk]; have := Nat.mod_lt len' (show 0 < n + 1 by omega); omega
        have hkm : (len' : Int).tmod ((n : Int) + 1) = (k : Int) := by
          rw [hk, Int.tmod_eq_emod_of_nonneg (by omega)]
          rw [show ((n : Int) + 1) = ((n + 1 : Nat) : Int) by omega]
          rfl
        have hnz : (((n : Int) + 1) == 0) = false := by rw [beq_eq_false_iff_ne]; omega
        have hnz2 : ¬ ((n : Int) + 1) = 0 := by omega
        clear hk hn
        go_upto_region 8 with (fail)
        have hnc : n ≤ c := by
          obtain ⟨_, _, hq, q1, _⟩ := D3.out
          simp only [Value.slice.injEq] at hq
          obtain ⟨_, q2, rfl⟩ := hq
          omega
        have hcb : c ≤ 9223372036854775807 := by
          obtain ⟨_, _, hq, _, q1, _⟩ := D3.out
          simp only [Value.slice.injEq] at hq
          obtain ⟨_, _, rfl⟩ := hq
          exact q1
        have DT := Lib.hid (sl_take HN.out hkn D3.out)
        have HPV := Lib.hid (parts_valid HVD.out k)
        have HPT := Lib.hid (parts_text ds k)
        have zT := text_size HPV.out.1
        have zU := text_size HPV.out.2
        have FMT := Lib.hid (fun (cs : List Cl) (v : Value) (h : prValidF cs = true) (w' : World) (e' : Ext w3 w') (hc : Cl.sl (fun b => w.heap.size ≤ b) w3 cs v) => (show Calls Tryz.prog 27 #[v] w' (fun e w'' => e = .returned (.string (bs (prTxt cs))) ∧ Ext w' w'') by
          have q := implFormatProgram cs v _ w' (Cl.sl_ext e' hc) (HTAB.out.ext (E3.out.trans e'))
          unfold formatPrF at q
          rwa [if_pos h] at q))
        have VAL := Lib.hid (fun (cs : List Cl) (v : Value) (h : prValidF cs = true) (w' : World) (e' : Ext w3 w') (hc : Cl.sl (fun b => w.heap.size ≤ b) w3 cs v) => (show Calls Tryz.prog 29 #[v] w' (fun e w'' => e = .returned (.bool true) ∧ Ext w' w'') from h ▸ implProgramValid cs v _ w' (Cl.sl_ext e' hc)))
        have cV1 := quiet_call (w := w3) (fun w' e' => VAL.out _ _ HPV.out.1 w' e' DT.out)
        have cF1 := quiet_call (w := w3) (fun w' e' => FMT.out _ _ HPV.out.1 w' e' DT.out)
        have cF3 := quiet_call (w := w3) (fun w' e' => FMT.out _ _ HVD.out w' e' D3.out)
        by_cases hck : c = k
        · obtain rfl : n = k := by omega
          subst hck
          have HDN := Lib.hid (show ds.drop c = [] from List.drop_eq_nil_of_le (by rw [HN.out]; exact Nat.le_refl _))
          have DD := Lib.hid (show Cl.sl (fun b => w.heap.size ≤ b) w3 (ds.drop c) (.slice (some ⟨g, o, none⟩) 0 0) by rw [HDN.out]; exact sl_none _)
          have cV2 := quiet_call (w := w3) (fun w' e' => VAL.out _ _ HPV.out.2 w' e' DD.out)
          have cF2 := quiet_call (w := w3) (fun w' e' => FMT.out _ _ HPV.out.2 w' e' DD.out)
          obtain ⟨FT, hFT⟩ : ∃ z, bs (prTxt (ds.take c)) = z := ⟨_, rfl⟩
          obtain ⟨FU, hFU⟩ : ∃ z, bs (prTxt (ds.drop c)) = z := ⟨_, rfl⟩
          obtain ⟨FD, hFD⟩ : ∃ z, bs (prTxt ds) = z := ⟨_, rfl⟩
          have hcat : FT ++ FU = FD := by rw [← hFT, ← hFU, ← hFD, bs_app, HPT.out]
          have hcm : ((FT ++ FU).toList == FD.toList) = true := by rw [hcat]; simp
          have hcm2 : ((FT ++ FU).toList == FT.toList) = true := by rw [hcat, ← hFD, ← hFT, List.take_of_length_le (by rw [HN.out]; exact Nat.le_refl _)]; simp
          rw [hFT] at cF1 zT
          rw [hFU] at cF2 zU
          rw [hFD] at cF3
          have hsz : ¬ 9223372036854775807 < FT.size + FU.size := by omega
          clear hFT hFU hFD hcat
          go_wp2_with fail
          refine region_ext (by kernel_rfl) (by kernel_rfl) ?_
          repeat (go_big_quiet_step (first | with_reducible exact cV1 _ _ | with_reducible exact cV2 _ _ | with_reducible exact cF1 _ _ | with_reducible exact cF2 _ _ | with_reducible exact cF3 _ _))
          refine wpQuiet_nil ?_
          intro wq eq
          go_wp2_with fail
          go_ret
          first
          | exact ⟨rfl, E3.out.trans eq⟩
          | exact ⟨retB (by simpa using hcm), E3.out.trans eq⟩
          | exact ⟨retB (by simpa using hcm2), E3.out.trans eq⟩
        · have hck1 : k < c := by omega
          have hcki : (k : Int) < (c : Int) := by omega
          have DD := Lib.hid (sl_drop HN.out hkn D3.out)
          have cV2 := quiet_call (w := w3) (fun w' e' => VAL.out _ _ HPV.out.2 w' e' DD.out)
          have cF2 := quiet_call (w := w3) (fun w' e' => FMT.out _ _ HPV.out.2 w' e' DD.out)
          obtain ⟨FT, hFT⟩ : ∃ z, bs (prTxt (ds.take k)) = z := ⟨_, rfl⟩
          obtain ⟨FU, hFU⟩ : ∃ z, bs (prTxt (ds.drop k)) = z := ⟨_, rfl⟩
          obtain ⟨FD, hFD⟩ : ∃ z, bs (prTxt ds) = z := ⟨_, rfl⟩
          have hcat : FT ++ FU = FD := by rw [← hFT, ← hFU, ← hFD, bs_app, HPT.out]
          have hcm : ((FT ++ FU).toList == FD.toList) = true := by rw [hcat]; simp
          rw [hFT] at cF1 zT
          rw [hFU] at cF2 zU
          rw [hFD] at cF3
          have hsz : ¬ 9223372036854775807 < FT.size + FU.size := by omega
          clear hFT hFU hFD hcat
          go_wp2_with fail
          refine region_ext (by kernel_rfl) (by kernel_rfl) ?_
          repeat (go_big_quiet_step (first | with_reducible exact cV1 _ _ | with_reducible exact cV2 _ _ | with_reducible exact cF1 _ _ | with_reducible exact cF2 _ _ | with_reducible exact cF3 _ _))
          refine wpQuiet_nil ?_
          intro wq eq
          go_wp2_with fail
          go_ret
          first
          | exact ⟨rfl, E3.out.trans eq⟩
          | exact ⟨retB (by simpa using hcm), E3.out.trans eq⟩
    · go_enter Tryz.func6, Tryz.ntmps6
      go_wp2_with fail
      go_ret
      exact ⟨rfl, Below.refl _ _⟩
  · go_enter Tryz.func6, Tryz.ntmps6
    go_wp2_with fail
    go_ret
    exact ⟨rfl, Below.refl _ _⟩
end Go.Proofs.YtognkaebiafgbaaGreatDoor.fnProgramParts
