/-
  For every program (of any size) FnExactFormatProgram returns true: the program's FormatProgram and the reference's return the same, and leave the arguments as they were.
-/
import Derived.Test.YtifklfnpaigdkaaGreatDoorRows
import Derived.Test.YtifklfnpaigdkaaGreatDoorClProg
import Derived.Test.YtifklfnpaigdkaaGreatDoorClOpen
import Derived.Test.YtifklfnpaigdkaaGreatDoorPrTxtj
import Derived.Deep.RegionHeld3
import Derived.ProofKit
import Derived.OpenShut
import Derived.ShutString
import Derived.Test.YtifklfnpaigdkaaGreatDoorCards
import Derived.Test.YtifklfnpaigdkaaGreatDoorTie
import Derived.LaidMore
import Derived.Lay
import Derived.SevenTiedAt
import Derived.Stop.Joined
import Derived.Stop.LaidErr
import Derived.Lib.LaidTab
namespace Go.Proofs.YtifklfnpaigdkaaGreatDoor.fnExactFormatProgram
open Go.ChangeShapes Go.WideShapes Go.ChangeAt Go.RowKit
open Go.ChangeMaps (open_string shut_string)
set_option linter.unusedVariables false

theorem own : ownKnob Tryz.prog.godebug = none := by kernel_rfl
theorem laidOut : laidOutB Tryz.prog = true := by kernel_rfl

set_option maxRecDepth 100000 in
set_option maxHeartbeats 8000000 in
theorem walk (a0 : Value) (w : World) (htab : TabW w) (h0 : ∃ x, Lc.sl (fun _ => True) w x a0) :
    Calls Tryz.prog 4 #[a0] w fun e w' => e = .returned (.bool true) ∧ Below w.heap.size w w' := by
  have HTAB := Lib.hid htab
  clear htab
  obtain ⟨cs0, h0⟩ := h0
  have Z0 := Lib.hid (fun (l : Nat) (hl : l ≤ 1048576) w' (e' : Ext w w') => lawszClauseS cs0 _ l _ w' hl (Lc.sl_ext e' h0))
  have T0 := Lib.hid (fun (hl : (cs0.length + Cl.wtL cs0) ≤ 1048576) w' (e' : Ext w w') => lawstoClauseS cs0 _ _ w' hl (Lc.sl_ext e' h0))
  obtain ⟨x0, y0, rfl, _⟩ := h0
  skip
  by_cases l0 : (cs0.length + Cl.wtL cs0) ≤ 1048576
  · have Y0 := Lib.hid (leftF_yes l0)
    have t0' := T0.out (by omega)
    have T0 := Lib.hid t0'
    clear t0'
    go_enter Tryz.func4, Tryz.ntmps4
    go_wp2_with fail
    refine (Z0.out 1048576 (Nat.le_refl _) _ (Ext.refl _)).mono ?_
    rw [Y0.out]
    rintro e w1 ⟨rfl, q⟩
    have B := Lib.hid ((Ext.refl _).trans q)
    clear q
    go_wp2_with fail
    refine (T0.out _ B.out).mono ?_
    rintro e w2 ⟨v0, rfl, hv0, q⟩
    have B := Lib.hid (B.out.trans q)
    clear q
    have R0 := Lib.hid hv0
    clear hv0
    go_wp2_with fail
    refine (specFormatProgram cs0 _ _ _ R0.out).mono ?_
    rintro e w3 ⟨rfl, q⟩
    have B := Lib.hid (B.out.trans q)
    have R0 := Lib.hid (Cl.sl_ext q R0.out)
    clear q
    clear R0
    go_wp2_with fail
    refine (T0.out _ B.out).mono ?_
    rintro e w4 ⟨v0, rfl, hv0, q⟩
    have B := Lib.hid (B.out.trans q)
    clear q
    have hf := hv0
    obtain ⟨ax0, ay0, rfl, _⟩ := hf
    have V0 := Lib.hid hv0
    clear hv0
    go_wp2_with fail
    refine (implFormatProgram cs0 _ _ _ V0.out (HTAB.out.ext B.out)).mono ?_
    rintro e w5 ⟨rfl, q⟩
    have B := Lib.hid (B.out.trans q)
    have V0 := Lib.hid (Cl.sl_ext q V0.out)
    clear q
    have hne0 := (show ((bs (formatPrF cs0)).toList != (bs (formatPrF cs0)).toList) = false by simp)
    go_wp2_with fail
    refine (T0.out _ B.out).mono ?_
    rintro e w6 ⟨v9, rfl, hv9, q⟩
    have B := Lib.hid (B.out.trans q)
    have V0 := Lib.hid (Cl.sl_ext q V0.out)
    clear q
    have V9 := Lib.hid hv9
    clear hv9
    go_wp2_with fail
    refine (lawseqClauseS cs0 cs0 _ _ _ _ _ rfl V0.out V9.out).mono ?_
    rintro e w7 ⟨rfl, q⟩
    have B := Lib.hid (B.out.trans q)
    have V0 := Lib.hid (Cl.sl_ext q V0.out)
    have V9 := Lib.hid (Cl.sl_ext q V9.out)
    clear q
    clear V9
    go_wp2_with fail
    go_ret
    exact ⟨rfl, B.out⟩
  · have Y0 := Lib.hid (leftF_no l0)
    go_enter Tryz.func4, Tryz.ntmps4
    go_wp2_with fail
    refine (Z0.out 1048576 (Nat.le_refl _) _ (Ext.refl _)).mono ?_
    rw [Y0.out]
    rintro e w1 ⟨rfl, q⟩
    have B := Lib.hid ((Ext.refl _).trans q)
    clear q
    go_wp2_with fail
    go_ret
    exact ⟨rfl, B.out⟩

theorem laidTab {W : World} (h : laidMetH Tryz.prog Rows.fnExactFormatProgramRow.laid W) : TabW W := by
  rw [MakeChecks.laidMetH_plain _ _ _ (by kernel_rfl)] at h
  have h3 : laidMet Tryz.prog [("internal/strconv.uint64pow10", Lib.tabData .u64 Lib.pow10Tab)] W := laidMet.tail (laidMet.tail h)
  exact Lib.tabIs_of_head (g := 1) (by kernel_rfl) (by kernel_rfl) Tryz.underlying104 Tryz.underlying97 (by kernel_rfl) (by kernel_rfl) h3

set_option maxRecDepth 100000 in
theorem lifted (os : Os) (started : os.Started) (H : Type) (enc : TypeId × Value → H) :
    ReturnsInHanded {} Tryz.checked os 4 .any (fun w args => (Rows.fnExactFormatProgramSpec.pre enc Tryz.prog Tryz.f4 Rows.fnExactFormatProgramRow.domain false w args ∧ laidMetH Tryz.prog Rows.fnExactFormatProgramRow.laid w) ∧ sizedMet enc Tryz.prog Tryz.f4 (OpenSpec.ofChange Rows.fnExactFormatProgramSpec) false w args)
      (Rows.fnExactFormatProgramSpec.post enc Tryz.prog Tryz.f4 false true false false) := by
  refine returnsInHanded_of_change_and (C := Tryz.checked) (X := fun w _ => laidMetH Tryz.prog Rows.fnExactFormatProgramRow.laid w) (fun _ _ _ hh h => h.of_heap hh) own started (by kernel_rfl) Tryz.func4
    (ChangeSpec.witness_shaped (enc := enc) (C := Tryz.checked) (os := os) (X := fun w _ => laidMetH Tryz.prog Rows.fnExactFormatProgramRow.laid w) false (World.laidAll Tryz.prog os Rows.fnExactFormatProgramRow.laid) #[.slice none 0 0] 8 (World.laidAll_os _ _ _)
      (World.shaped_of_ZipB (by kernel_rfl) (by kernel_rfl)) (by kernel_rfl) (by kernel_rfl) (by kernel_rfl)
      (by rw [MakeChecks.laidMetH_plain _ _ _ (by kernel_rfl)]; exact laidMet_laidAll _ (by kernel_rfl) (by kernel_rfl))) ?_
  intro W base args ds gs before hval0 hW hcnd _ hL _
  have htab := laidTab hL
  have hval : ∀ (j : Nat) t v, Tryz.f4.params[j]? = some t → args[j]? = some v → Value.okWide Tryz.prog W .any base t v := hval0
  have hW' := hW
  obtain ⟨p, q, hA0, hV, rfl, hfz, hnd⟩ := hW
  have hA : DataW.TrodAll enc Tryz.prog W 0 (fun _ => true) true Tryz.f4.params.toList args.toList ds p := hA0
  rw [Tryz.params4] at hA hval
  obtain ⟨v0, vs0, d0, ds0, p0, q0, hargs, rfl, rfl, h0, r0⟩ := trodAll_cons hA
  obtain ⟨rfl, rfl, rfl⟩ := trodAll_nil r0
  obtain rfl : args = #[v0] := by cases args; simp_all
  obtain ⟨rfl, rfl⟩ := trodVars_none hV
  have k0 := h0
  have lt0 : ∀ x ∈ p0, x.block < W.heap.size := by obtain ⟨m, hm⟩ := k0; exact DataW.trod_lt m _ _ _ hm
  have w0 := lclauses_arg (hval 0 37 v0 rfl rfl) h0
  clear hA0 hval0 hval
  refine (walk _ W htab w0).mono fun e W' ⟨he, bel⟩ => ?_
  subst he
  exact ⟨_, rfl, _, _, _, [], _, [], hW', trodAll_mk1 (shut_bool Tryz.underlying4 _), (trodAll_cons_mk (Below.trod laidOut (by kernel_rfl) (of_decide_eq_true (by kernel_rfl)) k0 bel lt0) trodAll_mk0), rfl, bel.frame _, fun h => by cases h⟩

set_option maxRecDepth 100000 in
theorem over : Rows.fnExactFormatProgramRow.holds Tryz.pinned (OpenSpec.ofChange Rows.fnExactFormatProgramSpec) :=
  OpenClaim.holds_of_wide 4 Tryz.f4 rfl rfl rfl rfl rfl rfl rfl ⟨rfl, rfl, rfl, rfl, rfl⟩ rfl rfl rfl rfl rfl (by kernel_rfl) Tryz.func4 (by kernel_rfl)
    (of_decide_eq_true (by kernel_rfl)) (by unfold Func.isWrapper; first | (rw [if_pos (by decide +kernel)]; kernel_rfl) | (rw [if_neg (by decide +kernel)]; exact ⟨rfl, rfl⟩))
    (fun os started H enc _ => lifted os started H enc)

/-- the statement -/
theorem proved : Rows.FnExactFormatProgramCardSaid :=
  Claim7.holds_tied_plain_at .later [] [.data, .data, .data] true (true, "d8d896c082dcfcdc22d26d202ae9ec0c7985c22e1022f5cb0f693bcaa99067b2") false over (fun _ h => by cases h) (by kernel_rfl) (fun _ h => by cases h) fnExactFormatProgram_row_tie rfl ⟨rfl, rfl⟩ (by kernel_rfl) rfl
    (fun f fn hf hfn => by
      obtain rfl : f = 4 := Option.some.inj ((show Tryz.prog.funcNamed "loop.example/prologserver/laws.FnExactFormatProgram" = some 4 by kernel_rfl).symm.trans hf) |>.symm
      obtain rfl : fn = Tryz.f4 := (Option.some.inj (Tryz.func4.symm.trans hfn)).symm
      exact ⟨by kernel_rfl, fun j t ht => by
        rw [Tryz.params4] at ht
        have hm : t ∈ [37] := by simpa using Array.mem_of_getElem? ht
        have hall : ([37].all fun u => !Tryz.prog.wantsStandIn u) = true := by kernel_rfl
        exact (show Tryz.prog.wantsStandIn t = false by simpa using List.all_eq_true.1 hall t hm)⟩)
    (by kernel_rfl)
end Go.Proofs.YtifklfnpaigdkaaGreatDoor.fnExactFormatProgram
