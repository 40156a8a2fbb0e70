/-
  For every clause (of any size) FnExactFormatClause returns true: the program's FormatClause and the reference's return the same, and leave the arguments as they were.
-/
import Derived.Test.YtifklfnpaigdkaaGreatDoorRows
import Derived.Test.YtifklfnpaigdkaaGreatDoorClSame
import Derived.Test.YtifklfnpaigdkaaGreatDoorClOpen
import Derived.Test.YtifklfnpaigdkaaGreatDoorClTxtj
import Derived.Deep.RegionHeld3
import Derived.ProofKit
import Derived.OpenShut
import Derived.ShutString
import Derived.Test.YtifklfnpaigdkaaGreatDoorCards
import Derived.Test.YtifklfnpaigdkaaGreatDoorTie
import Derived.LaidMore
import Derived.Lay
import Derived.SevenTiedAt
import Derived.Stop.Joined
import Derived.Stop.LaidErr
import Derived.Lib.LaidTab
namespace Go.Proofs.YtifklfnpaigdkaaGreatDoor.fnExactFormatClause
open Go.ChangeShapes Go.WideShapes Go.ChangeAt Go.RowKit
open Go.ChangeMaps (open_string shut_string)
set_option linter.unusedVariables false

theorem own : ownKnob Tryz.prog.godebug = none := by kernel_rfl
theorem laidOut : laidOutB Tryz.prog = true := by kernel_rfl

set_option maxRecDepth 100000 in
set_option maxHeartbeats 8000000 in
theorem walk (a0 : Value) (w : World) (htab : TabW w) (h0 : ∃ x, Lc.at (fun _ => True) w x a0) :
    Calls Tryz.prog 3 #[a0] w fun e w' => e = .returned (.bool true) ∧ Below w.heap.size w w' := by
  have HTAB := Lib.hid htab
  clear htab
  obtain ⟨c0, h0⟩ := h0
  have Z0 := Lib.hid (fun (l : Nat) (hl : l ≤ 1048576) w' (e' : Ext w w') => lawszClause c0 _ l _ w' hl (Lc.at_ext e' h0))
  have T0 := Lib.hid (fun (hl : Cl.wt c0 ≤ 1048576) w' (e' : Ext w w') => lawstoClause c0 _ _ w' hl (Lc.at_ext e' h0))
  obtain ⟨x0, y0, z0, u0, rfl, _, _⟩ := Lc.form h0
  clear h0
  by_cases l0 : Cl.wt c0 ≤ 1048576
  · have Y0 := Lib.hid (leftF_yes l0)
    have t0' := T0.out (by omega)
    have T0 := Lib.hid t0'
    clear t0'
    go_enter Tryz.func3, Tryz.ntmps3
    go_wp2_with fail
    refine (Z0.out 1048576 (Nat.le_refl _) _ (Ext.alloc _ _)).mono ?_
    rw [Y0.out]
    rintro e w1 ⟨rfl, q⟩
    have A0 := Lib.hid (show BoxC w1 w.heap.size (.int .i64 c0.head.kind) (.int .i64 c0.head.n) (.string c0.head.name) (.slice x0 c0.head.kids.length y0) (.slice z0 c0.body.length u0) from BoxC.ext (by refine ⟨?_, ?_, ?_, ?_, ?_, ?_, ?_, ?_, ?_, ?_⟩ <;> go_simp) q)
    have B := Lib.hid ((Ext.alloc _ _).trans q)
    clear q
    obtain ⟨ka00, ka01, ka02, ka03, ka04, _, _, _, _, _⟩ := A0.out
    go_wp2_with fail
    refine (T0.out _ B.out).mono ?_
    rintro e w2 ⟨v0, rfl, hv0, q⟩
    clear ka00 ka01 ka02 ka03 ka04
    have A0 := Lib.hid (A0.out.ext q)
    have B := Lib.hid (B.out.trans q)
    clear q
    have R0 := Lib.hid hv0
    clear hv0
    go_wp2_with fail
    refine (specFormatClause c0 _ _ _ R0.out).mono ?_
    rintro e w3 ⟨rfl, q⟩
    have A0 := Lib.hid (A0.out.ext q)
    have B := Lib.hid (B.out.trans q)
    have R0 := Lib.hid (Cl.at_ext q R0.out)
    clear q
    clear R0
    obtain ⟨ka00, ka01, ka02, ka03, ka04, _, _, _, _, _⟩ := A0.out
    go_wp2_with fail
    refine (T0.out _ B.out).mono ?_
    rintro e w4 ⟨v0, rfl, hv0, q⟩
    clear ka00 ka01 ka02 ka03 ka04
    have A0 := Lib.hid (A0.out.ext q)
    have B := Lib.hid (B.out.trans q)
    clear q
    have hf := hv0
    obtain ⟨ax0, ay0, az0, au0, rfl, _, _⟩ := Cl.form hf
    have V0 := Lib.hid hv0
    clear hv0
    go_wp2_with fail
    refine (implFormatClause c0 _ _ _ (Cl.at_ext (Ext.alloc _ _) V0.out) (HTAB.out.ext (B.out.trans (Ext.alloc _ _)))).mono ?_
    rintro e w5 ⟨rfl, q⟩
    have X0 := Lib.hid ((BoxC.new w4 (.int .i64 c0.head.kind) (.int .i64 c0.head.n) (.string c0.head.name) (.slice ax0 c0.head.kids.length ay0) (.slice az0 c0.body.length au0) 33 rfl).ext q)
    replace q := (Ext.alloc _ _).trans q
    have A0 := Lib.hid (A0.out.ext q)
    have B := Lib.hid (B.out.trans q)
    have V0 := Lib.hid (Cl.at_ext q V0.out)
    clear q
    have hne0 := (show ((bs (formatClF c0)).toList != (bs (formatClF c0)).toList) = false by simp)
    obtain ⟨ka00, ka01, ka02, ka03, ka04, _, _, _, _, _⟩ := A0.out
    obtain ⟨kx00, kx01, kx02, kx03, kx04, _, _, _, _, _⟩ := X0.out
    go_wp2_with fail
    go_region_held3 (fun w' => Ext w5 w' ∧ w'.cell? ⟨w.heap.size, 0, none⟩ = some (.int .i64 c0.head.kind) ∧ w'.cell? ⟨w.heap.size, 1, none⟩ = some (.int .i64 c0.head.n) ∧ w'.cell? ⟨w.heap.size, 2, none⟩ = some (.string c0.head.name) ∧ w'.cell? ⟨w.heap.size, 3, none⟩ = some (.slice x0 c0.head.kids.length y0) ∧ w'.cell? ⟨w.heap.size, 4, none⟩ = some (.slice z0 c0.body.length u0) ∧ w'.cell? ⟨w4.heap.size, 0, none⟩ = some (.int .i64 c0.head.kind) ∧ w'.cell? ⟨w4.heap.size, 1, none⟩ = some (.int .i64 c0.head.n) ∧ w'.cell? ⟨w4.heap.size, 2, none⟩ = some (.string c0.head.name) ∧ w'.cell? ⟨w4.heap.size, 3, none⟩ = some (.slice ax0 c0.head.kids.length ay0) ∧ w'.cell? ⟨w4.heap.size, 4, none⟩ = some (.slice az0 c0.body.length au0))
      ((refine ⟨?_, ?_, ?_, ?_, ?_, ?_, ?_, ?_, ?_, ?_, ?_⟩ <;> first | with_reducible assumption | with_reducible exact Ext.drew _ | exact Ext.drew _ | (with_reducible (apply Ext.cell; assumption; assumption)) | (with_reducible (apply Ext.trans'; assumption; assumption)) | (with_reducible (apply Ext.cell; apply Ext.trans'; assumption; assumption; assumption)) | (with_reducible (apply Ext.trans'; assumption; apply Ext.trans'; assumption; assumption)) | (with_reducible (apply Ext.cell; apply Ext.trans'; assumption; apply Ext.trans'; assumption; assumption; assumption)) | assumption))
      (first
        | (go_at_call 7; refine (T0.out _ ?_).mono ?_; (exact B.out.trans (And.left (by assumption))); rintro e wt ⟨v9, rfl, hv9, e9⟩; try replace e9 := Ext.undrew e9)
        | (go_at_call 9; refine (lawseqClause c0 c0 _ _ _ _ _ (Cl.at_ext e9 V0.out) hv9).mono ?_; rw [csame_refl]; rintro e wu0 ⟨rfl, e10⟩; try replace e10 := Ext.undrew e10))
    have q := e9.trans e10
    clear hv9 e9 e10
    clear ka00 ka01 ka02 ka03 ka04
    clear kx00 kx01 kx02 kx03 kx04
    have A0 := Lib.hid (A0.out.ext q)
    have B := Lib.hid (B.out.trans q)
    have V0 := Lib.hid (Cl.at_ext q V0.out)
    have X0 := Lib.hid (X0.out.ext q)
    clear q
    go_wp2_with fail
    go_ret
    exact ⟨rfl, B.out⟩
  · have Y0 := Lib.hid (leftF_no l0)
    go_enter Tryz.func3, Tryz.ntmps3
    go_wp2_with fail
    refine (Z0.out 1048576 (Nat.le_refl _) _ (Ext.alloc _ _)).mono ?_
    rw [Y0.out]
    rintro e w1 ⟨rfl, q⟩
    have A0 := Lib.hid (show BoxC w1 w.heap.size (.int .i64 c0.head.kind) (.int .i64 c0.head.n) (.string c0.head.name) (.slice x0 c0.head.kids.length y0) (.slice z0 c0.body.length u0) from BoxC.ext (by refine ⟨?_, ?_, ?_, ?_, ?_, ?_, ?_, ?_, ?_, ?_⟩ <;> go_simp) q)
    have B := Lib.hid ((Ext.alloc _ _).trans q)
    clear q
    go_wp2_with fail
    go_ret
    exact ⟨rfl, B.out⟩

theorem laidTab {W : World} (h : laidMetH Tryz.prog Rows.fnExactFormatClauseRow.laid W) : TabW W := by
  rw [MakeChecks.laidMetH_plain _ _ _ (by kernel_rfl)] at h
  have h3 : laidMet Tryz.prog [("internal/strconv.uint64pow10", Lib.tabData .u64 Lib.pow10Tab)] W := laidMet.tail (laidMet.tail h)
  exact Lib.tabIs_of_head (g := 1) (by kernel_rfl) (by kernel_rfl) Tryz.underlying104 Tryz.underlying97 (by kernel_rfl) (by kernel_rfl) h3

set_option maxRecDepth 100000 in
theorem lifted (os : Os) (started : os.Started) (H : Type) (enc : TypeId × Value → H) :
    ReturnsInHanded {} Tryz.checked os 3 .any (fun w args => (Rows.fnExactFormatClauseSpec.pre enc Tryz.prog Tryz.f3 Rows.fnExactFormatClauseRow.domain false w args ∧ laidMetH Tryz.prog Rows.fnExactFormatClauseRow.laid w) ∧ sizedMet enc Tryz.prog Tryz.f3 (OpenSpec.ofChange Rows.fnExactFormatClauseSpec) false w args)
      (Rows.fnExactFormatClauseSpec.post enc Tryz.prog Tryz.f3 false true false false) := by
  refine returnsInHanded_of_change_and (C := Tryz.checked) (X := fun w _ => laidMetH Tryz.prog Rows.fnExactFormatClauseRow.laid w) (fun _ _ _ hh h => h.of_heap hh) own started (by kernel_rfl) Tryz.func3
    (ChangeSpec.witness_shaped (enc := enc) (C := Tryz.checked) (os := os) (X := fun w _ => laidMetH Tryz.prog Rows.fnExactFormatClauseRow.laid w) false (World.laidAll Tryz.prog os Rows.fnExactFormatClauseRow.laid) #[.agg #[.int .i64 0, .int .i64 0, .string ByteArray.empty, .slice none 0 0, .slice none 0 0]] 8 (World.laidAll_os _ _ _)
      (World.shaped_of_ZipB (by kernel_rfl) (by kernel_rfl)) (by kernel_rfl) (by kernel_rfl) (by kernel_rfl)
      (by rw [MakeChecks.laidMetH_plain _ _ _ (by kernel_rfl)]; exact laidMet_laidAll _ (by kernel_rfl) (by kernel_rfl))) ?_
  intro W base args ds gs before hval0 hW hcnd _ hL _
  have htab := laidTab hL
  have hval : ∀ (j : Nat) t v, Tryz.f3.params[j]? = some t → args[j]? = some v → Value.okWide Tryz.prog W .any base t v := hval0
  have hW' := hW
  obtain ⟨p, q, hA0, hV, rfl, hfz, hnd⟩ := hW
  have hA : DataW.TrodAll enc Tryz.prog W 0 (fun _ => true) true Tryz.f3.params.toList args.toList ds p := hA0
  rw [Tryz.params3] at hA hval
  obtain ⟨v0, vs0, d0, ds0, p0, q0, hargs, rfl, rfl, h0, r0⟩ := trodAll_cons hA
  obtain ⟨rfl, rfl, rfl⟩ := trodAll_nil r0
  obtain rfl : args = #[v0] := by cases args; simp_all
  obtain ⟨rfl, rfl⟩ := trodVars_none hV
  have k0 := h0
  have lt0 : ∀ x ∈ p0, x.block < W.heap.size := by obtain ⟨m, hm⟩ := k0; exact DataW.trod_lt m _ _ _ hm
  have w0 := lclause_arg (hval 0 26 v0 rfl rfl) h0
  clear hA0 hval0 hval
  refine (walk _ W htab w0).mono fun e W' ⟨he, bel⟩ => ?_
  subst he
  exact ⟨_, rfl, _, _, _, [], _, [], hW', trodAll_mk1 (shut_bool Tryz.underlying4 _), (trodAll_cons_mk (Below.trod laidOut (by kernel_rfl) (of_decide_eq_true (by kernel_rfl)) k0 bel lt0) trodAll_mk0), rfl, bel.frame _, fun h => by cases h⟩

set_option maxRecDepth 100000 in
theorem over : Rows.fnExactFormatClauseRow.holds Tryz.pinned (OpenSpec.ofChange Rows.fnExactFormatClauseSpec) :=
  OpenClaim.holds_of_wide 3 Tryz.f3 rfl rfl rfl rfl rfl rfl rfl ⟨rfl, rfl, rfl, rfl, rfl⟩ rfl rfl rfl rfl rfl (by kernel_rfl) Tryz.func3 (by kernel_rfl)
    (of_decide_eq_true (by kernel_rfl)) (by unfold Func.isWrapper; first | (rw [if_pos (by decide +kernel)]; kernel_rfl) | (rw [if_neg (by decide +kernel)]; exact ⟨rfl, rfl⟩))
    (fun os started H enc _ => lifted os started H enc)

/-- the statement -/
theorem proved : Rows.FnExactFormatClauseCardSaid :=
  Claim7.holds_tied_plain_at .later [] [.data, .data, .data] true (true, "d8d896c082dcfcdc22d26d202ae9ec0c7985c22e1022f5cb0f693bcaa99067b2") false over (fun _ h => by cases h) (by kernel_rfl) (fun _ h => by cases h) fnExactFormatClause_row_tie rfl ⟨rfl, rfl⟩ (by kernel_rfl) rfl
    (fun f fn hf hfn => by
      obtain rfl : f = 3 := Option.some.inj ((show Tryz.prog.funcNamed "loop.example/prologserver/laws.FnExactFormatClause" = some 3 by kernel_rfl).symm.trans hf) |>.symm
      obtain rfl : fn = Tryz.f3 := (Option.some.inj (Tryz.func3.symm.trans hfn)).symm
      exact ⟨by kernel_rfl, fun j t ht => by
        rw [Tryz.params3] at ht
        have hm : t ∈ [26] := by simpa using Array.mem_of_getElem? ht
        have hall : ([26].all fun u => !Tryz.prog.wantsStandIn u) = true := by kernel_rfl
        exact (show Tryz.prog.wantsStandIn t = false by simpa using List.all_eq_true.1 hall t hm)⟩)
    (by kernel_rfl)
end Go.Proofs.YtifklfnpaigdkaaGreatDoor.fnExactFormatClause
