/-
  For every term (of any size) FnExactWriteTerm returns true: the program's WriteTerm and the reference's return the same, and leave the term as it was.
-/
import Derived.Test.YtifklfnpaigdkaaDoorRows
import Derived.Test.YtifklfnpaigdkaaDoorSame2
import Derived.Test.YtifklfnpaigdkaaDoorToTerm
import Derived.Test.YtifklfnpaigdkaaDoorTxtR4
import Derived.Test.YtifklfnpaigdkaaDoorTxtI6
import Derived.Deep.RegionHeld3
import Derived.ProofKit
import Derived.OpenShut
import Derived.ShutString
import Derived.Test.YtifklfnpaigdkaaDoorCards
import Derived.Test.YtifklfnpaigdkaaDoorTie
import Derived.LaidMore
import Derived.Lay
import Derived.SevenTiedAt
import Derived.Stop.Joined
import Derived.Stop.LaidErr
import Derived.Lib.LaidTab
namespace Go.Proofs.YtifklfnpaigdkaaDoor.fnExactWriteTerm
open Go.ChangeShapes Go.WideShapes Go.ChangeAt Go.RowKit
open Go.ChangeMaps (open_string shut_string)
set_option linter.unusedVariables false

theorem own : ownKnob Tryd.prog.godebug = none := by kernel_rfl
theorem laidOut : laidOutB Tryd.prog = true := by kernel_rfl

set_option maxRecDepth 100000 in
set_option maxHeartbeats 1000000 in
theorem walk (a0 : Value) (w : World) (htab : TabW w) (h0 : ∃ t, Lt.at (fun _ => True) w t a0) :
    Calls Tryd.prog 4 #[a0] w fun e w' => e = .returned (.bool true) ∧ Below w.heap.size w w' := by
  obtain ⟨t0, h0⟩ := h0
  have CI := Lib.hid (fun (v : Value) (S : Nat → Prop) (w' : World) (e' : Ext w w') (h : Tm.at S w' t0 v) => implWriteTerm t0 v S w' h (htab.ext e'))
  clear htab
  have Z0 := Lib.hid (fun (l : Nat) (hl : l ≤ 1048576) w' (e' : Ext w w') => lawszTerm_any t0 a0 l _ w' hl (Lt.at_ext e' h0))
  have T0 := Lib.hid (fun (hl : Tm.wt t0 ≤ 1048576) w' (e' : Ext w w') => lawstoTerm_any t0 a0 _ w' hl (Lt.at_ext e' h0))
  obtain ⟨_, sv0, rfl, x0, y0, rfl, _⟩ := Lt.at_iff.1 h0
  clear h0
  by_cases l0 : Tm.wt t0 ≤ 1048576
  · have Y0 := Lib.hid (leftF_yes l0)
    have t0' := T0.out l0
    have T0 := Lib.hid t0'
    clear t0'
    go_enter Tryd.func4, Tryd.ntmps4
    go_wp2_with fail
    refine (Z0.out 1048576 (Nat.le_refl _) _ (Ext.alloc _ _)).mono ?_
    rw [Y0.out]
    rintro e w2 ⟨rfl, e2⟩
    have c0 := e2.cell (a := ⟨w.heap.size, 0, none⟩) (v := .int .i64 t0.kind) (by go_simp)
    have c1 := e2.cell (a := ⟨w.heap.size, 1, none⟩) (v := .int .i64 t0.n) (by go_simp)
    have c2 := e2.cell (a := ⟨w.heap.size, 2, none⟩) (v := .string t0.name) (by go_simp)
    have c3 := e2.cell (a := ⟨w.heap.size, 3, none⟩) (v := .slice x0 t0.kids.length y0) (by go_simp)
    have B : Hid (Ext w w2) := Lib.hid ((Ext.alloc _ _).trans e2)
    clear e2
    go_wp2_with fail
    refine (T0.out _ B.out).mono ?_
    rintro e w3 ⟨v3, rfl, hv3, e3⟩
    replace c0 := e3.cell c0
    replace c1 := e3.cell c1
    replace c2 := e3.cell c2
    replace c3 := e3.cell c3
    have B : Hid (Ext w w3) := Lib.hid (B.out.trans e3)
    have V3 := Lib.hid hv3
    clear e3 hv3
    go_wp2_with fail
    refine (specWriteTerm t0 _ _ _ V3.out).mono ?_
    rintro e w4 ⟨rfl, e4⟩
    replace c0 := e4.cell c0
    replace c1 := e4.cell c1
    replace c2 := e4.cell c2
    replace c3 := e4.cell c3
    have B : Hid (Ext w w4) := Lib.hid (B.out.trans e4)
    clear e4 V3
    go_wp2_with fail
    refine (T0.out _ B.out).mono ?_
    rintro e w6 ⟨v6, rfl, hv6, e6⟩
    obtain ⟨_, sv6, rfl, x6, y6, rfl, _⟩ := Tm.at_iff.1 hv6
    replace c0 := e6.cell c0
    replace c1 := e6.cell c1
    replace c2 := e6.cell c2
    replace c3 := e6.cell c3
    have B : Hid (Ext w w6) := Lib.hid (B.out.trans e6)
    have V6 := Lib.hid hv6
    have hb1 := block_lt_of_cell c0
    simp only at hb1
    clear e6 hv6
    go_wp2_with fail
    refine (CI.out _ _ _ (B.out.trans (Ext.alloc _ _)) (Tm.at_ext (Ext.alloc _ _) V6.out)).mono ?_
    rintro e w8 ⟨rfl, e8⟩
    have g0 := e8.cell (a := ⟨w6.heap.size, 0, none⟩) (v := .int .i64 t0.kind) (by go_simp)
    have g1 := e8.cell (a := ⟨w6.heap.size, 1, none⟩) (v := .int .i64 t0.n) (by go_simp)
    have g2 := e8.cell (a := ⟨w6.heap.size, 2, none⟩) (v := .string t0.name) (by go_simp)
    have g3 := e8.cell (a := ⟨w6.heap.size, 3, none⟩) (v := .slice x6 t0.kids.length y6) (by go_simp)
    have q8 := (Ext.alloc _ _).trans e8
    replace c0 := q8.cell c0
    replace c1 := q8.cell c1
    replace c2 := q8.cell c2
    replace c3 := q8.cell c3
    have V6 := Lib.hid (Tm.at_ext q8 V6.out)
    have B : Hid (Ext w w8) := Lib.hid (B.out.trans q8)
    clear e8 q8 hb1
    have hne : ((bs (formatF true t0)).toList != (bs (formatF true t0)).toList) = false := by simp
    go_wp2_with fail
    go_region_held3 (fun w' => Ext w8 w' ∧ w'.cell? ⟨w.heap.size, 0, none⟩ = some (.int .i64 t0.kind) ∧ w'.cell? ⟨w.heap.size, 1, none⟩ = some (.int .i64 t0.n) ∧ w'.cell? ⟨w.heap.size, 2, none⟩ = some (.string t0.name) ∧ w'.cell? ⟨w.heap.size, 3, none⟩ = some (.slice x0 t0.kids.length y0) ∧
        w'.cell? ⟨w6.heap.size, 0, none⟩ = some (.int .i64 t0.kind) ∧ w'.cell? ⟨w6.heap.size, 1, none⟩ = some (.int .i64 t0.n) ∧ w'.cell? ⟨w6.heap.size, 2, none⟩ = some (.string t0.name) ∧ w'.cell? ⟨w6.heap.size, 3, none⟩ = some (.slice x6 t0.kids.length y6))
      ((refine ⟨?_, ?_, ?_, ?_, ?_, ?_, ?_, ?_, ?_⟩ <;> first | assumption | exact Ext.drew _ | (apply Ext.cell; assumption; assumption) | (apply Ext.trans'; assumption; assumption) | (apply Ext.cell; apply Ext.trans'; assumption; assumption; assumption) | (apply Ext.trans'; assumption; apply Ext.trans'; assumption; assumption)))
      (first
        | (go_at_call 10; refine (T0.out _ ?_).mono ?_; (exact B.out.trans (And.left (by assumption))); rintro e w9 ⟨v9, rfl, hv9, e9⟩; try replace e9 := Ext.undrew e9)
        | (go_at_call 12; refine (lawseqTerm_any t0 t0 _ _ _ _ _ (Tm.at_ext e9 V6.out) hv9).mono ?_; rw [same_refl]; rintro e w10 ⟨rfl, e10⟩; try replace e10 := Ext.undrew e10))
    go_wp2_with fail
    go_ret
    exact ⟨rfl, (B.out.trans e9).trans e10⟩
  · have Y0 := Lib.hid (leftF_no l0)
    go_enter Tryd.func4, Tryd.ntmps4
    go_wp2_with fail
    refine (Z0.out 1048576 (Nat.le_refl _) _ (Ext.alloc _ _)).mono ?_
    rw [Y0.out]
    rintro e w1 ⟨rfl, e1⟩
    go_wp2_with fail
    go_ret
    exact ⟨rfl, (Ext.alloc _ _).trans e1⟩

theorem laidTab {W : World} (h : laidMetH Tryd.prog Rows.fnExactWriteTermRow.laid W) : TabW W := by
  rw [MakeChecks.laidMetH_plain _ _ _ (by kernel_rfl)] at h
  have h3 : laidMet Tryd.prog [("internal/strconv.uint64pow10", Lib.tabData .u64 Lib.pow10Tab)] W := laidMet.tail (laidMet.tail h)
  exact Lib.tabIs_of_head (g := 0) (by kernel_rfl) (by kernel_rfl) Tryd.underlying103 Tryd.underlying94 (by kernel_rfl) (by kernel_rfl) h3

set_option maxRecDepth 100000 in
theorem lifted (os : Os) (started : os.Started) (H : Type) (enc : TypeId × Value → H) :
    ReturnsInHanded {} Tryd.checked os 4 .any (fun w args => (Rows.fnExactWriteTermSpec.pre enc Tryd.prog Tryd.f4 Rows.fnExactWriteTermRow.domain false w args ∧ laidMetH Tryd.prog Rows.fnExactWriteTermRow.laid w) ∧ sizedMet enc Tryd.prog Tryd.f4 (OpenSpec.ofChange Rows.fnExactWriteTermSpec) false w args)
      (Rows.fnExactWriteTermSpec.post enc Tryd.prog Tryd.f4 false true false false) := by
  refine returnsInHanded_of_change_and (C := Tryd.checked) (X := fun w _ => laidMetH Tryd.prog Rows.fnExactWriteTermRow.laid w) (fun _ _ _ hh h => h.of_heap hh) own started (by kernel_rfl) Tryd.func4
    (ChangeSpec.witness_shaped (enc := enc) (C := Tryd.checked) (os := os) (X := fun w _ => laidMetH Tryd.prog Rows.fnExactWriteTermRow.laid w) false (World.laidAll Tryd.prog os Rows.fnExactWriteTermRow.laid) #[.agg #[.int .i64 0, .int .i64 0, .string ByteArray.empty, .slice none 0 0]] 8 (World.laidAll_os _ _ _)
      (World.shaped_of_ZipB (by kernel_rfl) (by kernel_rfl)) (by kernel_rfl) (by kernel_rfl) (by kernel_rfl)
      (by rw [MakeChecks.laidMetH_plain _ _ _ (by kernel_rfl)]; exact laidMet_laidAll _ (by kernel_rfl) (by kernel_rfl))) ?_
  intro W base args ds gs before hval0 hW hcnd _ hL _
  have htab := laidTab hL
  have hval : ∀ (j : Nat) t v, Tryd.f4.params[j]? = some t → args[j]? = some v → Value.okWide Tryd.prog W .any base t v := hval0
  have hW' := hW
  obtain ⟨p, q, hA0, hV, rfl, hfz, hnd⟩ := hW
  have hA : DataW.TrodAll enc Tryd.prog W 0 (fun _ => true) true Tryd.f4.params.toList args.toList ds p := hA0
  rw [Tryd.params4] at hA hval
  obtain ⟨v0, vs0, d0, ds0, p0, q0, hargs, rfl, rfl, h0, r0⟩ := trodAll_cons hA
  obtain ⟨rfl, rfl, rfl⟩ := trodAll_nil r0
  obtain rfl : args = #[v0] := by cases args; simp_all
  obtain ⟨rfl, rfl⟩ := trodVars_none hV
  have k0 := h0
  have lt0 : ∀ x ∈ p0, x.block < W.heap.size := by obtain ⟨m, hm⟩ := k0; exact DataW.trod_lt m _ _ _ hm
  have w0 := lterm_of_trod (hval 0 24 v0 rfl rfl) h0
  clear hA0 hval0 hval
  refine (walk _ W htab w0).mono fun e W' ⟨he, bel⟩ => ?_
  subst he
  exact ⟨_, rfl, _, _, _, [], _, [], hW', trodAll_mk1 (shut_bool Tryd.underlying4 _), (trodAll_cons_mk (Below.trod laidOut (by kernel_rfl) (of_decide_eq_true (by kernel_rfl)) k0 bel lt0) trodAll_mk0), rfl, bel.frame _, fun h => by cases h⟩

set_option maxRecDepth 100000 in
theorem over : Rows.fnExactWriteTermRow.holds Tryd.pinned (OpenSpec.ofChange Rows.fnExactWriteTermSpec) :=
  OpenClaim.holds_of_wide 4 Tryd.f4 rfl rfl rfl rfl rfl rfl rfl ⟨rfl, rfl, rfl, rfl, rfl⟩ rfl rfl rfl rfl rfl (by kernel_rfl) Tryd.func4 (by kernel_rfl)
    (of_decide_eq_true (by kernel_rfl)) (by unfold Func.isWrapper; first | (rw [if_pos (by decide +kernel)]; kernel_rfl) | (rw [if_neg (by decide +kernel)]; exact ⟨rfl, rfl⟩))
    (fun os started H enc _ => lifted os started H enc)

/-- the statement -/
theorem proved : Rows.FnExactWriteTermCardSaid :=
  Claim7.holds_tied_plain_at .later [] [.data, .data, .data] true (true, "0b67ecbb2604b4d1b6f27536831d155df0e51643cddc244523c0cec399035d6c") false over (fun _ h => by cases h) (by kernel_rfl) (fun _ h => by cases h) fnExactWriteTerm_row_tie rfl ⟨rfl, rfl⟩ (by kernel_rfl) rfl
    (fun f fn hf hfn => by
      obtain rfl : f = 4 := Option.some.inj ((show Tryd.prog.funcNamed "loop.example/prologserver/laws.FnExactWriteTerm" = some 4 by kernel_rfl).symm.trans hf) |>.symm
      obtain rfl : fn = Tryd.f4 := (Option.some.inj (Tryd.func4.symm.trans hfn)).symm
      exact ⟨by kernel_rfl, fun j t ht => by
        rw [Tryd.params4] at ht
        have hm : t ∈ [24] := by simpa using Array.mem_of_getElem? ht
        have hall : ([24].all fun u => !Tryd.prog.wantsStandIn u) = true := by kernel_rfl
        exact (show Tryd.prog.wantsStandIn t = false by simpa using List.all_eq_true.1 hall t hm)⟩)
    (by kernel_rfl)
end Go.Proofs.YtifklfnpaigdkaaDoor.fnExactWriteTerm
