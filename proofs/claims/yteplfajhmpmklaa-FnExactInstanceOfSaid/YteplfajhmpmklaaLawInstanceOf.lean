/-
  For every two terms (of any size) FnExactInstanceOf returns true: the program's InstanceOf and the reference's return the same, and leave the arguments as they were.
-/
import Derived.Test.YteplfajhmpmklaaRows
import Derived.Test.YteplfajhmpmklaaInst
import Derived.Test.YteplfajhmpmklaaToTerm
import Derived.Deep.RegionHeld3
import Derived.ProofKit
import Derived.OpenShut
import Derived.ShutString
namespace Go.Proofs.Yteplfajhmpmklaa.fnExactInstanceOf
open Go.ChangeShapes Go.WideShapes Go.ChangeAt Go.RowKit
open Go.ChangeMaps (open_string shut_string)
set_option linter.unusedVariables false

theorem own : ownKnob Try.prog.godebug = none := by kernel_rfl
theorem laidOut : laidOutB Try.prog = true := by kernel_rfl

set_option maxRecDepth 100000 in
set_option maxHeartbeats 8000000 in
theorem walk (a0 : Value) (a1 : Value) (w : World) (h0 : ∃ x, Lt.at (fun _ => True) w x a0) (h1 : ∃ x, Lt.at (fun _ => True) w x a1) :
    Calls Try.prog 3 #[a0, a1] w fun e w' => e = .returned (.bool true) ∧ Below w.heap.size w w' := by
  obtain ⟨t0, h0⟩ := h0
  have Z0 := Lib.hid (fun (l : Nat) (hl : l ≤ 1048576) w' (e' : Ext w w') => lawszTerm_any t0 _ l _ w' hl (Lt.at_ext e' h0))
  have T0 := Lib.hid (fun (hl : Tm.wt t0 ≤ 1048576) w' (e' : Ext w w') => lawstoTerm_any t0 _ _ w' hl (Lt.at_ext e' h0))
  obtain ⟨t1, h1⟩ := h1
  have Z1 := Lib.hid (fun (l : Nat) (hl : l ≤ 1048576) w' (e' : Ext w w') => lawszTerm_any t1 _ l _ w' hl (Lt.at_ext e' h1))
  have T1 := Lib.hid (fun (hl : Tm.wt t1 ≤ 1048576) w' (e' : Ext w w') => lawstoTerm_any t1 _ _ w' hl (Lt.at_ext e' h1))
  obtain ⟨_, sv0, rfl, x0, y0, rfl, _⟩ := Lt.at_iff.1 h0
  obtain ⟨_, sv1, rfl, x1, y1, rfl, _⟩ := Lt.at_iff.1 h1
  clear h0 h1
  by_cases l0 : Tm.wt t0 ≤ 1048576
  · have Y0 := Lib.hid (leftF_yes l0)
    by_cases l1 : Tm.wt t1 ≤ 1048576 - Tm.wt t0
    · have Y1 := Lib.hid (leftF_yes l1)
      have t0' := T0.out (by omega)
      have T0 := Lib.hid t0'
      clear t0'
      have t1' := T1.out (by omega)
      have T1 := Lib.hid t1'
      clear t1'
      go_enter Try.func3, Try.ntmps3
      go_wp2_with fail
      refine (Z0.out 1048576 (Nat.le_refl _) _ ((Ext.alloc _ _).trans (Ext.alloc _ _))).mono ?_
      rw [Y0.out]
      rintro e w1 ⟨rfl, q⟩
      have A0 := Lib.hid (show BoxT w1 w.heap.size (.int .i64 t0.kind) (.int .i64 t0.n) (.string t0.name) (.slice x0 t0.kids.length y0) from BoxT.ext (by refine ⟨?_, ?_, ?_, ?_, ?_, ?_, ?_, ?_⟩ <;> go_simp) q)
      have A1 := Lib.hid (show BoxT w1 (w.heap.size + 1) (.int .i64 t1.kind) (.int .i64 t1.n) (.string t1.name) (.slice x1 t1.kids.length y1) from BoxT.ext (by refine ⟨?_, ?_, ?_, ?_, ?_, ?_, ?_, ?_⟩ <;> go_simp) q)
      have B := Lib.hid (((Ext.alloc _ _).trans (Ext.alloc _ _)).trans q)
      clear q
      obtain ⟨ka10, ka11, ka12, ka13, _, _, _, _⟩ := A1.out
      go_wp2_with fail
      refine (Z1.out (1048576 - Tm.wt t0) (by omega) _ B.out).mono ?_
      rw [Y1.out]
      rintro e w2 ⟨rfl, q⟩
      clear ka10 ka11 ka12 ka13
      have A0 := Lib.hid (A0.out.ext q)
      have A1 := Lib.hid (A1.out.ext q)
      have B := Lib.hid (B.out.trans q)
      clear q
      obtain ⟨ka00, ka01, ka02, ka03, _, _, _, _⟩ := A0.out
      obtain ⟨ka10, ka11, ka12, ka13, _, _, _, _⟩ := A1.out
      go_wp2_with fail
      go_region_held3 (fun w' => Ext w2 w' ∧ w'.cell? ⟨w.heap.size, 0, none⟩ = some (.int .i64 t0.kind) ∧ w'.cell? ⟨w.heap.size, 1, none⟩ = some (.int .i64 t0.n) ∧ w'.cell? ⟨w.heap.size, 2, none⟩ = some (.string t0.name) ∧ w'.cell? ⟨w.heap.size, 3, none⟩ = some (.slice x0 t0.kids.length y0) ∧ w'.cell? ⟨w.heap.size + 1, 0, none⟩ = some (.int .i64 t1.kind) ∧ w'.cell? ⟨w.heap.size + 1, 1, none⟩ = some (.int .i64 t1.n) ∧ w'.cell? ⟨w.heap.size + 1, 2, none⟩ = some (.string t1.name) ∧ w'.cell? ⟨w.heap.size + 1, 3, none⟩ = some (.slice x1 t1.kids.length y1))
        ((refine ⟨?_, ?_, ?_, ?_, ?_, ?_, ?_, ?_, ?_⟩ <;> first | with_reducible assumption | with_reducible exact Ext.drew _ | exact Ext.drew _ | (with_reducible (apply Ext.cell; assumption; assumption)) | (with_reducible (apply Ext.trans'; assumption; assumption)) | (with_reducible (apply Ext.cell; apply Ext.trans'; assumption; assumption; assumption)) | (with_reducible (apply Ext.trans'; assumption; apply Ext.trans'; assumption; assumption)) | (with_reducible (apply Ext.cell; apply Ext.trans'; assumption; apply Ext.trans'; assumption; assumption; assumption)) | assumption))
        (first
          | (go_at_call_of 13 (Value.string t0.name); refine (T0.out _ ?_).mono ?_; (exact B.out.trans (And.left (by assumption))); rintro e we0 ⟨v0, rfl, hv0, e0⟩; try replace e0 := Ext.undrew e0)
          | (go_at_call_of 13 (Value.string t1.name); refine (T1.out _ ?_).mono ?_; (exact B.out.trans (And.left (by assumption))); rintro e we1 ⟨v1, rfl, hv1, e1⟩; try replace e1 := Ext.undrew e1)
          | (go_at_call 12; refine (specInstanceOf t0 t1 _ _ _ _ _ (Tm.at_ext e1 hv0) hv1).mono ?_; rintro e ws ⟨rfl, e2⟩; try replace e2 := Ext.undrew e2))
      have q := ((e0.trans e1).trans e2)
      clear hv0 hv1 e0 e1 e2
      clear ka00 ka01 ka02 ka03
      clear ka10 ka11 ka12 ka13
      have A0 := Lib.hid (A0.out.ext q)
      have A1 := Lib.hid (A1.out.ext q)
      have B := Lib.hid (B.out.trans q)
      clear q
      obtain ⟨ka00, ka01, ka02, ka03, _, _, _, _⟩ := A0.out
      go_wp2_with fail
      refine (T0.out _ B.out).mono ?_
      rintro e w3 ⟨v0, rfl, hv0, q⟩
      clear ka00 ka01 ka02 ka03
      have A0 := Lib.hid (A0.out.ext q)
      have A1 := Lib.hid (A1.out.ext q)
      have B := Lib.hid (B.out.trans q)
      clear q
      obtain ⟨ax0, ay0, rfl⟩ := at_form hv0
      have V0 := Lib.hid hv0
      clear hv0
      obtain ⟨ka10, ka11, ka12, ka13, _, _, _, _⟩ := A1.out
      have la1 := A1.out.lt
      go_wp2_with fail
      refine (T1.out _ (B.out.trans (Ext.alloc _ _))).mono ?_
      rintro e w4 ⟨v1, rfl, hv1, q⟩
      clear ka10 ka11 ka12 ka13
      clear la1
      have X0 := Lib.hid ((BoxT.new w3 (.int .i64 t0.kind) (.int .i64 t0.n) (.string t0.name) (.slice ax0 t0.kids.length ay0) 29 rfl).ext q)
      replace q := (Ext.alloc _ _).trans q
      have A0 := Lib.hid (A0.out.ext q)
      have A1 := Lib.hid (A1.out.ext q)
      have B := Lib.hid (B.out.trans q)
      have V0 := Lib.hid (Tm.at_ext q V0.out)
      clear q
      obtain ⟨ax1, ay1, rfl⟩ := at_form hv1
      have V1 := Lib.hid hv1
      clear hv1
      obtain ⟨kx00, kx01, kx02, kx03, _, _, _, _⟩ := X0.out
      have lx0 := X0.out.lt
      go_wp2_with fail
      refine (implInstanceOf t0 t1 _ _ _ _ _ (Tm.at_ext (Ext.alloc _ _) V0.out) (Tm.at_ext (Ext.alloc _ _) V1.out)).mono ?_
      rintro e w5 ⟨rfl, q⟩
      clear kx00 kx01 kx02 kx03
      clear lx0
      have X1 := Lib.hid ((BoxT.new w4 (.int .i64 t1.kind) (.int .i64 t1.n) (.string t1.name) (.slice ax1 t1.kids.length ay1) 29 rfl).ext q)
      replace q := (Ext.alloc _ _).trans q
      have A0 := Lib.hid (A0.out.ext q)
      have A1 := Lib.hid (A1.out.ext q)
      have B := Lib.hid (B.out.trans q)
      have V0 := Lib.hid (Tm.at_ext q V0.out)
      have X0 := Lib.hid (X0.out.ext q)
      have V1 := Lib.hid (Tm.at_ext q V1.out)
      clear q
      have hne0 := (show (instF t0 t1 != instF t0 t1) = false by simp)
      obtain ⟨ka00, ka01, ka02, ka03, _, _, _, _⟩ := A0.out
      obtain ⟨kx00, kx01, kx02, kx03, _, _, _, _⟩ := X0.out
      go_wp2_with fail
      go_region_held3 (fun w' => Ext w5 w' ∧ w'.cell? ⟨w.heap.size, 0, none⟩ = some (.int .i64 t0.kind) ∧ w'.cell? ⟨w.heap.size, 1, none⟩ = some (.int .i64 t0.n) ∧ w'.cell? ⟨w.heap.size, 2, none⟩ = some (.string t0.name) ∧ w'.cell? ⟨w.heap.size, 3, none⟩ = some (.slice x0 t0.kids.length y0) ∧ w'.cell? ⟨w3.heap.size, 0, none⟩ = some (.int .i64 t0.kind) ∧ w'.cell? ⟨w3.heap.size, 1, none⟩ = some (.int .i64 t0.n) ∧ w'.cell? ⟨w3.heap.size, 2, none⟩ = some (.string t0.name) ∧ w'.cell? ⟨w3.heap.size, 3, none⟩ = some (.slice ax0 t0.kids.length ay0))
        ((refine ⟨?_, ?_, ?_, ?_, ?_, ?_, ?_, ?_, ?_⟩ <;> first | with_reducible assumption | with_reducible exact Ext.drew _ | exact Ext.drew _ | (with_reducible (apply Ext.cell; assumption; assumption)) | (with_reducible (apply Ext.trans'; assumption; assumption)) | (with_reducible (apply Ext.cell; apply Ext.trans'; assumption; assumption; assumption)) | (with_reducible (apply Ext.trans'; assumption; apply Ext.trans'; assumption; assumption)) | (with_reducible (apply Ext.cell; apply Ext.trans'; assumption; apply Ext.trans'; assumption; assumption; assumption)) | assumption))
        (first
          | (go_at_call 13; refine (T0.out _ ?_).mono ?_; (exact B.out.trans (And.left (by assumption))); rintro e wt ⟨v9, rfl, hv9, e9⟩; try replace e9 := Ext.undrew e9)
          | (go_at_call 15; refine (lawseqTerm_any t0 t0 _ _ _ _ _ (Tm.at_ext e9 V0.out) hv9).mono ?_; rw [same_refl]; rintro e wu0 ⟨rfl, e10⟩; try replace e10 := Ext.undrew e10))
      have q := e9.trans e10
      clear hv9 e9 e10
      clear ka00 ka01 ka02 ka03
      clear kx00 kx01 kx02 kx03
      have A0 := Lib.hid (A0.out.ext q)
      have A1 := Lib.hid (A1.out.ext q)
      have B := Lib.hid (B.out.trans q)
      have V0 := Lib.hid (Tm.at_ext q V0.out)
      have X0 := Lib.hid (X0.out.ext q)
      have V1 := Lib.hid (Tm.at_ext q V1.out)
      have X1 := Lib.hid (X1.out.ext q)
      clear q
      obtain ⟨ka10, ka11, ka12, ka13, _, _, _, _⟩ := A1.out
      obtain ⟨kx10, kx11, kx12, kx13, _, _, _, _⟩ := X1.out
      go_wp2_with fail
      go_region_held3 (fun w' => Ext wu0 w' ∧ w'.cell? ⟨w.heap.size + 1, 0, none⟩ = some (.int .i64 t1.kind) ∧ w'.cell? ⟨w.heap.size + 1, 1, none⟩ = some (.int .i64 t1.n) ∧ w'.cell? ⟨w.heap.size + 1, 2, none⟩ = some (.string t1.name) ∧ w'.cell? ⟨w.heap.size + 1, 3, none⟩ = some (.slice x1 t1.kids.length y1) ∧ w'.cell? ⟨w4.heap.size, 0, none⟩ = some (.int .i64 t1.kind) ∧ w'.cell? ⟨w4.heap.size, 1, none⟩ = some (.int .i64 t1.n) ∧ w'.cell? ⟨w4.heap.size, 2, none⟩ = some (.string t1.name) ∧ w'.cell? ⟨w4.heap.size, 3, none⟩ = some (.slice ax1 t1.kids.length ay1))
        ((refine ⟨?_, ?_, ?_, ?_, ?_, ?_, ?_, ?_, ?_⟩ <;> first | with_reducible assumption | with_reducible exact Ext.drew _ | exact Ext.drew _ | (with_reducible (apply Ext.cell; assumption; assumption)) | (with_reducible (apply Ext.trans'; assumption; assumption)) | (with_reducible (apply Ext.cell; apply Ext.trans'; assumption; assumption; assumption)) | (with_reducible (apply Ext.trans'; assumption; apply Ext.trans'; assumption; assumption)) | (with_reducible (apply Ext.cell; apply Ext.trans'; assumption; apply Ext.trans'; assumption; assumption; assumption)) | assumption))
        (first
          | (go_at_call 13; refine (T1.out _ ?_).mono ?_; (exact B.out.trans (And.left (by assumption))); rintro e wt ⟨v9, rfl, hv9, e9⟩; try replace e9 := Ext.undrew e9)
          | (go_at_call 15; refine (lawseqTerm_any t1 t1 _ _ _ _ _ (Tm.at_ext e9 V1.out) hv9).mono ?_; rw [same_refl]; rintro e wu1 ⟨rfl, e10⟩; try replace e10 := Ext.undrew e10))
      have q := e9.trans e10
      clear hv9 e9 e10
      clear ka10 ka11 ka12 ka13
      clear kx10 kx11 kx12 kx13
      have A0 := Lib.hid (A0.out.ext q)
      have A1 := Lib.hid (A1.out.ext q)
      have B := Lib.hid (B.out.trans q)
      have V0 := Lib.hid (Tm.at_ext q V0.out)
      have X0 := Lib.hid (X0.out.ext q)
      have V1 := Lib.hid (Tm.at_ext q V1.out)
      have X1 := Lib.hid (X1.out.ext q)
      clear q
      go_wp2_with fail
      go_ret
      exact ⟨rfl, B.out⟩
    · have Y1 := Lib.hid (leftF_no l1)
      go_enter Try.func3, Try.ntmps3
      go_wp2_with fail
      refine (Z0.out 1048576 (Nat.le_refl _) _ ((Ext.alloc _ _).trans (Ext.alloc _ _))).mono ?_
      rw [Y0.out]
      rintro e w1 ⟨rfl, q⟩
      have A0 := Lib.hid (show BoxT w1 w.heap.size (.int .i64 t0.kind) (.int .i64 t0.n) (.string t0.name) (.slice x0 t0.kids.length y0) from BoxT.ext (by refine ⟨?_, ?_, ?_, ?_, ?_, ?_, ?_, ?_⟩ <;> go_simp) q)
      have A1 := Lib.hid (show BoxT w1 (w.heap.size + 1) (.int .i64 t1.kind) (.int .i64 t1.n) (.string t1.name) (.slice x1 t1.kids.length y1) from BoxT.ext (by refine ⟨?_, ?_, ?_, ?_, ?_, ?_, ?_, ?_⟩ <;> go_simp) q)
      have B := Lib.hid (((Ext.alloc _ _).trans (Ext.alloc _ _)).trans q)
      clear q
      obtain ⟨ka10, ka11, ka12, ka13, _, _, _, _⟩ := A1.out
      go_wp2_with fail
      refine (Z1.out (1048576 - Tm.wt t0) (by omega) _ B.out).mono ?_
      rw [Y1.out]
      rintro e w2 ⟨rfl, q⟩
      clear ka10 ka11 ka12 ka13
      have A0 := Lib.hid (A0.out.ext q)
      have A1 := Lib.hid (A1.out.ext q)
      have B := Lib.hid (B.out.trans q)
      clear q
      go_wp2_with fail
      go_ret
      exact ⟨rfl, B.out⟩
  · have Y0 := Lib.hid (leftF_no l0)
    go_enter Try.func3, Try.ntmps3
    go_wp2_with fail
    refine (Z0.out 1048576 (Nat.le_refl _) _ ((Ext.alloc _ _).trans (Ext.alloc _ _))).mono ?_
    rw [Y0.out]
    rintro e w1 ⟨rfl, q⟩
    have A0 := Lib.hid (show BoxT w1 w.heap.size (.int .i64 t0.kind) (.int .i64 t0.n) (.string t0.name) (.slice x0 t0.kids.length y0) from BoxT.ext (by refine ⟨?_, ?_, ?_, ?_, ?_, ?_, ?_, ?_⟩ <;> go_simp) q)
    have A1 := Lib.hid (show BoxT w1 (w.heap.size + 1) (.int .i64 t1.kind) (.int .i64 t1.n) (.string t1.name) (.slice x1 t1.kids.length y1) from BoxT.ext (by refine ⟨?_, ?_, ?_, ?_, ?_, ?_, ?_, ?_⟩ <;> go_simp) q)
    have B := Lib.hid (((Ext.alloc _ _).trans (Ext.alloc _ _)).trans q)
    clear q
    go_wp2_with fail
    go_ret
    exact ⟨rfl, B.out⟩

set_option maxRecDepth 100000 in
theorem lifted (os : Os) (started : os.Started) (H : Type) (enc : TypeId × Value → H) :
    ReturnsInHanded {} Try.checked os 3 .any (Rows.fnExactInstanceOfSpec.pre6 enc Try.prog Try.f3 Rows.fnExactInstanceOfRow.domain false) (Rows.fnExactInstanceOfSpec.post enc Try.prog Try.f3 false true false false) := by
  refine returnsInHanded_of_change (C := Try.checked) own started (by kernel_rfl) Try.func3
    (ChangeSpec.witness6 (enc := enc) (C := Try.checked) false ⟨#[], #[.agg #[.int .i64 0, .int .i64 0, .string ByteArray.empty, .slice none 0 0], .agg #[.int .i64 0, .int .i64 0, .string ByteArray.empty, .slice none 0 0]], []⟩ 8 (by kernel_rfl) (by kernel_rfl) (by kernel_rfl) (by kernel_rfl)) ?_
  intro W base args ds gs before hval0 hW hcnd _
  have hval : ∀ (j : Nat) t v, Try.f3.params[j]? = some t → args[j]? = some v → Value.okWide Try.prog W .any base t v := hval0
  have hW' := hW
  obtain ⟨p, q, hA0, hV, rfl, hfz, hnd⟩ := hW
  have hA : DataW.TrodAll enc Try.prog W 0 (fun _ => true) true Try.f3.params.toList args.toList ds p := hA0
  rw [Try.params3] at hA hval
  obtain ⟨v0, vs0, d0, ds0, p0, q0, hargs, rfl, rfl, h0, r0⟩ := trodAll_cons hA
  obtain ⟨v1, vs1, d1, ds1, p1, q1, rfl, rfl, rfl, h1, r1⟩ := trodAll_cons r0
  obtain ⟨rfl, rfl, rfl⟩ := trodAll_nil r1
  obtain rfl : args = #[v0, v1] := by cases args; simp_all
  obtain ⟨rfl, rfl⟩ := trodVars_none hV
  have k0 := h0
  have lt0 : ∀ x ∈ p0, x.block < W.heap.size := by obtain ⟨m, hm⟩ := k0; exact DataW.trod_lt m _ _ _ hm
  have w0 := lterm_of_trod (hval 0 24 v0 rfl rfl) h0
  have k1 := h1
  have lt1 : ∀ x ∈ p1, x.block < W.heap.size := by obtain ⟨m, hm⟩ := k1; exact DataW.trod_lt m _ _ _ hm
  have w1 := lterm_of_trod (hval 1 24 v1 rfl rfl) h1
  clear hA0 hval0 hval
  refine (walk _ _ W w0 w1).mono fun e W' ⟨he, bel⟩ => ?_
  subst he
  exact ⟨_, rfl, _, _, _, [], _, [], hW', trodAll_mk1 (shut_bool Try.underlying4 _), (trodAll_cons_mk (Below.trod laidOut (by kernel_rfl) (of_decide_eq_true (by kernel_rfl)) k0 bel lt0) (trodAll_cons_mk (Below.trod laidOut (by kernel_rfl) (of_decide_eq_true (by kernel_rfl)) k1 bel lt1) trodAll_mk0)), rfl, bel.frame _, fun h => by cases h⟩

set_option maxRecDepth 100000 in
theorem over : Rows.fnExactInstanceOfRow.holds Try.pinned (OpenSpec.ofChange Rows.fnExactInstanceOfSpec) :=
  OpenClaim.holds_of_wide 3 Try.f3 rfl rfl rfl rfl rfl rfl rfl ⟨rfl, rfl, rfl, rfl, rfl⟩ rfl rfl rfl rfl rfl (by kernel_rfl) Try.func3 (by kernel_rfl)
    (of_decide_eq_true (by kernel_rfl)) (by unfold Func.isWrapper; first | (rw [if_pos (by decide +kernel)]; kernel_rfl) | (rw [if_neg (by decide +kernel)]; exact ⟨rfl, rfl⟩))
    (fun os started H enc _ => lifted os started H enc)

/-- the statement -/
theorem proved : Rows.FnExactInstanceOfSaid := over
end Go.Proofs.Yteplfajhmpmklaa.fnExactInstanceOf
