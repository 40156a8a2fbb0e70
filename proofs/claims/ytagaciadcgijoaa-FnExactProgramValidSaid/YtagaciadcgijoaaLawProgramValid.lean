/-
  For every program (of any size) FnExactProgramValid returns true: the program's ProgramValid and the reference's return the same, and leave the arguments as they were.
-/
import Derived.Test.YtagaciadcgijoaaRows
import Derived.Test.YtagaciadcgijoaaClProg
import Derived.Test.YtagaciadcgijoaaClOpen
import Derived.Test.YtagaciadcgijoaaClValid
import Derived.Deep.RegionHeld3
import Derived.ProofKit
import Derived.OpenShut
import Derived.ShutString
namespace Go.Proofs.Ytagaciadcgijoaa.fnExactProgramValid
open Go.ChangeShapes Go.WideShapes Go.ChangeAt Go.RowKit
open Go.ChangeMaps (open_string shut_string)
set_option linter.unusedVariables false

theorem own : ownKnob Try.prog.godebug = none := by kernel_rfl
theorem laidOut : laidOutB Try.prog = true := by kernel_rfl

set_option maxRecDepth 100000 in
set_option maxHeartbeats 8000000 in
theorem walk (a0 : Value) (w : World) (h0 : ∃ x, Lc.sl (fun _ => True) w x a0) :
    Calls Try.prog 9 #[a0] w fun e w' => e = .returned (.bool true) ∧ Below w.heap.size w w' := by
  obtain ⟨cs0, h0⟩ := h0
  have Z0 := Lib.hid (fun (l : Nat) (hl : l ≤ 1048576) w' (e' : Ext w w') => lawszClauseS cs0 _ l _ w' hl (Lc.sl_ext e' h0))
  have T0 := Lib.hid (fun (hl : (cs0.length + Cl.wtL cs0) ≤ 1048576) w' (e' : Ext w w') => lawstoClauseS cs0 _ _ w' hl (Lc.sl_ext e' h0))
  obtain ⟨x0, y0, rfl, _⟩ := h0
  skip
  by_cases l0 : (cs0.length + Cl.wtL cs0) ≤ 1048576
  · have Y0 := Lib.hid (leftF_yes l0)
    have t0' := T0.out (by omega)
    have T0 := Lib.hid t0'
    clear t0'
    go_enter Try.func9, Try.ntmps9
    go_wp2_with fail
    refine (Z0.out 1048576 (Nat.le_refl _) _ (Ext.refl _)).mono ?_
    rw [Y0.out]
    rintro e w1 ⟨rfl, q⟩
    have B := Lib.hid ((Ext.refl _).trans q)
    clear q
    go_wp2_with fail
    refine (T0.out _ B.out).mono ?_
    rintro e w2 ⟨v0, rfl, hv0, q⟩
    have B := Lib.hid (B.out.trans q)
    clear q
    have R0 := Lib.hid hv0
    clear hv0
    go_wp2_with fail
    refine (specProgramValid cs0 _ _ _ R0.out).mono ?_
    rintro e w3 ⟨rfl, q⟩
    have B := Lib.hid (B.out.trans q)
    have R0 := Lib.hid (Cl.sl_ext q R0.out)
    clear q
    clear R0
    go_wp2_with fail
    refine (T0.out _ B.out).mono ?_
    rintro e w4 ⟨v0, rfl, hv0, q⟩
    have B := Lib.hid (B.out.trans q)
    clear q
    have hf := hv0
    obtain ⟨ax0, ay0, rfl, _⟩ := hf
    have V0 := Lib.hid hv0
    clear hv0
    go_wp2_with fail
    refine (implProgramValid cs0 _ _ _ V0.out).mono ?_
    rintro e w5 ⟨rfl, q⟩
    have B := Lib.hid (B.out.trans q)
    have V0 := Lib.hid (Cl.sl_ext q V0.out)
    clear q
    have hne0 := (show (prValidF cs0 != prValidF cs0) = false by simp)
    go_wp2_with fail
    refine (T0.out _ B.out).mono ?_
    rintro e w6 ⟨v9, rfl, hv9, q⟩
    have B := Lib.hid (B.out.trans q)
    have V0 := Lib.hid (Cl.sl_ext q V0.out)
    clear q
    have V9 := Lib.hid hv9
    clear hv9
    go_wp2_with fail
    refine (lawseqClauseS cs0 cs0 _ _ _ _ _ rfl V0.out V9.out).mono ?_
    rintro e w7 ⟨rfl, q⟩
    have B := Lib.hid (B.out.trans q)
    have V0 := Lib.hid (Cl.sl_ext q V0.out)
    have V9 := Lib.hid (Cl.sl_ext q V9.out)
    clear q
    clear V9
    go_wp2_with fail
    go_ret
    exact ⟨rfl, B.out⟩
  · have Y0 := Lib.hid (leftF_no l0)
    go_enter Try.func9, Try.ntmps9
    go_wp2_with fail
    refine (Z0.out 1048576 (Nat.le_refl _) _ (Ext.refl _)).mono ?_
    rw [Y0.out]
    rintro e w1 ⟨rfl, q⟩
    have B := Lib.hid ((Ext.refl _).trans q)
    clear q
    go_wp2_with fail
    go_ret
    exact ⟨rfl, B.out⟩

set_option maxRecDepth 100000 in
theorem lifted (os : Os) (started : os.Started) (H : Type) (enc : TypeId × Value → H) :
    ReturnsInHanded {} Try.checked os 9 .any (Rows.fnExactProgramValidSpec.pre6 enc Try.prog Try.f9 Rows.fnExactProgramValidRow.domain false) (Rows.fnExactProgramValidSpec.post enc Try.prog Try.f9 false true false false) := by
  refine returnsInHanded_of_change (C := Try.checked) own started (by kernel_rfl) Try.func9
    (ChangeSpec.witness6 (enc := enc) (C := Try.checked) false ⟨#[], #[.slice none 0 0], []⟩ 8 (by kernel_rfl) (by kernel_rfl) (by kernel_rfl) (by kernel_rfl)) ?_
  intro W base args ds gs before hval0 hW hcnd _
  have hval : ∀ (j : Nat) t v, Try.f9.params[j]? = some t → args[j]? = some v → Value.okWide Try.prog W .any base t v := hval0
  have hW' := hW
  obtain ⟨p, q, hA0, hV, rfl, hfz, hnd⟩ := hW
  have hA : DataW.TrodAll enc Try.prog W 0 (fun _ => true) true Try.f9.params.toList args.toList ds p := hA0
  rw [Try.params9] at hA hval
  obtain ⟨v0, vs0, d0, ds0, p0, q0, hargs, rfl, rfl, h0, r0⟩ := trodAll_cons hA
  obtain ⟨rfl, rfl, rfl⟩ := trodAll_nil r0
  obtain rfl : args = #[v0] := by cases args; simp_all
  obtain ⟨rfl, rfl⟩ := trodVars_none hV
  have k0 := h0
  have lt0 : ∀ x ∈ p0, x.block < W.heap.size := by obtain ⟨m, hm⟩ := k0; exact DataW.trod_lt m _ _ _ hm
  have w0 := lclauses_arg (hval 0 56 v0 rfl rfl) h0
  clear hA0 hval0 hval
  refine (walk _ W w0).mono fun e W' ⟨he, bel⟩ => ?_
  subst he
  exact ⟨_, rfl, _, _, _, [], _, [], hW', trodAll_mk1 (shut_bool Try.underlying4 _), (trodAll_cons_mk (Below.trod laidOut (by kernel_rfl) (of_decide_eq_true (by kernel_rfl)) k0 bel lt0) trodAll_mk0), rfl, bel.frame _, fun h => by cases h⟩

set_option maxRecDepth 100000 in
theorem over : Rows.fnExactProgramValidRow.holds Try.pinned (OpenSpec.ofChange Rows.fnExactProgramValidSpec) :=
  OpenClaim.holds_of_wide 9 Try.f9 rfl rfl rfl rfl rfl rfl rfl ⟨rfl, rfl, rfl, rfl, rfl⟩ rfl rfl rfl rfl rfl (by kernel_rfl) Try.func9 (by kernel_rfl)
    (of_decide_eq_true (by kernel_rfl)) (by unfold Func.isWrapper; first | (rw [if_pos (by decide +kernel)]; kernel_rfl) | (rw [if_neg (by decide +kernel)]; exact ⟨rfl, rfl⟩))
    (fun os started H enc _ => lifted os started H enc)

/-- the statement -/
theorem proved : Rows.FnExactProgramValidSaid := over
end Go.Proofs.Ytagaciadcgijoaa.fnExactProgramValid
