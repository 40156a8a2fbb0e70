/-
  For every two terms (of any size) FnExactCompareTerms returns true: the program's CompareTerms and the reference's return the same, and leave the terms as they were.
-/
import Derived.Test.YtmbapobjopbceaaRows
import Derived.Test.YtmbapobjopbceaaSame2
import Derived.Test.YtmbapobjopbceaaToTerm
import Derived.Test.YtmbapobjopbceaaCmpT
import Derived.Deep.RegionHeld3
import Derived.ProofKit
import Derived.OpenShut
import Derived.ShutString
namespace Go.Proofs.Ytmbapobjopbceaa.fnExactCompareTerms
open Go.ChangeShapes Go.WideShapes Go.ChangeAt Go.RowKit
open Go.ChangeMaps (open_string shut_string)
set_option linter.unusedVariables false

theorem own : ownKnob Try.prog.godebug = none := by kernel_rfl
theorem laidOut : laidOutB Try.prog = true := by kernel_rfl

set_option maxHeartbeats 1000000 in
theorem walk (a0 a1 : Value) (w : World) (h0 : ∃ t, Lt.at (fun _ => True) w t a0) (h1 : ∃ t, Lt.at (fun _ => True) w t a1) :
    Calls Try.prog 3 #[a0, a1] w fun e w' => e = .returned (.bool true) ∧ Below w.heap.size w w' := by
  obtain ⟨t0, h0⟩ := h0
  obtain ⟨t1, h1⟩ := h1
  have Z0 := Lib.hid (fun (l : Nat) (hl : l ≤ 1048576) w' (e' : Ext w w') => lawszTerm_any t0 a0 l _ w' hl (Lt.at_ext e' h0))
  have Z1 := Lib.hid (fun (l : Nat) (hl : l ≤ 1048576) w' (e' : Ext w w') => lawszTerm_any t1 a1 l _ w' hl (Lt.at_ext e' h1))
  have T0 := Lib.hid (fun (hl : Tm.wt t0 ≤ 1048576) w' (e' : Ext w w') => lawstoTerm_any t0 a0 _ w' hl (Lt.at_ext e' h0))
  have T1 := Lib.hid (fun (hl : Tm.wt t1 ≤ 1048576) w' (e' : Ext w w') => lawstoTerm_any t1 a1 _ w' hl (Lt.at_ext e' h1))
  obtain ⟨_, sv0, rfl, x0, y0, rfl, _⟩ := Lt.at_iff.1 h0
  obtain ⟨_, sv1, rfl, x1, y1, rfl, _⟩ := Lt.at_iff.1 h1
  clear h0 h1
  by_cases l0 : Tm.wt t0 ≤ 1048576
  · by_cases l1 : Tm.wt t1 ≤ 1048576 - Tm.wt t0
    · have Y0 := Lib.hid (leftF_yes l0)
      have Y1 := Lib.hid (leftF_yes l1)
      have t0' := T0.out l0
      have t1' := T1.out (by omega)
      have T0 := Lib.hid t0'
      have T1 := Lib.hid t1'
      clear t0' t1'
      go_enter Try.func3, Try.ntmps3
      go_wp2_with fail
      refine (Z0.out 1048576 (Nat.le_refl _) _ ((Ext.alloc _ _).trans (Ext.alloc _ _))).mono ?_
      rw [Y0.out]
      rintro e w1 ⟨rfl, e1⟩
      have B := Lib.hid e1
      have c0 := e1.cell (a := ⟨w.heap.size, 0, none⟩) (v := .int .i64 t0.kind) (by go_simp)
      have c1 := e1.cell (a := ⟨w.heap.size, 1, none⟩) (v := .int .i64 t0.n) (by go_simp)
      have c2 := e1.cell (a := ⟨w.heap.size, 2, none⟩) (v := .string t0.name) (by go_simp)
      have c3 := e1.cell (a := ⟨w.heap.size, 3, none⟩) (v := .slice x0 t0.kids.length y0) (by go_simp)
      have d0 := e1.cell (a := ⟨w.heap.size + 1, 0, none⟩) (v := .int .i64 t1.kind) (by go_simp)
      have d1 := e1.cell (a := ⟨w.heap.size + 1, 1, none⟩) (v := .int .i64 t1.n) (by go_simp)
      have d2 := e1.cell (a := ⟨w.heap.size + 1, 2, none⟩) (v := .string t1.name) (by go_simp)
      have d3 := e1.cell (a := ⟨w.heap.size + 1, 3, none⟩) (v := .slice x1 t1.kids.length y1) (by go_simp)
      have B : Hid (Ext w w1) := Lib.hid (((Ext.alloc _ _).trans (Ext.alloc _ _)).trans e1)
      clear e1
      go_wp2_with fail
      refine (Z1.out (1048576 - Tm.wt t0) (by omega) _ B.out).mono ?_
      rw [Y1.out]
      rintro e w2 ⟨rfl, e2⟩
      replace c0 := e2.cell c0
      replace c1 := e2.cell c1
      replace c2 := e2.cell c2
      replace c3 := e2.cell c3
      replace d0 := e2.cell d0
      replace d1 := e2.cell d1
      replace d2 := e2.cell d2
      replace d3 := e2.cell d3
      have B : Hid (Ext w w2) := Lib.hid (B.out.trans e2)
      clear e2
      go_wp2_with fail
      go_region_held3 (fun w' => Ext w2 w' ∧ w'.cell? ⟨w.heap.size, 0, none⟩ = some (.int .i64 t0.kind) ∧ w'.cell? ⟨w.heap.size, 1, none⟩ = some (.int .i64 t0.n) ∧ w'.cell? ⟨w.heap.size, 2, none⟩ = some (.string t0.name) ∧ w'.cell? ⟨w.heap.size, 3, none⟩ = some (.slice x0 t0.kids.length y0) ∧
          w'.cell? ⟨w.heap.size + 1, 0, none⟩ = some (.int .i64 t1.kind) ∧ w'.cell? ⟨w.heap.size + 1, 1, none⟩ = some (.int .i64 t1.n) ∧ w'.cell? ⟨w.heap.size + 1, 2, none⟩ = some (.string t1.name) ∧ w'.cell? ⟨w.heap.size + 1, 3, none⟩ = some (.slice x1 t1.kids.length y1))
        ((refine ⟨?_, ?_, ?_, ?_, ?_, ?_, ?_, ?_, ?_⟩ <;> first | assumption | exact Ext.drew _ | (apply Ext.cell; assumption; assumption) | (apply Ext.trans'; assumption; assumption) | (apply Ext.cell; apply Ext.trans'; assumption; assumption; assumption) | (apply Ext.trans'; assumption; apply Ext.trans'; assumption; assumption) | (apply Ext.cell; apply Ext.trans'; assumption; apply Ext.trans'; assumption; assumption; assumption)))
        (first
          | (go_at_call_of 17 (Value.string t0.name); refine (T0.out _ ?_).mono ?_; (exact B.out.trans (And.left (by assumption))); rintro e w3 ⟨v3, rfl, hv3, e3⟩; try replace e3 := Ext.undrew e3)
          | (go_at_call_of 17 (Value.string t1.name); refine (T1.out _ ?_).mono ?_; (exact B.out.trans (And.left (by assumption))); rintro e w4 ⟨v4, rfl, hv4, e4⟩; try replace e4 := Ext.undrew e4)
          | (go_at_call 16; refine (specCompareTerms t0 t1 _ _ _ _ _ (Tm.at_ext e4 hv3) hv4).mono ?_; rintro e w5 ⟨rfl, e5⟩; try replace e5 := Ext.undrew e5))
      have q5 := (e3.trans e4).trans e5
      replace c0 := q5.cell c0
      replace c1 := q5.cell c1
      replace c2 := q5.cell c2
      replace c3 := q5.cell c3
      replace d0 := q5.cell d0
      replace d1 := q5.cell d1
      replace d2 := q5.cell d2
      replace d3 := q5.cell d3
      have B : Hid (Ext w w5) := Lib.hid (B.out.trans q5)
      clear hv3 hv4 e3 e4 e5 q5
      go_wp2_with fail
      refine (T0.out _ B.out).mono ?_
      rintro e w6 ⟨v6, rfl, hv6, e6⟩
      obtain ⟨_, sv6, rfl, x6, y6, rfl, _⟩ := Tm.at_iff.1 hv6
      replace c0 := e6.cell c0
      replace c1 := e6.cell c1
      replace c2 := e6.cell c2
      replace c3 := e6.cell c3
      replace d0 := e6.cell d0
      replace d1 := e6.cell d1
      replace d2 := e6.cell d2
      replace d3 := e6.cell d3
      have B : Hid (Ext w w6) := Lib.hid (B.out.trans e6)
      have V6 := Lib.hid hv6
      have hb1 := block_lt_of_cell d0
      simp only at hb1
      clear e6 hv6
      go_wp2_with fail
      refine (T1.out _ (B.out.trans (Ext.alloc _ _))).mono ?_
      rintro e w7 ⟨v7, rfl, hv7, e7⟩
      obtain ⟨_, sv7, rfl, x7, y7, rfl, _⟩ := Tm.at_iff.1 hv7
      have V7 := Lib.hid hv7
      have V6 := Lib.hid (Tm.at_ext ((Ext.alloc _ _).trans e7) V6.out)
      have B : Hid (Ext w w7) := Lib.hid ((B.out.trans (Ext.alloc _ _)).trans e7)
      have g0 := e7.cell (a := ⟨w6.heap.size, 0, none⟩) (v := .int .i64 t0.kind) (by go_simp)
      have g1 := e7.cell (a := ⟨w6.heap.size, 1, none⟩) (v := .int .i64 t0.n) (by go_simp)
      have g2 := e7.cell (a := ⟨w6.heap.size, 2, none⟩) (v := .string t0.name) (by go_simp)
      have g3 := e7.cell (a := ⟨w6.heap.size, 3, none⟩) (v := .slice x6 t0.kids.length y6) (by go_simp)
      have q7 := (Ext.alloc _ _).trans e7
      replace c0 := q7.cell c0
      replace c1 := q7.cell c1
      replace c2 := q7.cell c2
      replace c3 := q7.cell c3
      replace d0 := q7.cell d0
      replace d1 := q7.cell d1
      replace d2 := q7.cell d2
      replace d3 := q7.cell d3
      have hb2 := block_lt_of_cell g0
      simp only at hb2
      clear hv7 e7 q7 hb1
      have hb1 := block_lt_of_cell d0
      simp only at hb1
      go_wp2_with fail
      refine (implCompareTerms t0 t1 _ _ _ _ _ (Tm.at_ext (Ext.alloc _ _) V6.out) (Tm.at_ext (Ext.alloc _ _) V7.out)).mono ?_
      rintro e w8 ⟨rfl, e8⟩
      have i0 := e8.cell (a := ⟨w7.heap.size, 0, none⟩) (v := .int .i64 t1.kind) (by go_simp)
      have i1 := e8.cell (a := ⟨w7.heap.size, 1, none⟩) (v := .int .i64 t1.n) (by go_simp)
      have i2 := e8.cell (a := ⟨w7.heap.size, 2, none⟩) (v := .string t1.name) (by go_simp)
      have i3 := e8.cell (a := ⟨w7.heap.size, 3, none⟩) (v := .slice x7 t1.kids.length y7) (by go_simp)
      have q8 := (Ext.alloc _ _).trans e8
      replace c0 := q8.cell c0
      replace c1 := q8.cell c1
      replace c2 := q8.cell c2
      replace c3 := q8.cell c3
      replace d0 := q8.cell d0
      replace d1 := q8.cell d1
      replace d2 := q8.cell d2
      replace d3 := q8.cell d3
      replace g0 := q8.cell g0
      replace g1 := q8.cell g1
      replace g2 := q8.cell g2
      replace g3 := q8.cell g3
      have V6 := Lib.hid (Tm.at_ext q8 V6.out)
      have V7 := Lib.hid (Tm.at_ext q8 V7.out)
      have B : Hid (Ext w w8) := Lib.hid (B.out.trans q8)
      clear e8 q8 hb1 hb2
      have hne : (ctF t0 t1 != ctF t0 t1) = false := by simp
      go_wp2_with fail
      go_region_held3 (fun w' => Ext w8 w' ∧ w'.cell? ⟨w.heap.size, 0, none⟩ = some (.int .i64 t0.kind) ∧ w'.cell? ⟨w.heap.size, 1, none⟩ = some (.int .i64 t0.n) ∧ w'.cell? ⟨w.heap.size, 2, none⟩ = some (.string t0.name) ∧ w'.cell? ⟨w.heap.size, 3, none⟩ = some (.slice x0 t0.kids.length y0) ∧
          w'.cell? ⟨w6.heap.size, 0, none⟩ = some (.int .i64 t0.kind) ∧ w'.cell? ⟨w6.heap.size, 1, none⟩ = some (.int .i64 t0.n) ∧ w'.cell? ⟨w6.heap.size, 2, none⟩ = some (.string t0.name) ∧ w'.cell? ⟨w6.heap.size, 3, none⟩ = some (.slice x6 t0.kids.length y6))
        ((refine ⟨?_, ?_, ?_, ?_, ?_, ?_, ?_, ?_, ?_⟩ <;> first | assumption | exact Ext.drew _ | (apply Ext.cell; assumption; assumption) | (apply Ext.trans'; assumption; assumption) | (apply Ext.cell; apply Ext.trans'; assumption; assumption; assumption) | (apply Ext.trans'; assumption; apply Ext.trans'; assumption; assumption) | (apply Ext.cell; apply Ext.trans'; assumption; apply Ext.trans'; assumption; assumption; assumption)))
        (first
          | (go_at_call 17; refine (T0.out _ ?_).mono ?_; (exact B.out.trans (And.left (by assumption))); rintro e w9 ⟨v9, rfl, hv9, e9⟩; try replace e9 := Ext.undrew e9)
          | (go_at_call 19; refine (lawseqTerm_any t0 t0 _ _ _ _ _ (Tm.at_ext e9 V6.out) hv9).mono ?_; rw [same_refl]; rintro e w10 ⟨rfl, e10⟩; try replace e10 := Ext.undrew e10))
      have q10 := e9.trans e10
      replace d0 := q10.cell d0
      replace d1 := q10.cell d1
      replace d2 := q10.cell d2
      replace d3 := q10.cell d3
      replace i0 := q10.cell i0
      replace i1 := q10.cell i1
      replace i2 := q10.cell i2
      replace i3 := q10.cell i3
      have V7 := Lib.hid (Tm.at_ext q10 V7.out)
      have B : Hid (Ext w w10) := Lib.hid (B.out.trans q10)
      clear e9 e10 q10 hv9 c0 c1 c2 c3 g0 g1 g2 g3
      go_wp2_with fail
      go_region_held3 (fun w' => Ext w10 w' ∧ w'.cell? ⟨w.heap.size + 1, 0, none⟩ = some (.int .i64 t1.kind) ∧ w'.cell? ⟨w.heap.size + 1, 1, none⟩ = some (.int .i64 t1.n) ∧ w'.cell? ⟨w.heap.size + 1, 2, none⟩ = some (.string t1.name) ∧ w'.cell? ⟨w.heap.size + 1, 3, none⟩ = some (.slice x1 t1.kids.length y1) ∧
          w'.cell? ⟨w7.heap.size, 0, none⟩ = some (.int .i64 t1.kind) ∧ w'.cell? ⟨w7.heap.size, 1, none⟩ = some (.int .i64 t1.n) ∧ w'.cell? ⟨w7.heap.size, 2, none⟩ = some (.string t1.name) ∧ w'.cell? ⟨w7.heap.size, 3, none⟩ = some (.slice x7 t1.kids.length y7))
        ((refine ⟨?_, ?_, ?_, ?_, ?_, ?_, ?_, ?_, ?_⟩ <;> first | assumption | exact Ext.drew _ | (apply Ext.cell; assumption; assumption) | (apply Ext.trans'; assumption; assumption) | (apply Ext.cell; apply Ext.trans'; assumption; assumption; assumption) | (apply Ext.trans'; assumption; apply Ext.trans'; assumption; assumption) | (apply Ext.cell; apply Ext.trans'; assumption; apply Ext.trans'; assumption; assumption; assumption)))
        (first
          | (go_at_call 17; refine (T1.out _ ?_).mono ?_; (exact B.out.trans (And.left (by assumption))); rintro e w11 ⟨v11, rfl, hv11, e11⟩; try replace e11 := Ext.undrew e11)
          | (go_at_call 19; refine (lawseqTerm_any t1 t1 _ _ _ _ _ (Tm.at_ext e11 V7.out) hv11).mono ?_; rw [same_refl]; rintro e w12 ⟨rfl, e12⟩; try replace e12 := Ext.undrew e12))
      go_wp2_with fail
      go_ret
      exact ⟨rfl, (B.out.trans e11).trans e12⟩
    · have Y0 := Lib.hid (leftF_yes l0)
      have Y1 := Lib.hid (leftF_no l1)
      go_enter Try.func3, Try.ntmps3
      go_wp2_with fail
      refine (Z0.out 1048576 (Nat.le_refl _) _ ((Ext.alloc _ _).trans (Ext.alloc _ _))).mono ?_
      rw [Y0.out]
      rintro e w1 ⟨rfl, e1⟩
      have d0 := e1.cell (a := ⟨w.heap.size + 1, 0, none⟩) (v := .int .i64 t1.kind) (by go_simp)
      have d1 := e1.cell (a := ⟨w.heap.size + 1, 1, none⟩) (v := .int .i64 t1.n) (by go_simp)
      have d2 := e1.cell (a := ⟨w.heap.size + 1, 2, none⟩) (v := .string t1.name) (by go_simp)
      have d3 := e1.cell (a := ⟨w.heap.size + 1, 3, none⟩) (v := .slice x1 t1.kids.length y1) (by go_simp)
      have B : Hid (Ext w w1) := Lib.hid (((Ext.alloc _ _).trans (Ext.alloc _ _)).trans e1)
      clear e1
      go_wp2_with fail
      refine (Z1.out (1048576 - Tm.wt t0) (by omega) _ B.out).mono ?_
      rw [Y1.out]
      rintro e w2 ⟨rfl, e2⟩
      go_wp2_with fail
      go_ret
      exact ⟨rfl, B.out.trans e2⟩
  · have Y0 := Lib.hid (leftF_no l0)
    go_enter Try.func3, Try.ntmps3
    go_wp2_with fail
    refine (Z0.out 1048576 (Nat.le_refl _) _ ((Ext.alloc _ _).trans (Ext.alloc _ _))).mono ?_
    rw [Y0.out]
    rintro e w1 ⟨rfl, e1⟩
    go_wp2_with fail
    go_ret
    exact ⟨rfl, ((Ext.alloc _ _).trans (Ext.alloc _ _)).trans e1⟩

set_option maxRecDepth 100000 in
theorem lifted (os : Os) (started : os.Started) (H : Type) (enc : TypeId × Value → H) :
    ReturnsInHanded {} Try.checked os 3 .any (Rows.fnExactCompareTermsSpec.pre6 enc Try.prog Try.f3 Rows.fnExactCompareTermsRow.domain false) (Rows.fnExactCompareTermsSpec.post enc Try.prog Try.f3 false true false false) := by
  refine returnsInHanded_of_change (C := Try.checked) own started (by kernel_rfl) Try.func3
    (ChangeSpec.witness6 (enc := enc) (C := Try.checked) false ⟨#[], #[.agg #[.int .i64 0, .int .i64 0, .string ByteArray.empty, .slice none 0 0], .agg #[.int .i64 0, .int .i64 0, .string ByteArray.empty, .slice none 0 0]], []⟩ 8 (by kernel_rfl) (by kernel_rfl) (by kernel_rfl) (by kernel_rfl)) ?_
  intro W base args ds gs before hval0 hW hcnd _
  have hval : ∀ (j : Nat) t v, Try.f3.params[j]? = some t → args[j]? = some v → Value.okWide Try.prog W .any base t v := hval0
  have hW' := hW
  obtain ⟨p, q, hA0, hV, rfl, hfz, hnd⟩ := hW
  have hA : DataW.TrodAll enc Try.prog W 0 (fun _ => true) true Try.f3.params.toList args.toList ds p := hA0
  rw [Try.params3] at hA hval
  obtain ⟨v0, vs0, d0, ds0, p0, q0, hargs, rfl, rfl, h0, r0⟩ := trodAll_cons hA
  obtain ⟨v1, vs1, d1, ds1, p1, q1, rfl, rfl, rfl, h1, r1⟩ := trodAll_cons r0
  obtain ⟨rfl, rfl, rfl⟩ := trodAll_nil r1
  obtain rfl : args = #[v0, v1] := by cases args; simp_all
  obtain ⟨rfl, rfl⟩ := trodVars_none hV
  have k0 := h0
  have lt0 : ∀ x ∈ p0, x.block < W.heap.size := by obtain ⟨m, hm⟩ := k0; exact DataW.trod_lt m _ _ _ hm
  have w0 := lterm_of_trod (hval 0 24 v0 rfl rfl) h0
  have k1 := h1
  have lt1 : ∀ x ∈ p1, x.block < W.heap.size := by obtain ⟨m, hm⟩ := k1; exact DataW.trod_lt m _ _ _ hm
  have w1 := lterm_of_trod (hval 1 24 v1 rfl rfl) h1
  clear hA0 hval0 hval
  refine (walk _ _ W w0 w1).mono fun e W' ⟨he, bel⟩ => ?_
  subst he
  exact ⟨_, rfl, _, _, _, [], _, [], hW', trodAll_mk1 (shut_bool Try.underlying4 _), (trodAll_cons_mk (Below.trod laidOut (by kernel_rfl) (of_decide_eq_true (by kernel_rfl)) k0 bel lt0) (trodAll_cons_mk (Below.trod laidOut (by kernel_rfl) (of_decide_eq_true (by kernel_rfl)) k1 bel lt1) trodAll_mk0)), rfl, bel.frame _, fun h => by cases h⟩

set_option maxRecDepth 100000 in
theorem over : Rows.fnExactCompareTermsRow.holds Try.pinned (OpenSpec.ofChange Rows.fnExactCompareTermsSpec) :=
  OpenClaim.holds_of_wide 3 Try.f3 rfl rfl rfl rfl rfl rfl rfl ⟨rfl, rfl, rfl, rfl, rfl⟩ rfl rfl rfl rfl rfl (by kernel_rfl) Try.func3 (by kernel_rfl)
    (of_decide_eq_true (by kernel_rfl)) (by unfold Func.isWrapper; first | (rw [if_pos (by decide +kernel)]; kernel_rfl) | (rw [if_neg (by decide +kernel)]; exact ⟨rfl, rfl⟩))
    (fun os started H enc _ => lifted os started H enc)

/-- the statement -/
theorem proved : Rows.FnExactCompareTermsSaid := over
end Go.Proofs.Ytmbapobjopbceaa.fnExactCompareTerms
