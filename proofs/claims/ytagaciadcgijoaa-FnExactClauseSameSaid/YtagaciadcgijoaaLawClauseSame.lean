/-
  For every two clauses (of any size) FnExactClauseSame returns true: the program's ClauseSame and the reference's return the same, and leave the arguments as they were.
-/
import Derived.Test.YtagaciadcgijoaaRows
import Derived.Test.YtagaciadcgijoaaClSame
import Derived.Test.YtagaciadcgijoaaClOpen
import Derived.Deep.RegionHeld3
import Derived.ProofKit
import Derived.OpenShut
import Derived.ShutString
namespace Go.Proofs.Ytagaciadcgijoaa.fnExactClauseSame
open Go.ChangeShapes Go.WideShapes Go.ChangeAt Go.RowKit
open Go.ChangeMaps (open_string shut_string)
set_option linter.unusedVariables false

theorem own : ownKnob Try.prog.godebug = none := by kernel_rfl
theorem laidOut : laidOutB Try.prog = true := by kernel_rfl

set_option maxRecDepth 100000 in
set_option maxHeartbeats 8000000 in
theorem walk (a0 : Value) (a1 : Value) (w : World) (h0 : ∃ x, Lc.at (fun _ => True) w x a0) (h1 : ∃ x, Lc.at (fun _ => True) w x a1) :
    Calls Try.prog 6 #[a0, a1] w fun e w' => e = .returned (.bool true) ∧ Below w.heap.size w w' := by
  obtain ⟨c0, h0⟩ := h0
  have Z0 := Lib.hid (fun (l : Nat) (hl : l ≤ 1048576) w' (e' : Ext w w') => lawszClause c0 _ l _ w' hl (Lc.at_ext e' h0))
  have T0 := Lib.hid (fun (hl : Cl.wt c0 ≤ 1048576) w' (e' : Ext w w') => lawstoClause c0 _ _ w' hl (Lc.at_ext e' h0))
  obtain ⟨c1, h1⟩ := h1
  have Z1 := Lib.hid (fun (l : Nat) (hl : l ≤ 1048576) w' (e' : Ext w w') => lawszClause c1 _ l _ w' hl (Lc.at_ext e' h1))
  have T1 := Lib.hid (fun (hl : Cl.wt c1 ≤ 1048576) w' (e' : Ext w w') => lawstoClause c1 _ _ w' hl (Lc.at_ext e' h1))
  obtain ⟨x0, y0, z0, u0, rfl, _, _⟩ := Lc.form h0
  obtain ⟨x1, y1, z1, u1, rfl, _, _⟩ := Lc.form h1
  clear h0 h1
  by_cases l0 : Cl.wt c0 ≤ 1048576
  · have Y0 := Lib.hid (leftF_yes l0)
    by_cases l1 : Cl.wt c1 ≤ 1048576 - Cl.wt c0
    · have Y1 := Lib.hid (leftF_yes l1)
      have t0' := T0.out (by omega)
      have T0 := Lib.hid t0'
      clear t0'
      have t1' := T1.out (by omega)
      have T1 := Lib.hid t1'
      clear t1'
      go_enter Try.func6, Try.ntmps6
      go_wp2_with fail
      refine (Z0.out 1048576 (Nat.le_refl _) _ ((Ext.alloc _ _).trans (Ext.alloc _ _))).mono ?_
      rw [Y0.out]
      rintro e w1 ⟨rfl, q⟩
      have A0 := Lib.hid (show BoxC w1 w.heap.size (.int .i64 c0.head.kind) (.int .i64 c0.head.n) (.string c0.head.name) (.slice x0 c0.head.kids.length y0) (.slice z0 c0.body.length u0) from BoxC.ext (by refine ⟨?_, ?_, ?_, ?_, ?_, ?_, ?_, ?_, ?_, ?_⟩ <;> go_simp) q)
      have A1 := Lib.hid (show BoxC w1 (w.heap.size + 1) (.int .i64 c1.head.kind) (.int .i64 c1.head.n) (.string c1.head.name) (.slice x1 c1.head.kids.length y1) (.slice z1 c1.body.length u1) from BoxC.ext (by refine ⟨?_, ?_, ?_, ?_, ?_, ?_, ?_, ?_, ?_, ?_⟩ <;> go_simp) q)
      have B := Lib.hid (((Ext.alloc _ _).trans (Ext.alloc _ _)).trans q)
      clear q
      obtain ⟨ka10, ka11, ka12, ka13, ka14, _, _, _, _, _⟩ := A1.out
      go_wp2_with fail
      refine (Z1.out (1048576 - Cl.wt c0) (by omega) _ B.out).mono ?_
      rw [Y1.out]
      rintro e w2 ⟨rfl, q⟩
      clear ka10 ka11 ka12 ka13 ka14
      have A0 := Lib.hid (A0.out.ext q)
      have A1 := Lib.hid (A1.out.ext q)
      have B := Lib.hid (B.out.trans q)
      clear q
      obtain ⟨ka00, ka01, ka02, ka03, ka04, _, _, _, _, _⟩ := A0.out
      obtain ⟨ka10, ka11, ka12, ka13, ka14, _, _, _, _, _⟩ := A1.out
      go_wp2_with fail
      go_region_held3 (fun w' => Ext w2 w' ∧ w'.cell? ⟨w.heap.size, 0, none⟩ = some (.int .i64 c0.head.kind) ∧ w'.cell? ⟨w.heap.size, 1, none⟩ = some (.int .i64 c0.head.n) ∧ w'.cell? ⟨w.heap.size, 2, none⟩ = some (.string c0.head.name) ∧ w'.cell? ⟨w.heap.size, 3, none⟩ = some (.slice x0 c0.head.kids.length y0) ∧ w'.cell? ⟨w.heap.size, 4, none⟩ = some (.slice z0 c0.body.length u0) ∧ w'.cell? ⟨w.heap.size + 1, 0, none⟩ = some (.int .i64 c1.head.kind) ∧ w'.cell? ⟨w.heap.size + 1, 1, none⟩ = some (.int .i64 c1.head.n) ∧ w'.cell? ⟨w.heap.size + 1, 2, none⟩ = some (.string c1.head.name) ∧ w'.cell? ⟨w.heap.size + 1, 3, none⟩ = some (.slice x1 c1.head.kids.length y1) ∧ w'.cell? ⟨w.heap.size + 1, 4, none⟩ = some (.slice z1 c1.body.length u1))
        ((refine ⟨?_, ?_, ?_, ?_, ?_, ?_, ?_, ?_, ?_, ?_, ?_⟩ <;> first | with_reducible assumption | with_reducible exact Ext.drew _ | exact Ext.drew _ | (with_reducible (apply Ext.cell; assumption; assumption)) | (with_reducible (apply Ext.trans'; assumption; assumption)) | (with_reducible (apply Ext.cell; apply Ext.trans'; assumption; assumption; assumption)) | (with_reducible (apply Ext.trans'; assumption; apply Ext.trans'; assumption; assumption)) | (with_reducible (apply Ext.cell; apply Ext.trans'; assumption; apply Ext.trans'; assumption; assumption; assumption)) | assumption))
        (first
          | (go_at_call_of 27 (Value.string c0.head.name); refine (T0.out _ ?_).mono ?_; (exact B.out.trans (And.left (by assumption))); rintro e we0 ⟨v0, rfl, hv0, e0⟩; try replace e0 := Ext.undrew e0)
          | (go_at_call_of 27 (Value.string c1.head.name); refine (T1.out _ ?_).mono ?_; (exact B.out.trans (And.left (by assumption))); rintro e we1 ⟨v1, rfl, hv1, e1⟩; try replace e1 := Ext.undrew e1)
          | (go_at_call 26; refine (specClauseSame c0 c1 _ _ _ _ _ (Cl.at_ext e1 hv0) hv1).mono ?_; rintro e ws ⟨rfl, e2⟩; try replace e2 := Ext.undrew e2))
      have q := ((e0.trans e1).trans e2)
      clear hv0 hv1 e0 e1 e2
      clear ka00 ka01 ka02 ka03 ka04
      clear ka10 ka11 ka12 ka13 ka14
      have A0 := Lib.hid (A0.out.ext q)
      have A1 := Lib.hid (A1.out.ext q)
      have B := Lib.hid (B.out.trans q)
      clear q
      obtain ⟨ka00, ka01, ka02, ka03, ka04, _, _, _, _, _⟩ := A0.out
      go_wp2_with fail
      refine (T0.out _ B.out).mono ?_
      rintro e w3 ⟨v0, rfl, hv0, q⟩
      clear ka00 ka01 ka02 ka03 ka04
      have A0 := Lib.hid (A0.out.ext q)
      have A1 := Lib.hid (A1.out.ext q)
      have B := Lib.hid (B.out.trans q)
      clear q
      have hf := hv0
      obtain ⟨ax0, ay0, az0, au0, rfl, _, _⟩ := Cl.form hf
      have V0 := Lib.hid hv0
      clear hv0
      obtain ⟨ka10, ka11, ka12, ka13, ka14, _, _, _, _, _⟩ := A1.out
      have la1 := A1.out.lt
      go_wp2_with fail
      refine (T1.out _ (B.out.trans (Ext.alloc _ _))).mono ?_
      rintro e w4 ⟨v1, rfl, hv1, q⟩
      clear ka10 ka11 ka12 ka13 ka14
      clear la1
      have X0 := Lib.hid ((BoxC.new w3 (.int .i64 c0.head.kind) (.int .i64 c0.head.n) (.string c0.head.name) (.slice ax0 c0.head.kids.length ay0) (.slice az0 c0.body.length au0) 45 rfl).ext q)
      replace q := (Ext.alloc _ _).trans q
      have A0 := Lib.hid (A0.out.ext q)
      have A1 := Lib.hid (A1.out.ext q)
      have B := Lib.hid (B.out.trans q)
      have V0 := Lib.hid (Cl.at_ext q V0.out)
      clear q
      have hf := hv1
      obtain ⟨ax1, ay1, az1, au1, rfl, _, _⟩ := Cl.form hf
      have V1 := Lib.hid hv1
      clear hv1
      obtain ⟨kx00, kx01, kx02, kx03, kx04, _, _, _, _, _⟩ := X0.out
      have lx0 := X0.out.lt
      go_wp2_with fail
      refine (implClauseSame c0 c1 _ _ _ _ _ (Cl.at_ext (Ext.alloc _ _) V0.out) (Cl.at_ext (Ext.alloc _ _) V1.out)).mono ?_
      rintro e w5 ⟨rfl, q⟩
      clear kx00 kx01 kx02 kx03 kx04
      clear lx0
      have X1 := Lib.hid ((BoxC.new w4 (.int .i64 c1.head.kind) (.int .i64 c1.head.n) (.string c1.head.name) (.slice ax1 c1.head.kids.length ay1) (.slice az1 c1.body.length au1) 45 rfl).ext q)
      replace q := (Ext.alloc _ _).trans q
      have A0 := Lib.hid (A0.out.ext q)
      have A1 := Lib.hid (A1.out.ext q)
      have B := Lib.hid (B.out.trans q)
      have V0 := Lib.hid (Cl.at_ext q V0.out)
      have X0 := Lib.hid (X0.out.ext q)
      have V1 := Lib.hid (Cl.at_ext q V1.out)
      clear q
      have hne0 := (show (Cl.same c0 c1 != Cl.same c0 c1) = false by simp)
      obtain ⟨ka00, ka01, ka02, ka03, ka04, _, _, _, _, _⟩ := A0.out
      obtain ⟨kx00, kx01, kx02, kx03, kx04, _, _, _, _, _⟩ := X0.out
      go_wp2_with fail
      go_region_held3 (fun w' => Ext w5 w' ∧ w'.cell? ⟨w.heap.size, 0, none⟩ = some (.int .i64 c0.head.kind) ∧ w'.cell? ⟨w.heap.size, 1, none⟩ = some (.int .i64 c0.head.n) ∧ w'.cell? ⟨w.heap.size, 2, none⟩ = some (.string c0.head.name) ∧ w'.cell? ⟨w.heap.size, 3, none⟩ = some (.slice x0 c0.head.kids.length y0) ∧ w'.cell? ⟨w.heap.size, 4, none⟩ = some (.slice z0 c0.body.length u0) ∧ w'.cell? ⟨w3.heap.size, 0, none⟩ = some (.int .i64 c0.head.kind) ∧ w'.cell? ⟨w3.heap.size, 1, none⟩ = some (.int .i64 c0.head.n) ∧ w'.cell? ⟨w3.heap.size, 2, none⟩ = some (.string c0.head.name) ∧ w'.cell? ⟨w3.heap.size, 3, none⟩ = some (.slice ax0 c0.head.kids.length ay0) ∧ w'.cell? ⟨w3.heap.size, 4, none⟩ = some (.slice az0 c0.body.length au0))
        ((refine ⟨?_, ?_, ?_, ?_, ?_, ?_, ?_, ?_, ?_, ?_, ?_⟩ <;> first | with_reducible assumption | with_reducible exact Ext.drew _ | exact Ext.drew _ | (with_reducible (apply Ext.cell; assumption; assumption)) | (with_reducible (apply Ext.trans'; assumption; assumption)) | (with_reducible (apply Ext.cell; apply Ext.trans'; assumption; assumption; assumption)) | (with_reducible (apply Ext.trans'; assumption; apply Ext.trans'; assumption; assumption)) | (with_reducible (apply Ext.cell; apply Ext.trans'; assumption; apply Ext.trans'; assumption; assumption; assumption)) | assumption))
        (first
          | (go_at_call 27; refine (T0.out _ ?_).mono ?_; (exact B.out.trans (And.left (by assumption))); rintro e wt ⟨v9, rfl, hv9, e9⟩; try replace e9 := Ext.undrew e9)
          | (go_at_call 29; refine (lawseqClause c0 c0 _ _ _ _ _ (Cl.at_ext e9 V0.out) hv9).mono ?_; rw [csame_refl]; rintro e wu0 ⟨rfl, e10⟩; try replace e10 := Ext.undrew e10))
      have q := e9.trans e10
      clear hv9 e9 e10
      clear ka00 ka01 ka02 ka03 ka04
      clear kx00 kx01 kx02 kx03 kx04
      have A0 := Lib.hid (A0.out.ext q)
      have A1 := Lib.hid (A1.out.ext q)
      have B := Lib.hid (B.out.trans q)
      have V0 := Lib.hid (Cl.at_ext q V0.out)
      have X0 := Lib.hid (X0.out.ext q)
      have V1 := Lib.hid (Cl.at_ext q V1.out)
      have X1 := Lib.hid (X1.out.ext q)
      clear q
      obtain ⟨ka10, ka11, ka12, ka13, ka14, _, _, _, _, _⟩ := A1.out
      obtain ⟨kx10, kx11, kx12, kx13, kx14, _, _, _, _, _⟩ := X1.out
      go_wp2_with fail
      go_region_held3 (fun w' => Ext wu0 w' ∧ w'.cell? ⟨w.heap.size + 1, 0, none⟩ = some (.int .i64 c1.head.kind) ∧ w'.cell? ⟨w.heap.size + 1, 1, none⟩ = some (.int .i64 c1.head.n) ∧ w'.cell? ⟨w.heap.size + 1, 2, none⟩ = some (.string c1.head.name) ∧ w'.cell? ⟨w.heap.size + 1, 3, none⟩ = some (.slice x1 c1.head.kids.length y1) ∧ w'.cell? ⟨w.heap.size + 1, 4, none⟩ = some (.slice z1 c1.body.length u1) ∧ w'.cell? ⟨w4.heap.size, 0, none⟩ = some (.int .i64 c1.head.kind) ∧ w'.cell? ⟨w4.heap.size, 1, none⟩ = some (.int .i64 c1.head.n) ∧ w'.cell? ⟨w4.heap.size, 2, none⟩ = some (.string c1.head.name) ∧ w'.cell? ⟨w4.heap.size, 3, none⟩ = some (.slice ax1 c1.head.kids.length ay1) ∧ w'.cell? ⟨w4.heap.size, 4, none⟩ = some (.slice az1 c1.body.length au1))
        ((refine ⟨?_, ?_, ?_, ?_, ?_, ?_, ?_, ?_, ?_, ?_, ?_⟩ <;> first | with_reducible assumption | with_reducible exact Ext.drew _ | exact Ext.drew _ | (with_reducible (apply Ext.cell; assumption; assumption)) | (with_reducible (apply Ext.trans'; assumption; assumption)) | (with_reducible (apply Ext.cell; apply Ext.trans'; assumption; assumption; assumption)) | (with_reducible (apply Ext.trans'; assumption; apply Ext.trans'; assumption; assumption)) | (with_reducible (apply Ext.cell; apply Ext.trans'; assumption; apply Ext.trans'; assumption; assumption; assumption)) | assumption))
        (first
          | (go_at_call 27; refine (T1.out _ ?_).mono ?_; (exact B.out.trans (And.left (by assumption))); rintro e wt ⟨v9, rfl, hv9, e9⟩; try replace e9 := Ext.undrew e9)
          | (go_at_call 29; refine (lawseqClause c1 c1 _ _ _ _ _ (Cl.at_ext e9 V1.out) hv9).mono ?_; rw [csame_refl]; rintro e wu1 ⟨rfl, e10⟩; try replace e10 := Ext.undrew e10))
      have q := e9.trans e10
      clear hv9 e9 e10
      clear ka10 ka11 ka12 ka13 ka14
      clear kx10 kx11 kx12 kx13 kx14
      have A0 := Lib.hid (A0.out.ext q)
      have A1 := Lib.hid (A1.out.ext q)
      have B := Lib.hid (B.out.trans q)
      have V0 := Lib.hid (Cl.at_ext q V0.out)
      have X0 := Lib.hid (X0.out.ext q)
      have V1 := Lib.hid (Cl.at_ext q V1.out)
      have X1 := Lib.hid (X1.out.ext q)
      clear q
      go_wp2_with fail
      go_ret
      exact ⟨rfl, B.out⟩
    · have Y1 := Lib.hid (leftF_no l1)
      go_enter Try.func6, Try.ntmps6
      go_wp2_with fail
      refine (Z0.out 1048576 (Nat.le_refl _) _ ((Ext.alloc _ _).trans (Ext.alloc _ _))).mono ?_
      rw [Y0.out]
      rintro e w1 ⟨rfl, q⟩
      have A0 := Lib.hid (show BoxC w1 w.heap.size (.int .i64 c0.head.kind) (.int .i64 c0.head.n) (.string c0.head.name) (.slice x0 c0.head.kids.length y0) (.slice z0 c0.body.length u0) from BoxC.ext (by refine ⟨?_, ?_, ?_, ?_, ?_, ?_, ?_, ?_, ?_, ?_⟩ <;> go_simp) q)
      have A1 := Lib.hid (show BoxC w1 (w.heap.size + 1) (.int .i64 c1.head.kind) (.int .i64 c1.head.n) (.string c1.head.name) (.slice x1 c1.head.kids.length y1) (.slice z1 c1.body.length u1) from BoxC.ext (by refine ⟨?_, ?_, ?_, ?_, ?_, ?_, ?_, ?_, ?_, ?_⟩ <;> go_simp) q)
      have B := Lib.hid (((Ext.alloc _ _).trans (Ext.alloc _ _)).trans q)
      clear q
      obtain ⟨ka10, ka11, ka12, ka13, ka14, _, _, _, _, _⟩ := A1.out
      go_wp2_with fail
      refine (Z1.out (1048576 - Cl.wt c0) (by omega) _ B.out).mono ?_
      rw [Y1.out]
      rintro e w2 ⟨rfl, q⟩
      clear ka10 ka11 ka12 ka13 ka14
      have A0 := Lib.hid (A0.out.ext q)
      have A1 := Lib.hid (A1.out.ext q)
      have B := Lib.hid (B.out.trans q)
      clear q
      go_wp2_with fail
      go_ret
      exact ⟨rfl, B.out⟩
  · have Y0 := Lib.hid (leftF_no l0)
    go_enter Try.func6, Try.ntmps6
    go_wp2_with fail
    refine (Z0.out 1048576 (Nat.le_refl _) _ ((Ext.alloc _ _).trans (Ext.alloc _ _))).mono ?_
    rw [Y0.out]
    rintro e w1 ⟨rfl, q⟩
    have A0 := Lib.hid (show BoxC w1 w.heap.size (.int .i64 c0.head.kind) (.int .i64 c0.head.n) (.string c0.head.name) (.slice x0 c0.head.kids.length y0) (.slice z0 c0.body.length u0) from BoxC.ext (by refine ⟨?_, ?_, ?_, ?_, ?_, ?_, ?_, ?_, ?_, ?_⟩ <;> go_simp) q)
    have A1 := Lib.hid (show BoxC w1 (w.heap.size + 1) (.int .i64 c1.head.kind) (.int .i64 c1.head.n) (.string c1.head.name) (.slice x1 c1.head.kids.length y1) (.slice z1 c1.body.length u1) from BoxC.ext (by refine ⟨?_, ?_, ?_, ?_, ?_, ?_, ?_, ?_, ?_, ?_⟩ <;> go_simp) q)
    have B := Lib.hid (((Ext.alloc _ _).trans (Ext.alloc _ _)).trans q)
    clear q
    go_wp2_with fail
    go_ret
    exact ⟨rfl, B.out⟩

set_option maxRecDepth 100000 in
theorem lifted (os : Os) (started : os.Started) (H : Type) (enc : TypeId × Value → H) :
    ReturnsInHanded {} Try.checked os 6 .any (Rows.fnExactClauseSameSpec.pre6 enc Try.prog Try.f6 Rows.fnExactClauseSameRow.domain false) (Rows.fnExactClauseSameSpec.post enc Try.prog Try.f6 false true false false) := by
  refine returnsInHanded_of_change (C := Try.checked) own started (by kernel_rfl) Try.func6
    (ChangeSpec.witness6 (enc := enc) (C := Try.checked) false ⟨#[], #[.agg #[.int .i64 0, .int .i64 0, .string ByteArray.empty, .slice none 0 0, .slice none 0 0], .agg #[.int .i64 0, .int .i64 0, .string ByteArray.empty, .slice none 0 0, .slice none 0 0]], []⟩ 8 (by kernel_rfl) (by kernel_rfl) (by kernel_rfl) (by kernel_rfl)) ?_
  intro W base args ds gs before hval0 hW hcnd _
  have hval : ∀ (j : Nat) t v, Try.f6.params[j]? = some t → args[j]? = some v → Value.okWide Try.prog W .any base t v := hval0
  have hW' := hW
  obtain ⟨p, q, hA0, hV, rfl, hfz, hnd⟩ := hW
  have hA : DataW.TrodAll enc Try.prog W 0 (fun _ => true) true Try.f6.params.toList args.toList ds p := hA0
  rw [Try.params6] at hA hval
  obtain ⟨v0, vs0, d0, ds0, p0, q0, hargs, rfl, rfl, h0, r0⟩ := trodAll_cons hA
  obtain ⟨v1, vs1, d1, ds1, p1, q1, rfl, rfl, rfl, h1, r1⟩ := trodAll_cons r0
  obtain ⟨rfl, rfl, rfl⟩ := trodAll_nil r1
  obtain rfl : args = #[v0, v1] := by cases args; simp_all
  obtain ⟨rfl, rfl⟩ := trodVars_none hV
  have k0 := h0
  have lt0 : ∀ x ∈ p0, x.block < W.heap.size := by obtain ⟨m, hm⟩ := k0; exact DataW.trod_lt m _ _ _ hm
  have w0 := lclause_arg (hval 0 41 v0 rfl rfl) h0
  have k1 := h1
  have lt1 : ∀ x ∈ p1, x.block < W.heap.size := by obtain ⟨m, hm⟩ := k1; exact DataW.trod_lt m _ _ _ hm
  have w1 := lclause_arg (hval 1 41 v1 rfl rfl) h1
  clear hA0 hval0 hval
  refine (walk _ _ W w0 w1).mono fun e W' ⟨he, bel⟩ => ?_
  subst he
  exact ⟨_, rfl, _, _, _, [], _, [], hW', trodAll_mk1 (shut_bool Try.underlying4 _), (trodAll_cons_mk (Below.trod laidOut (by kernel_rfl) (of_decide_eq_true (by kernel_rfl)) k0 bel lt0) (trodAll_cons_mk (Below.trod laidOut (by kernel_rfl) (of_decide_eq_true (by kernel_rfl)) k1 bel lt1) trodAll_mk0)), rfl, bel.frame _, fun h => by cases h⟩

set_option maxRecDepth 100000 in
theorem over : Rows.fnExactClauseSameRow.holds Try.pinned (OpenSpec.ofChange Rows.fnExactClauseSameSpec) :=
  OpenClaim.holds_of_wide 6 Try.f6 rfl rfl rfl rfl rfl rfl rfl ⟨rfl, rfl, rfl, rfl, rfl⟩ rfl rfl rfl rfl rfl (by kernel_rfl) Try.func6 (by kernel_rfl)
    (of_decide_eq_true (by kernel_rfl)) (by unfold Func.isWrapper; first | (rw [if_pos (by decide +kernel)]; kernel_rfl) | (rw [if_neg (by decide +kernel)]; exact ⟨rfl, rfl⟩))
    (fun os started H enc _ => lifted os started H enc)

/-- the statement -/
theorem proved : Rows.FnExactClauseSameSaid := over
end Go.Proofs.Ytagaciadcgijoaa.fnExactClauseSame
