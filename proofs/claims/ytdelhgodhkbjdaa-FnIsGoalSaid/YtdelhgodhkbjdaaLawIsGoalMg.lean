/-
  For every code FnIsGoal returns true: is binds a variable to the value of an expression.
-/
import Derived.Test.YtdelhgodhkbjdaaRows
import Derived.ProofKit
import Derived.OpenShut
import Derived.ShutString
import Derived.Test.YtdelhgodhkbjdaaMg50
import Derived.Test.YtdelhgodhkbjdaaMg49
import Derived.Test.YtdelhgodhkbjdaaMg57
import Derived.Test.YtdelhgodhkbjdaaMg34
import Derived.Test.YtdelhgodhkbjdaaMg44
namespace Go.Proofs.Ytdelhgodhkbjdaa.fnIsGoal
open Go.ChangeShapes Go.WideShapes Go.ChangeAt Go.RowKit
open Go.ChangeMaps (open_string shut_string)
set_option linter.unusedVariables false

theorem own : ownKnob Try.prog.godebug = none := by kernel_rfl
theorem laidOut : laidOutB Try.prog = true := by kernel_rfl

set_option maxRecDepth 100000 in
set_option maxHeartbeats 8000000 in
theorem walk (v0 : Value) (w : World) (hv0 : BytesAt w v0) :
    Calls Try.prog 5 #[v0] w fun e w' => e = .returned (.bool true) ∧ Below w.heap.size w w' := by
  have HV := Lib.hid hv0
  obtain ⟨a, len, cap, rfl, h1, h2, h3⟩ := hv0
  clear h3
  by_cases hl : len ≤ 1048576
  · go_enter Try.func5, Try.ntmps5
    go_wp2_with fail
    refine (drawEvalArith _ _ HV.out).mono ?_
    rintro e w1 ⟨t, v1, rfl, hv1, q⟩
    obtain ⟨a1, c1, rfl⟩ := at_form hv1
    have B := Lib.hid q
    have V := Lib.hid hv1
    clear hv1 q
    have e0 := Ext.alloc w1 (.cells #[.int .i64 t.kind, .int .i64 t.n, .string t.name, .slice a1 t.kids.length c1] 25)
    have y0 := (BoxT.new w1 (.int .i64 t.kind) (.int .i64 t.n) (.string t.name) (.slice a1 t.kids.length c1) 25 (b := w1.heap.size) rfl)
    have q := e0
    have B := Lib.hid (B.out.trans q)
    have V := Lib.hid (Tm.at_ext q V.out)
    have X := Lib.hid y0
    clear q e0 y0
    obtain ⟨n, k, hev⟩ : ∃ n k, evF t = (n, k) := ⟨_, _, rfl⟩
    have HEV := Lib.hid hev
    have hnn : (n != n) = false := by simp
    have hkk : (k != k) = false := by simp
    obtain ⟨kx0, kx1, kx2, kx3, _, _, _, _⟩ := X.out
    go_wp2_with fail
    refine (calls_ev (implEvalArith _ _ _ _ V.out) HEV.out).mono ?_
    rintro e w2 ⟨rfl, q⟩
    clear kx0 kx1 kx2 kx3
    have B := Lib.hid (B.out.trans q)
    have V := Lib.hid (Tm.at_ext q V.out)
    have X := Lib.hid (X.out.ext q)
    clear q
    obtain ⟨kx0, kx1, kx2, kx3, _, _, _, _⟩ := X.out
    go_wp2_with fail
    refine (calls_ev (specEvalArith _ _ _ _ V.out) HEV.out).mono ?_
    rintro e w3 ⟨rfl, q⟩
    clear kx0 kx1 kx2 kx3
    have B := Lib.hid (B.out.trans q)
    have V := Lib.hid (Tm.at_ext q V.out)
    have X := Lib.hid (X.out.ext q)
    clear q
    obtain ⟨px0, px1, px2, px3, _, _, _, _⟩ := X.out
    have e0 := Ext.alloc w3 (.cells #[.int .i64 1, .int .i64 25, .string ⟨#[]⟩, .slice none 0 0, .int .i64 t.kind, .int .i64 t.n, .string t.name, .slice a1 t.kids.length c1] 25)
    have e1 := Ext.alloc (w3.alloc (.cells #[.int .i64 1, .int .i64 25, .string ⟨#[]⟩, .slice none 0 0, .int .i64 t.kind, .int .i64 t.n, .string t.name, .slice a1 t.kids.length c1] 25)) (.cells #[.int .i64 3, .int .i64 0, .string nIs, .slice (some ⟨w3.heap.size, 0, none⟩) 2 2] 25)
    have y0' : Tm.at (fun _ => True) (w3.alloc (.cells #[.int .i64 1, .int .i64 25, .string ⟨#[]⟩, .slice none 0 0, .int .i64 t.kind, .int .i64 t.n, .string t.name, .slice a1 t.kids.length c1] 25)) (.mk 3 0 nIs [varT 25, t]) (.agg #[.int .i64 3, .int .i64 0, .string nIs, .slice (some ⟨w3.heap.size, 0, none⟩) 2 2]) := struct_at (S := fun _ => True) nIs 25 (by decide +kernel) (by simp) (flatc (Tm.at_mono (fun _ _ => trivial) (Agree.refl _) (var_at (S := fun _ => True) 25)) (flat1 (Tm.at_mono (fun _ _ => trivial) (Agree.refl _) V.out)))
    have y0 := Tm.at_ext e1 y0'
    clear y0'
    have y1 := (BoxT.new (w3.alloc (.cells #[.int .i64 1, .int .i64 25, .string ⟨#[]⟩, .slice none 0 0, .int .i64 t.kind, .int .i64 t.n, .string t.name, .slice a1 t.kids.length c1] 25)) (.int .i64 3) (.int .i64 0) (.string nIs) (.slice (some ⟨w3.heap.size, 0, none⟩) 2 2) 25 (b := w3.heap.size + 1) (by simp))
    have q := (e0.trans e1)
    have B := Lib.hid (B.out.trans q)
    have V := Lib.hid (Tm.at_ext q V.out)
    have X := Lib.hid (X.out.ext q)
    have U := Lib.hid y0
    have Y := Lib.hid y1
    clear q e0 e1 y0 y1
    cases hval : validF (.mk 3 0 nIs [varT 25, t])
    · have HVAL := Lib.hid hval
      clear hval hev
      obtain ⟨kx0, kx1, kx2, kx3, _, _, _, _⟩ := X.out
      obtain ⟨ky0, ky1, ky2, ky3, _, _, _, _⟩ := Y.out
      go_wp2_with fail
      refine (calls_bo (implTermValid _ _ _ _ U.out) HVAL.out).mono ?_
      rintro e w4 ⟨rfl, q⟩
      clear kx0 kx1 kx2 kx3
      clear ky0 ky1 ky2 ky3
      have B := Lib.hid (B.out.trans q)
      have V := Lib.hid (Tm.at_ext q V.out)
      have X := Lib.hid (X.out.ext q)
      have U := Lib.hid (Tm.at_ext q U.out)
      have Y := Lib.hid (Y.out.ext q)
      clear q
      go_wp2_with fail
      go_ret
      exact ⟨rfl, B.out⟩
    · obtain ⟨p1, p2, p3⟩ := is_codes hval
      have HVAL := Lib.hid hval
      clear hval
      rw [show arF t = (n, k) by rw [← hev]; unfold evF; rw [if_pos p1]] at p2 p3
      simp only at p2 p3
      clear p1 hev
      by_cases hk : k = 0
      · obtain ⟨p4, p5⟩ := p3 hk
        have P4 := Lib.hid p4
        have P5 := Lib.hid p5
        clear p2 p3 p4 p5
        subst hk
        obtain ⟨kx0, kx1, kx2, kx3, _, _, _, _⟩ := X.out
        obtain ⟨ky0, ky1, ky2, ky3, _, _, _, _⟩ := Y.out
        go_wp2_with fail
        refine (calls_bo (implTermValid _ _ _ _ U.out) HVAL.out).mono ?_
        rintro e w4 ⟨rfl, q⟩
        clear kx0 kx1 kx2 kx3
        clear ky0 ky1 ky2 ky3
        have B := Lib.hid (B.out.trans q)
        have V := Lib.hid (Tm.at_ext q V.out)
        have X := Lib.hid (X.out.ext q)
        have U := Lib.hid (Tm.at_ext q U.out)
        have Y := Lib.hid (Y.out.ext q)
        clear q
        obtain ⟨kx0, kx1, kx2, kx3, _, _, _, _⟩ := X.out
        obtain ⟨ky0, ky1, ky2, ky3, _, _, _, _⟩ := Y.out
        go_wp2_with fail
        refine (calls_cb (implCallBuiltin _ _ _ _ U.out) P5.out P4.out).mono ?_
        rintro e w5 ⟨a3, c3, rfl, ho, q⟩
        clear kx0 kx1 kx2 kx3
        clear ky0 ky1 ky2 ky3
        have B := Lib.hid (B.out.trans q)
        have V := Lib.hid (Tm.at_ext q V.out)
        have X := Lib.hid (X.out.ext q)
        have U := Lib.hid (Tm.at_ext q U.out)
        have Y := Lib.hid (Y.out.ext q)
        clear q
        obtain ⟨bb, off, ak, ck, rfl, d0, d1, d2, d3, d4, hc3, d5⟩ := one_at ho
        clear ho d5
        go_wp2_with fail
        go_ret
        exact ⟨retB (by show ((intT n).n == n) = true; simp [intT, Tm.n]), B.out⟩
      · obtain ⟨p4, p5⟩ := p2 hk
        have P4 := Lib.hid p4
        have P5 := Lib.hid p5
        have hk' : (k != 0) = true := by simpa using hk
        clear p2 p3 p4 p5
        obtain ⟨kx0, kx1, kx2, kx3, _, _, _, _⟩ := X.out
        obtain ⟨ky0, ky1, ky2, ky3, _, _, _, _⟩ := Y.out
        go_wp2_with fail
        refine (calls_bo (implTermValid _ _ _ _ U.out) HVAL.out).mono ?_
        rintro e w4 ⟨rfl, q⟩
        clear kx0 kx1 kx2 kx3
        clear ky0 ky1 ky2 ky3
        have B := Lib.hid (B.out.trans q)
        have V := Lib.hid (Tm.at_ext q V.out)
        have X := Lib.hid (X.out.ext q)
        have U := Lib.hid (Tm.at_ext q U.out)
        have Y := Lib.hid (Y.out.ext q)
        clear q
        obtain ⟨kx0, kx1, kx2, kx3, _, _, _, _⟩ := X.out
        obtain ⟨ky0, ky1, ky2, ky3, _, _, _, _⟩ := Y.out
        go_wp2_with fail
        refine (calls_cb (implCallBuiltin _ _ _ _ U.out) P5.out P4.out).mono ?_
        rintro e w5 ⟨a3, c3, rfl, _, q⟩
        clear kx0 kx1 kx2 kx3
        clear ky0 ky1 ky2 ky3
        have B := Lib.hid (B.out.trans q)
        have V := Lib.hid (Tm.at_ext q V.out)
        have X := Lib.hid (X.out.ext q)
        have U := Lib.hid (Tm.at_ext q U.out)
        have Y := Lib.hid (Y.out.ext q)
        clear q
        go_wp2_with fail
        go_ret
        exact ⟨rfl, B.out⟩
  · go_enter Try.func5, Try.ntmps5
    go_wp2_with fail
    go_ret
    exact ⟨rfl, Below.refl _ _⟩


set_option maxRecDepth 100000 in
theorem lifted (os : Os) (started : os.Started) (H : Type) (enc : TypeId × Value → H) :
    ReturnsInHanded {} Try.checked os 5 .any (Rows.fnIsGoalSpec.pre6 enc Try.prog Try.f5 Rows.fnIsGoalRow.domain false) (Rows.fnIsGoalSpec.post enc Try.prog Try.f5 false true false false) := by
  refine returnsInHanded_of_change (C := Try.checked) own started (by kernel_rfl) Try.func5
    (ChangeSpec.witness6 (enc := enc) (C := Try.checked) false ⟨#[], #[.slice none 0 0], []⟩ 8 (by kernel_rfl) (by kernel_rfl) (by kernel_rfl) (by kernel_rfl)) ?_
  intro W base args ds gs before hval0 hW hcnd _
  have hval : ∀ (j : Nat) t v, Try.f5.params[j]? = some t → args[j]? = some v → Value.okWide Try.prog W .any base t v := hval0
  have hW' := hW
  obtain ⟨p, q, hA0, hV, rfl, hfz, hnd⟩ := hW
  have hA : DataW.TrodAll enc Try.prog W 0 (fun _ => true) true Try.f5.params.toList args.toList ds p := hA0
  rw [Try.params5] at hA hval
  obtain ⟨v0, vs0, d0, ds0, p0, q0, hargs, rfl, rfl, h0, r0⟩ := trodAll_cons hA
  obtain ⟨rfl, rfl, rfl⟩ := trodAll_nil r0
  obtain rfl : args = #[v0] := by cases args; simp_all
  obtain ⟨rfl, rfl⟩ := trodVars_none hV
  have k0 := h0
  have lt0 : ∀ x ∈ p0, x.block < W.heap.size := by obtain ⟨m, hm⟩ := k0; exact DataW.trod_lt m _ _ _ hm
  obtain ⟨a0, len0, cap0, rfl⟩ := okWide_slice Try.underlying22 (hval 0 22 v0 rfl rfl)
  have w0 := bytes_of_trod h0
  clear hA0 hval0 hval
  refine (walk _ W w0).mono fun e W' ⟨he, bel⟩ => ?_
  subst he
  exact ⟨_, rfl, _, _, _, [], _, [], hW', trodAll_mk1 (shut_bool Try.underlying4 _), (trodAll_cons_mk (Below.trod laidOut (by kernel_rfl) (of_decide_eq_true (by kernel_rfl)) k0 bel lt0) trodAll_mk0), rfl, bel.frame _, fun h => by cases h⟩

set_option maxRecDepth 100000 in
theorem over : Rows.fnIsGoalRow.holds Try.pinned (OpenSpec.ofChange Rows.fnIsGoalSpec) :=
  OpenClaim.holds_of_wide 5 Try.f5 rfl rfl rfl rfl rfl rfl rfl ⟨rfl, rfl, rfl, rfl, rfl⟩ rfl rfl rfl rfl rfl (by kernel_rfl) Try.func5 (by kernel_rfl)
    (of_decide_eq_true (by kernel_rfl)) (by unfold Func.isWrapper; first | (rw [if_pos (by decide +kernel)]; kernel_rfl) | (rw [if_neg (by decide +kernel)]; exact ⟨rfl, rfl⟩))
    (fun os started H enc _ => lifted os started H enc)

/-- the statement -/
theorem proved : Rows.FnIsGoalSaid := over
end Go.Proofs.Ytdelhgodhkbjdaa.fnIsGoal
