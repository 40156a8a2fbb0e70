/-
  For every code FnTestGoal returns true: of var and nonvar, one holds.
-/
import Derived.Test.YtdelhgodhkbjdaaRows
import Derived.ProofKit
import Derived.OpenShut
import Derived.ShutString
import Derived.Test.YtdelhgodhkbjdaaMg41
import Derived.Test.YtdelhgodhkbjdaaMg49
import Derived.Test.YtdelhgodhkbjdaaMg14
import Derived.Test.YtdelhgodhkbjdaaMg44
namespace Go.Proofs.Ytdelhgodhkbjdaa.fnTestGoal
open Go.ChangeShapes Go.WideShapes Go.ChangeAt Go.RowKit
open Go.ChangeMaps (open_string shut_string)
set_option linter.unusedVariables false

theorem own : ownKnob Try.prog.godebug = none := by kernel_rfl
theorem laidOut : laidOutB Try.prog = true := by kernel_rfl

set_option maxRecDepth 100000 in
set_option maxHeartbeats 8000000 in
theorem walk (v0 : Value) (w : World) (hv0 : BytesAt w v0) :
    Calls Try.prog 3 #[v0] w fun e w' => e = .returned (.bool true) ∧ Below w.heap.size w w' := by
  have HV := Lib.hid hv0
  obtain ⟨a, len, cap, rfl, h1, h2, h3⟩ := hv0
  clear h3
  by_cases hl : len ≤ 1048576
  · go_enter Try.func3, Try.ntmps3
    go_wp2_with fail
    refine (drawTermValid _ _ HV.out).mono ?_
    rintro e w1 ⟨t, v1, rfl, hv1, q⟩
    obtain ⟨a1, c1, rfl⟩ := at_form hv1
    have B := Lib.hid q
    have V1 := Lib.hid hv1
    clear hv1 q
    have e0 := Ext.alloc w1 (.cells #[.int .i64 t.kind, .int .i64 t.n, .string t.name, .slice a1 t.kids.length c1] 25)
    have e1 := Ext.alloc (w1.alloc (.cells #[.int .i64 t.kind, .int .i64 t.n, .string t.name, .slice a1 t.kids.length c1] 25)) (.cells #[.int .i64 t.kind, .int .i64 t.n, .string t.name, .slice a1 t.kids.length c1] 25)
    have e2 := Ext.alloc ((w1.alloc (.cells #[.int .i64 t.kind, .int .i64 t.n, .string t.name, .slice a1 t.kids.length c1] 25)).alloc (.cells #[.int .i64 t.kind, .int .i64 t.n, .string t.name, .slice a1 t.kids.length c1] 25)) (.cells #[.int .i64 3, .int .i64 0, .string nVar, .slice (some ⟨w1.heap.size + 1, 0, none⟩) 1 1] 25)
    have e3 := Ext.alloc (((w1.alloc (.cells #[.int .i64 t.kind, .int .i64 t.n, .string t.name, .slice a1 t.kids.length c1] 25)).alloc (.cells #[.int .i64 t.kind, .int .i64 t.n, .string t.name, .slice a1 t.kids.length c1] 25)).alloc (.cells #[.int .i64 3, .int .i64 0, .string nVar, .slice (some ⟨w1.heap.size + 1, 0, none⟩) 1 1] 25)) (.cells #[.int .i64 t.kind, .int .i64 t.n, .string t.name, .slice a1 t.kids.length c1] 25)
    have e4 := Ext.alloc ((((w1.alloc (.cells #[.int .i64 t.kind, .int .i64 t.n, .string t.name, .slice a1 t.kids.length c1] 25)).alloc (.cells #[.int .i64 t.kind, .int .i64 t.n, .string t.name, .slice a1 t.kids.length c1] 25)).alloc (.cells #[.int .i64 3, .int .i64 0, .string nVar, .slice (some ⟨w1.heap.size + 1, 0, none⟩) 1 1] 25)).alloc (.cells #[.int .i64 t.kind, .int .i64 t.n, .string t.name, .slice a1 t.kids.length c1] 25)) (.cells #[.int .i64 3, .int .i64 0, .string nNonvar, .slice (some ⟨w1.heap.size + 3, 0, none⟩) 1 1] 25)
    have y0 := ((BoxT.new w1 (.int .i64 t.kind) (.int .i64 t.n) (.string t.name) (.slice a1 t.kids.length c1) 25 (b := w1.heap.size) rfl).ext (((e1.trans e2).trans e3).trans e4))
    have y1' : Tm.at (fun _ => True) ((w1.alloc (.cells #[.int .i64 t.kind, .int .i64 t.n, .string t.name, .slice a1 t.kids.length c1] 25)).alloc (.cells #[.int .i64 t.kind, .int .i64 t.n, .string t.name, .slice a1 t.kids.length c1] 25)) (.mk 3 0 nVar [t]) (.agg #[.int .i64 3, .int .i64 0, .string nVar, .slice (some ⟨(w1.alloc (.cells #[.int .i64 t.kind, .int .i64 t.n, .string t.name, .slice a1 t.kids.length c1] 25)).heap.size, 0, none⟩) 1 1]) := struct_at (S := fun _ => True) nVar 25 (by decide +kernel) (by simp) (flat1 (Tm.at_mono (fun _ _ => trivial) (Agree.refl _) (Tm.at_ext e0 V1.out)))
    rw [show (w1.alloc (.cells #[.int .i64 t.kind, .int .i64 t.n, .string t.name, .slice a1 t.kids.length c1] 25)).heap.size = w1.heap.size + 1 by simp] at y1'
    have y1 := Tm.at_ext ((e2.trans e3).trans e4) y1'
    clear y1'
    have y2 := ((BoxT.new ((w1.alloc (.cells #[.int .i64 t.kind, .int .i64 t.n, .string t.name, .slice a1 t.kids.length c1] 25)).alloc (.cells #[.int .i64 t.kind, .int .i64 t.n, .string t.name, .slice a1 t.kids.length c1] 25)) (.int .i64 3) (.int .i64 0) (.string nVar) (.slice (some ⟨w1.heap.size + 1, 0, none⟩) 1 1) 25 (b := w1.heap.size + 2) (by simp)).ext (e3.trans e4))
    have y3' : Tm.at (fun _ => True) ((((w1.alloc (.cells #[.int .i64 t.kind, .int .i64 t.n, .string t.name, .slice a1 t.kids.length c1] 25)).alloc (.cells #[.int .i64 t.kind, .int .i64 t.n, .string t.name, .slice a1 t.kids.length c1] 25)).alloc (.cells #[.int .i64 3, .int .i64 0, .string nVar, .slice (some ⟨w1.heap.size + 1, 0, none⟩) 1 1] 25)).alloc (.cells #[.int .i64 t.kind, .int .i64 t.n, .string t.name, .slice a1 t.kids.length c1] 25)) (.mk 3 0 nNonvar [t]) (.agg #[.int .i64 3, .int .i64 0, .string nNonvar, .slice (some ⟨(((w1.alloc (.cells #[.int .i64 t.kind, .int .i64 t.n, .string t.name, .slice a1 t.kids.length c1] 25)).alloc (.cells #[.int .i64 t.kind, .int .i64 t.n, .string t.name, .slice a1 t.kids.length c1] 25)).alloc (.cells #[.int .i64 3, .int .i64 0, .string nVar, .slice (some ⟨w1.heap.size + 1, 0, none⟩) 1 1] 25)).heap.size, 0, none⟩) 1 1]) := struct_at (S := fun _ => True) nNonvar 25 (by decide +kernel) (by simp) (flat1 (Tm.at_mono (fun _ _ => trivial) (Agree.refl _) (Tm.at_ext ((e0.trans e1).trans e2) V1.out)))
    rw [show (((w1.alloc (.cells #[.int .i64 t.kind, .int .i64 t.n, .string t.name, .slice a1 t.kids.length c1] 25)).alloc (.cells #[.int .i64 t.kind, .int .i64 t.n, .string t.name, .slice a1 t.kids.length c1] 25)).alloc (.cells #[.int .i64 3, .int .i64 0, .string nVar, .slice (some ⟨w1.heap.size + 1, 0, none⟩) 1 1] 25)).heap.size = w1.heap.size + 3 by simp] at y3'
    have y3 := Tm.at_ext e4 y3'
    clear y3'
    have y4 := (BoxT.new ((((w1.alloc (.cells #[.int .i64 t.kind, .int .i64 t.n, .string t.name, .slice a1 t.kids.length c1] 25)).alloc (.cells #[.int .i64 t.kind, .int .i64 t.n, .string t.name, .slice a1 t.kids.length c1] 25)).alloc (.cells #[.int .i64 3, .int .i64 0, .string nVar, .slice (some ⟨w1.heap.size + 1, 0, none⟩) 1 1] 25)).alloc (.cells #[.int .i64 t.kind, .int .i64 t.n, .string t.name, .slice a1 t.kids.length c1] 25)) (.int .i64 3) (.int .i64 0) (.string nNonvar) (.slice (some ⟨w1.heap.size + 3, 0, none⟩) 1 1) 25 (b := w1.heap.size + 4) (by simp))
    have q := ((((e0.trans e1).trans e2).trans e3).trans e4)
    have B := Lib.hid (B.out.trans q)
    have V1 := Lib.hid (Tm.at_ext q V1.out)
    have X := Lib.hid y0
    have V := Lib.hid y1
    have Y := Lib.hid y2
    have U := Lib.hid y3
    have Z := Lib.hid y4
    clear q e0 e1 e2 e3 e4 y0 y1 y2 y3 y4
    clear V1
    obtain ⟨r1, hr1⟩ : ∃ r, cbR (.mk 3 0 nVar [t]) = r := ⟨_, rfl⟩
    obtain ⟨n1, hn1⟩ : ∃ n, cbN (.mk 3 0 nVar [t]) = n := ⟨_, rfl⟩
    obtain ⟨r2, hr2⟩ : ∃ r, cbR (.mk 3 0 nNonvar [t]) = r := ⟨_, rfl⟩
    obtain ⟨n2, hn2⟩ : ∃ n, cbN (.mk 3 0 nNonvar [t]) = n := ⟨_, rfl⟩
    have HR1 := Lib.hid hr1
    have HN1 := Lib.hid hn1
    have HR2 := Lib.hid hr2
    have HN2 := Lib.hid hn2
    cases hval : validF (.mk 3 0 nVar [t])
    · have HVAL := Lib.hid hval
      clear hval hr1 hn1 hr2 hn2
      have hne : (n1 != n1) = false := by simp
      obtain ⟨ky0, ky1, ky2, ky3, _, _, _, _⟩ := Y.out
      go_wp2_with fail
      refine (calls_cb (implCallBuiltin _ _ _ _ V.out) HR1.out HN1.out).mono ?_
      rintro e w2 ⟨a2, c2, rfl, _, q⟩
      clear ky0 ky1 ky2 ky3
      have B := Lib.hid (B.out.trans q)
      have X := Lib.hid (X.out.ext q)
      have V := Lib.hid (Tm.at_ext q V.out)
      have Y := Lib.hid (Y.out.ext q)
      have U := Lib.hid (Tm.at_ext q U.out)
      have Z := Lib.hid (Z.out.ext q)
      clear q
      obtain ⟨ky0, ky1, ky2, ky3, _, _, _, _⟩ := Y.out
      go_wp2_with fail
      refine (calls_cb (specCallBuiltin _ _ _ _ V.out) HR1.out HN1.out).mono ?_
      rintro e w3 ⟨a3, c3, rfl, _, q⟩
      clear ky0 ky1 ky2 ky3
      have B := Lib.hid (B.out.trans q)
      have X := Lib.hid (X.out.ext q)
      have V := Lib.hid (Tm.at_ext q V.out)
      have Y := Lib.hid (Y.out.ext q)
      have U := Lib.hid (Tm.at_ext q U.out)
      have Z := Lib.hid (Z.out.ext q)
      clear q
      obtain ⟨kz0, kz1, kz2, kz3, _, _, _, _⟩ := Z.out
      go_wp2_with fail
      refine (calls_cb (implCallBuiltin _ _ _ _ U.out) HR2.out HN2.out).mono ?_
      rintro e w4 ⟨a4, c4, rfl, _, q⟩
      clear kz0 kz1 kz2 kz3
      have B := Lib.hid (B.out.trans q)
      have X := Lib.hid (X.out.ext q)
      have V := Lib.hid (Tm.at_ext q V.out)
      have Y := Lib.hid (Y.out.ext q)
      have U := Lib.hid (Tm.at_ext q U.out)
      have Z := Lib.hid (Z.out.ext q)
      clear q
      obtain ⟨ky0, ky1, ky2, ky3, _, _, _, _⟩ := Y.out
      go_wp2_with fail
      refine (calls_bo (implTermValid _ _ _ _ V.out) HVAL.out).mono ?_
      rintro e w5 ⟨rfl, q⟩
      clear ky0 ky1 ky2 ky3
      have B := Lib.hid (B.out.trans q)
      have X := Lib.hid (X.out.ext q)
      have V := Lib.hid (Tm.at_ext q V.out)
      have Y := Lib.hid (Y.out.ext q)
      have U := Lib.hid (Tm.at_ext q U.out)
      have Z := Lib.hid (Z.out.ext q)
      clear q
      go_wp2_with fail
      go_ret
      exact ⟨rfl, B.out⟩
    · obtain ⟨⟨p1, p2⟩, p3, p4⟩ := test_codes hval
      have HVAL := Lib.hid hval
      clear hval
      rw [hn1] at p1
      rw [hr1] at p2
      rw [hn2] at p3
      rw [hr2] at p4
      obtain ⟨bk, hbk⟩ : ∃ b, (t.kind == 1) = b := ⟨_, rfl⟩
      rw [show (t.kind != 1) = !bk by rw [← hbk]; rfl] at p3
      rw [hbk] at p1
      clear hr1 hn1 hr2 hn2
      subst p1 p2 p3 p4
      cases bk
      · have tok : True := trivial
        rw [show holdsN false = 1 from rfl] at HN1
        rw [show holdsN (!false) = 0 from rfl] at HN2
        obtain ⟨ky0, ky1, ky2, ky3, _, _, _, _⟩ := Y.out
        go_wp2_with fail
        refine (calls_cb (implCallBuiltin _ _ _ _ V.out) HR1.out HN1.out).mono ?_
        rintro e w2 ⟨a2, c2, rfl, _, q⟩
        clear ky0 ky1 ky2 ky3
        have B := Lib.hid (B.out.trans q)
        have X := Lib.hid (X.out.ext q)
        have V := Lib.hid (Tm.at_ext q V.out)
        have Y := Lib.hid (Y.out.ext q)
        have U := Lib.hid (Tm.at_ext q U.out)
        have Z := Lib.hid (Z.out.ext q)
        clear q
        obtain ⟨ky0, ky1, ky2, ky3, _, _, _, _⟩ := Y.out
        go_wp2_with fail
        refine (calls_cb (specCallBuiltin _ _ _ _ V.out) HR1.out HN1.out).mono ?_
        rintro e w3 ⟨a3, c3, rfl, _, q⟩
        clear ky0 ky1 ky2 ky3
        have B := Lib.hid (B.out.trans q)
        have X := Lib.hid (X.out.ext q)
        have V := Lib.hid (Tm.at_ext q V.out)
        have Y := Lib.hid (Y.out.ext q)
        have U := Lib.hid (Tm.at_ext q U.out)
        have Z := Lib.hid (Z.out.ext q)
        clear q
        obtain ⟨kz0, kz1, kz2, kz3, _, _, _, _⟩ := Z.out
        go_wp2_with fail
        refine (calls_cb (implCallBuiltin _ _ _ _ U.out) HR2.out HN2.out).mono ?_
        rintro e w4 ⟨a4, c4, rfl, _, q⟩
        clear kz0 kz1 kz2 kz3
        have B := Lib.hid (B.out.trans q)
        have X := Lib.hid (X.out.ext q)
        have V := Lib.hid (Tm.at_ext q V.out)
        have Y := Lib.hid (Y.out.ext q)
        have U := Lib.hid (Tm.at_ext q U.out)
        have Z := Lib.hid (Z.out.ext q)
        clear q
        obtain ⟨ky0, ky1, ky2, ky3, _, _, _, _⟩ := Y.out
        go_wp2_with fail
        refine (calls_bo (implTermValid _ _ _ _ V.out) HVAL.out).mono ?_
        rintro e w5 ⟨rfl, q⟩
        clear ky0 ky1 ky2 ky3
        have B := Lib.hid (B.out.trans q)
        have X := Lib.hid (X.out.ext q)
        have V := Lib.hid (Tm.at_ext q V.out)
        have Y := Lib.hid (Y.out.ext q)
        have U := Lib.hid (Tm.at_ext q U.out)
        have Z := Lib.hid (Z.out.ext q)
        clear q
        obtain ⟨kx0, kx1, kx2, kx3, _, _, _, _⟩ := X.out
        go_wp2_with fail
        go_ret
        exact ⟨rfl, B.out⟩
      · have tok : True := trivial
        rw [show holdsN true = 0 from rfl] at HN1
        rw [show holdsN (!true) = 1 from rfl] at HN2
        obtain ⟨ky0, ky1, ky2, ky3, _, _, _, _⟩ := Y.out
        go_wp2_with fail
        refine (calls_cb (implCallBuiltin _ _ _ _ V.out) HR1.out HN1.out).mono ?_
        rintro e w2 ⟨a2, c2, rfl, _, q⟩
        clear ky0 ky1 ky2 ky3
        have B := Lib.hid (B.out.trans q)
        have X := Lib.hid (X.out.ext q)
        have V := Lib.hid (Tm.at_ext q V.out)
        have Y := Lib.hid (Y.out.ext q)
        have U := Lib.hid (Tm.at_ext q U.out)
        have Z := Lib.hid (Z.out.ext q)
        clear q
        obtain ⟨ky0, ky1, ky2, ky3, _, _, _, _⟩ := Y.out
        go_wp2_with fail
        refine (calls_cb (specCallBuiltin _ _ _ _ V.out) HR1.out HN1.out).mono ?_
        rintro e w3 ⟨a3, c3, rfl, _, q⟩
        clear ky0 ky1 ky2 ky3
        have B := Lib.hid (B.out.trans q)
        have X := Lib.hid (X.out.ext q)
        have V := Lib.hid (Tm.at_ext q V.out)
        have Y := Lib.hid (Y.out.ext q)
        have U := Lib.hid (Tm.at_ext q U.out)
        have Z := Lib.hid (Z.out.ext q)
        clear q
        obtain ⟨kz0, kz1, kz2, kz3, _, _, _, _⟩ := Z.out
        go_wp2_with fail
        refine (calls_cb (implCallBuiltin _ _ _ _ U.out) HR2.out HN2.out).mono ?_
        rintro e w4 ⟨a4, c4, rfl, _, q⟩
        clear kz0 kz1 kz2 kz3
        have B := Lib.hid (B.out.trans q)
        have X := Lib.hid (X.out.ext q)
        have V := Lib.hid (Tm.at_ext q V.out)
        have Y := Lib.hid (Y.out.ext q)
        have U := Lib.hid (Tm.at_ext q U.out)
        have Z := Lib.hid (Z.out.ext q)
        clear q
        obtain ⟨ky0, ky1, ky2, ky3, _, _, _, _⟩ := Y.out
        go_wp2_with fail
        refine (calls_bo (implTermValid _ _ _ _ V.out) HVAL.out).mono ?_
        rintro e w5 ⟨rfl, q⟩
        clear ky0 ky1 ky2 ky3
        have B := Lib.hid (B.out.trans q)
        have X := Lib.hid (X.out.ext q)
        have V := Lib.hid (Tm.at_ext q V.out)
        have Y := Lib.hid (Y.out.ext q)
        have U := Lib.hid (Tm.at_ext q U.out)
        have Z := Lib.hid (Z.out.ext q)
        clear q
        obtain ⟨kx0, kx1, kx2, kx3, _, _, _, _⟩ := X.out
        go_wp2_with fail
        go_ret
        exact ⟨rfl, B.out⟩
  · go_enter Try.func3, Try.ntmps3
    go_wp2_with fail
    go_ret
    exact ⟨rfl, Below.refl _ _⟩


set_option maxRecDepth 100000 in
theorem lifted (os : Os) (started : os.Started) (H : Type) (enc : TypeId × Value → H) :
    ReturnsInHanded {} Try.checked os 3 .any (Rows.fnTestGoalSpec.pre6 enc Try.prog Try.f3 Rows.fnTestGoalRow.domain false) (Rows.fnTestGoalSpec.post enc Try.prog Try.f3 false true false false) := by
  refine returnsInHanded_of_change (C := Try.checked) own started (by kernel_rfl) Try.func3
    (ChangeSpec.witness6 (enc := enc) (C := Try.checked) false ⟨#[], #[.slice none 0 0], []⟩ 8 (by kernel_rfl) (by kernel_rfl) (by kernel_rfl) (by kernel_rfl)) ?_
  intro W base args ds gs before hval0 hW hcnd _
  have hval : ∀ (j : Nat) t v, Try.f3.params[j]? = some t → args[j]? = some v → Value.okWide Try.prog W .any base t v := hval0
  have hW' := hW
  obtain ⟨p, q, hA0, hV, rfl, hfz, hnd⟩ := hW
  have hA : DataW.TrodAll enc Try.prog W 0 (fun _ => true) true Try.f3.params.toList args.toList ds p := hA0
  rw [Try.params3] at hA hval
  obtain ⟨v0, vs0, d0, ds0, p0, q0, hargs, rfl, rfl, h0, r0⟩ := trodAll_cons hA
  obtain ⟨rfl, rfl, rfl⟩ := trodAll_nil r0
  obtain rfl : args = #[v0] := by cases args; simp_all
  obtain ⟨rfl, rfl⟩ := trodVars_none hV
  have k0 := h0
  have lt0 : ∀ x ∈ p0, x.block < W.heap.size := by obtain ⟨m, hm⟩ := k0; exact DataW.trod_lt m _ _ _ hm
  obtain ⟨a0, len0, cap0, rfl⟩ := okWide_slice Try.underlying22 (hval 0 22 v0 rfl rfl)
  have w0 := bytes_of_trod h0
  clear hA0 hval0 hval
  refine (walk _ W w0).mono fun e W' ⟨he, bel⟩ => ?_
  subst he
  exact ⟨_, rfl, _, _, _, [], _, [], hW', trodAll_mk1 (shut_bool Try.underlying4 _), (trodAll_cons_mk (Below.trod laidOut (by kernel_rfl) (of_decide_eq_true (by kernel_rfl)) k0 bel lt0) trodAll_mk0), rfl, bel.frame _, fun h => by cases h⟩

set_option maxRecDepth 100000 in
theorem over : Rows.fnTestGoalRow.holds Try.pinned (OpenSpec.ofChange Rows.fnTestGoalSpec) :=
  OpenClaim.holds_of_wide 3 Try.f3 rfl rfl rfl rfl rfl rfl rfl ⟨rfl, rfl, rfl, rfl, rfl⟩ rfl rfl rfl rfl rfl (by kernel_rfl) Try.func3 (by kernel_rfl)
    (of_decide_eq_true (by kernel_rfl)) (by unfold Func.isWrapper; first | (rw [if_pos (by decide +kernel)]; kernel_rfl) | (rw [if_neg (by decide +kernel)]; exact ⟨rfl, rfl⟩))
    (fun os started H enc _ => lifted os started H enc)

/-- the statement -/
theorem proved : Rows.FnTestGoalSaid := over
end Go.Proofs.Ytdelhgodhkbjdaa.fnTestGoal
