/-
  For every code FnCompareVars returns true: variables come before numbers, these before atoms, and these before structures.
-/
import Derived.Test.YtmbapobjopbceaaRows
import Derived.Test.YtmbapobjopbceaaCmpT
import Derived.Test.YtmbapobjopbceaaDraws
import Derived.Test.YtmbapobjopbceaaBRep
import Derived.ProofKit
import Derived.OpenShut
import Derived.ShutString
namespace Go.Proofs.Ytmbapobjopbceaa.fnCompareVars
open Go.ChangeShapes Go.WideShapes Go.ChangeAt Go.RowKit
open Go.ChangeMaps (open_string shut_string)
set_option linter.unusedVariables false

theorem own : ownKnob Try.prog.godebug = none := by kernel_rfl
theorem laidOut : laidOutB Try.prog = true := by kernel_rfl

theorem valid_kind {t : Tm} (h : validF t = true) : rankS t.kind t.kids.length = if 0 < t.kids.length then 4 else t.kind := by
  have hs := valid_shape h
  obtain ⟨k, n, s, ks⟩ := t
  simp only [Tm.kind, Tm.kids]
  rcases shape_own hs with ⟨rfl, _, rfl⟩ | ⟨rfl, _, rfl⟩ | ⟨rfl, _⟩
  · simp [rankS]
  · simp [rankS]
  · cases ks <;> simp [rankS]
theorem kinds_ordered {t u : Tm} (ht : validF t = true) (hu : validF u = true) : rankS t.kind t.kids.length ≠ rankS u.kind u.kids.length → ctF t u = cI (rankS t.kind t.kids.length) (rankS u.kind u.kids.length) := by
  intro hne
  unfold ctF
  rw [ht, hu]
  rw [if_pos (by rfl), ← cmp_eq t u 30 30 (valid_shape ht) (valid_shape hu)]
  obtain ⟨k, n, s, ks⟩ := t
  obtain ⟨k', n', s', ks'⟩ := u
  simp only [Tm.kind, Tm.kids] at hne
  simp only [cmpS, Tm.kind, Tm.kids]
  rw [if_pos hne]


set_option maxRecDepth 100000 in
set_option maxHeartbeats 4000000 in
theorem walk (v : Value) (w : World) (hv : BytesAt w v) :
    Calls Try.prog 4 #[v] w fun e w' => e = .returned (.bool true) ∧ Below w.heap.size w w' := by
  have HV := Lib.hid hv
  obtain ⟨a, len, cap, rfl, h1, h2, h3⟩ := hv
  clear h3
  by_cases hl : len ≤ 1048576
  · go_enter Try.func4, Try.ntmps4
    go_wp2_with fail
    refine (drawCompareTerms _ _ HV.out).mono ?_
    rintro e w1 ⟨t, u, v1, v2, rfl, hv1, hv2, e1⟩
    obtain ⟨a1, c1, rfl⟩ := at_form hv1
    obtain ⟨a2, c2, rfl⟩ := at_form hv2
    have ea := (Ext.alloc w1 (.cells #[.int .i64 t.kind, .int .i64 t.n, .string t.name, .slice a1 t.kids.length c1] 29)).trans (Ext.alloc _ (.cells #[.int .i64 u.kind, .int .i64 u.n, .string u.name, .slice a2 u.kids.length c2] 29))
    have X := Lib.hid ((BoxT.new w1 (.int .i64 t.kind) (.int .i64 t.n) (.string t.name) (.slice a1 t.kids.length c1) 29 rfl).ext (Ext.alloc _ (.cells #[.int .i64 u.kind, .int .i64 u.n, .string u.name, .slice a2 u.kids.length c2] 29)))
    have Y := Lib.hid (BoxT.new (w1.alloc (.cells #[.int .i64 t.kind, .int .i64 t.n, .string t.name, .slice a1 t.kids.length c1] 29)) (.int .i64 u.kind) (.int .i64 u.n) (.string u.name) (.slice a2 u.kids.length c2) 29 (b := w1.heap.size + 1) (by simp))
    have V := Lib.hid (Tm.at_ext ea hv1)
    have U := Lib.hid (Tm.at_ext ea hv2)
    have B := Lib.hid (e1.trans ea)
    clear e1 ea hv1 hv2
    go_wp2_with fail
    refine (implCompareTerms t u _ _ _ _ _ V.out U.out).mono ?_
    rintro e w2 ⟨rfl, e2⟩
    have V := Lib.hid (Tm.at_ext e2 V.out)
    have U := Lib.hid (Tm.at_ext e2 U.out)
    have X := Lib.hid (X.out.ext e2)
    have Y := Lib.hid (Y.out.ext e2)
    have B := Lib.hid (B.out.trans e2)
    obtain ⟨x0, x1, x2, x3, _, _, _, _⟩ := X.out
    obtain ⟨y0, y1, y2, y3, _, _, _, _⟩ := Y.out
    clear e2
    go_wp2_with fail
    refine (specCompareTerms t u _ _ _ _ _ V.out U.out).mono ?_
    rintro e w3 ⟨rfl, e3⟩
    have V := Lib.hid (Tm.at_ext e3 V.out)
    have U := Lib.hid (Tm.at_ext e3 U.out)
    have X := Lib.hid (X.out.ext e3)
    have Y := Lib.hid (Y.out.ext e3)
    have B := Lib.hid (B.out.trans e3)
    clear x0 x1 x2 x3 y0 y1 y2 y3
    obtain ⟨x0, x1, x2, x3, _, _, _, _⟩ := X.out
    obtain ⟨y0, y1, y2, y3, _, _, _, _⟩ := Y.out
    clear e3
    obtain ⟨c, hc⟩ : ∃ c, c = ctF t u := ⟨_, rfl⟩
    rw [← hc]
    have HC := Lib.hid hc
    clear hc
    cases hv : validF t
    all_goals
      have HV := Lib.hid hv
      clear hv
      go_wp2_with fail
      refine (implTermValid t _ _ _ V.out).mono ?_
      rw [HV.out]
      rintro e w4 ⟨rfl, e4⟩
      have V := Lib.hid (Tm.at_ext e4 V.out)
      have U := Lib.hid (Tm.at_ext e4 U.out)
      have X := Lib.hid (X.out.ext e4)
      have Y := Lib.hid (Y.out.ext e4)
      have B := Lib.hid (B.out.trans e4)
      clear x0 x1 x2 x3 y0 y1 y2 y3
      obtain ⟨x0, x1, x2, x3, _, _, _, _⟩ := X.out
      obtain ⟨y0, y1, y2, y3, _, _, _, _⟩ := Y.out
      clear e4
    · go_wp2_with fail
      refine (specCompareTerms t u _ _ _ _ _ V.out U.out).mono ?_
      rw [← HC.out]
      rintro e w5 ⟨rfl, e5⟩
      have B := Lib.hid (B.out.trans e5)
      go_wp2_with fail
      go_ret
      exact ⟨rfl, B.out⟩
    · cases hu : validF u
      all_goals
        have HU := Lib.hid hu
        clear hu
        go_wp2_with fail
        refine (implTermValid u _ _ _ U.out).mono ?_
        rw [HU.out]
        rintro e w5 ⟨rfl, e5⟩
        have V := Lib.hid (Tm.at_ext e5 V.out)
        have U := Lib.hid (Tm.at_ext e5 U.out)
        have X := Lib.hid (X.out.ext e5)
        have Y := Lib.hid (Y.out.ext e5)
        have B := Lib.hid (B.out.trans e5)
        clear x0 x1 x2 x3 y0 y1 y2 y3
        obtain ⟨x0, x1, x2, x3, _, _, _, _⟩ := X.out
        obtain ⟨y0, y1, y2, y3, _, _, _, _⟩ := Y.out
        clear e5
      · go_wp2_with fail
        refine (specCompareTerms t u _ _ _ _ _ V.out U.out).mono ?_
        rw [← HC.out]
        rintro e w6 ⟨rfl, e6⟩
        have B := Lib.hid (B.out.trans e6)
        go_wp2_with fail
        go_ret
        exact ⟨rfl, B.out⟩
      · have HK := Lib.hid (kinds_ordered HV.out HU.out)
        have HX := Lib.hid (valid_kind HV.out)
        have HY := Lib.hid (valid_kind HU.out)
        obtain ⟨X0, hX0⟩ : ∃ z, z = rankS t.kind t.kids.length := ⟨_, rfl⟩
        obtain ⟨Y0, hY0⟩ : ∃ z, z = rankS u.kind u.kids.length := ⟨_, rfl⟩
        have hor : X0 = Y0 ∨ (X0 < Y0 ∧ c = -1) ∨ (Y0 < X0 ∧ c = 1) := by
          by_cases he : X0 = Y0
          · exact .inl he
          · have hk := HK.out (by rw [← hX0, ← hY0]; exact he)
            rw [← HC.out, ← hX0, ← hY0] at hk
            rcases Int.lt_or_lt_of_ne he with h | h
            · exact .inr (.inl ⟨h, by rw [hk, cI_lt h]⟩)
            · exact .inr (.inr ⟨h, by rw [hk, cI_gt h]⟩)
        have hX1 := HX.out
        have hY1 := HY.out
        rw [← hX0] at hX1
        rw [← hY0] at hY1
        clear hX0 hY0 HK HX HY HC
        by_cases hx : 0 < t.kids.length <;> by_cases hy : 0 < u.kids.length
        all_goals
          first | rw [if_pos hx] at hX1 | rw [if_neg hx] at hX1
          first | rw [if_pos hy] at hY1 | rw [if_neg hy] at hY1
          subst hX1 hY1
          rcases hor with h | ⟨h, rfl⟩ | ⟨h, rfl⟩
          all_goals
            first
              | (exfalso; omega)
              | (have hq := beq_iff_eq.2 h)
              | (have hq := beq_eq_false_iff_ne.2 (Int.ne_of_lt h); have hlt := decide_eq_true h)
              | (have hq := beq_eq_false_iff_ne.2 (Int.ne_of_gt h); have hlt := decide_eq_false (Int.lt_asymm h))
          all_goals
            go_wp2_with fail
            go_ret
            exact ⟨retB (by first | rfl | (simp; omega)), B.out⟩
  · go_enter Try.func4, Try.ntmps4
    go_wp2_with fail
    go_ret
    exact ⟨rfl, Below.refl _ _⟩

set_option maxRecDepth 100000 in
theorem lifted (os : Os) (started : os.Started) (H : Type) (enc : TypeId × Value → H) :
    ReturnsInHanded {} Try.checked os 4 .any (Rows.fnCompareVarsSpec.pre6 enc Try.prog Try.f4 Rows.fnCompareVarsRow.domain false) (Rows.fnCompareVarsSpec.post enc Try.prog Try.f4 false true false false) := by
  refine returnsInHanded_of_change (C := Try.checked) own started (by kernel_rfl) Try.func4
    (ChangeSpec.witness6 (enc := enc) (C := Try.checked) false ⟨#[], #[.slice none 0 0], []⟩ 8 (by kernel_rfl) (by kernel_rfl) (by kernel_rfl) (by kernel_rfl)) ?_
  intro W base args ds gs before hval0 hW hcnd _
  have hval : ∀ (j : Nat) t v, Try.f4.params[j]? = some t → args[j]? = some v → Value.okWide Try.prog W .any base t v := hval0
  have hW' := hW
  obtain ⟨p, q, hA0, hV, rfl, hfz, hnd⟩ := hW
  have hA : DataW.TrodAll enc Try.prog W 0 (fun _ => true) true Try.f4.params.toList args.toList ds p := hA0
  rw [Try.params4] at hA hval
  obtain ⟨v0, vs0, d0, ds0, p0, q0, hargs, rfl, rfl, h0, r0⟩ := trodAll_cons hA
  obtain ⟨rfl, rfl, rfl⟩ := trodAll_nil r0
  obtain rfl : args = #[v0] := by cases args; simp_all
  obtain ⟨rfl, rfl⟩ := trodVars_none hV
  have k0 := h0
  have lt0 : ∀ x ∈ p0, x.block < W.heap.size := by obtain ⟨m, hm⟩ := k0; exact DataW.trod_lt m _ _ _ hm
  obtain ⟨a0, len0, cap0, rfl⟩ := okWide_slice Try.underlying33 (hval 0 33 v0 rfl rfl)
  have w0 := bytes_of_trod h0
  clear hA0 hval0 hval
  refine (walk _ W w0).mono fun e W' ⟨he, bel⟩ => ?_
  subst he
  exact ⟨_, rfl, _, _, _, [], _, [], hW', trodAll_mk1 (shut_bool Try.underlying4 _), (trodAll_cons_mk (Below.trod laidOut (by kernel_rfl) (of_decide_eq_true (by kernel_rfl)) k0 bel lt0) trodAll_mk0), rfl, bel.frame _, fun h => by cases h⟩

set_option maxRecDepth 100000 in
theorem over : Rows.fnCompareVarsRow.holds Try.pinned (OpenSpec.ofChange Rows.fnCompareVarsSpec) :=
  OpenClaim.holds_of_wide 4 Try.f4 rfl rfl rfl rfl rfl rfl rfl ⟨rfl, rfl, rfl, rfl, rfl⟩ rfl rfl rfl rfl rfl (by kernel_rfl) Try.func4 (by kernel_rfl)
    (of_decide_eq_true (by kernel_rfl)) (by unfold Func.isWrapper; first | (rw [if_pos (by decide +kernel)]; kernel_rfl) | (rw [if_neg (by decide +kernel)]; exact ⟨rfl, rfl⟩))
    (fun os started H enc _ => lifted os started H enc)

/-- the statement -/
theorem proved : Rows.FnCompareVarsSaid := over
end Go.Proofs.Ytmbapobjopbceaa.fnCompareVars
