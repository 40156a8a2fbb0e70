/-
  For every code FnCompareTerms returns true: the standard order is antisymmetric, and equality in it is equality.
-/
import Derived.Test.YtmbapobjopbceaaRows
import Derived.Test.YtmbapobjopbceaaCmpT
import Derived.Test.YtmbapobjopbceaaCmpP
import Derived.Test.YtmbapobjopbceaaDraws
import Derived.Test.YtmbapobjopbceaaSame2
import Derived.Test.YtmbapobjopbceaaBRep
import Derived.ProofKit
import Derived.OpenShut
import Derived.ShutString
namespace Go.Proofs.Ytmbapobjopbceaa.fnCompareTerms
open Go.ChangeShapes Go.WideShapes Go.ChangeAt Go.RowKit
open Go.ChangeMaps (open_string shut_string)
set_option linter.unusedVariables false

theorem own : ownKnob Try.prog.godebug = none := by kernel_rfl
theorem laidOut : laidOutB Try.prog = true := by kernel_rfl

theorem ct_neg {t u : Tm} (ht : validF t = true) (hu : validF u = true) : ctF u t = - ctF t u := by
  unfold ctF
  rw [ht, hu]
  simp only [Bool.and_self, if_true]
  exact cmp_neg u t
theorem ct_same {t u : Tm} (ht : validF t = true) (hu : validF u = true) : (ctF t u == 0) = Tm.same t u := by
  unfold ctF
  rw [ht, hu]
  simp only [Bool.and_self, if_true]
  have h := cmp_same t u 30 30 (valid_shape ht) (valid_shape hu)
  cases hs : Tm.same t u
  · have : cmpF t u ≠ 0 := fun e => by rw [h.1 e] at hs; cases hs
    simpa using this
  · rw [h.2 hs]
    rfl
theorem ct_no1 {t u : Tm} (ht : validF t = false) : ctF t u = 0 := by unfold ctF; rw [ht]; simp
theorem ct_no2 {t u : Tm} (hu : validF u = false) : ctF t u = 0 := by unfold ctF; rw [hu]; simp
theorem ct_three {t u v : Tm} (ht : validF t = true) (hu : validF u = true) (hv : validF v = true) : P3 (ctF t u) (ctF u v) (ctF t v) := by
  unfold ctF
  rw [ht, hu, hv]
  simp only [Bool.and_self, if_true]
  exact cmp_three t u v

set_option maxRecDepth 100000 in
set_option maxHeartbeats 8000000 in
theorem walk (v0 : Value) (w : World) (hv0 : BytesAt w v0) :
    Calls Try.prog 6 #[v0] w fun e w' => e = .returned (.bool true) ∧ Below w.heap.size w w' := by
  have HV := Lib.hid hv0
  obtain ⟨a, len, cap, rfl, h1, h2, h3⟩ := hv0
  clear h3
  by_cases hl : len ≤ 1048576
  · go_enter Try.func6, Try.ntmps6
    go_wp2_with fail
    refine (drawCompareTerms _ _ HV.out).mono ?_
    rintro e w1 ⟨t, u, v1, v2, rfl, hv1, hv2, q⟩
    obtain ⟨a1, c1, rfl⟩ := at_form hv1
    obtain ⟨a2, c2, rfl⟩ := at_form hv2
    have ea := (Ext.alloc w1 (.cells #[.int .i64 t.kind, .int .i64 t.n, .string t.name, .slice a1 t.kids.length c1] 29)).trans (Ext.alloc _ (.cells #[.int .i64 u.kind, .int .i64 u.n, .string u.name, .slice a2 u.kids.length c2] 29))
    have B := Lib.hid (q.trans ea)
    have X := Lib.hid ((BoxT.new w1 (.int .i64 t.kind) (.int .i64 t.n) (.string t.name) (.slice a1 t.kids.length c1) 29 rfl).ext (Ext.alloc _ (.cells #[.int .i64 u.kind, .int .i64 u.n, .string u.name, .slice a2 u.kids.length c2] 29)))
    have Y := Lib.hid (BoxT.new (w1.alloc (.cells #[.int .i64 t.kind, .int .i64 t.n, .string t.name, .slice a1 t.kids.length c1] 29)) (.int .i64 u.kind) (.int .i64 u.n) (.string u.name) (.slice a2 u.kids.length c2) 29 (b := w1.heap.size + 1) (by simp))
    have V := Lib.hid (Tm.at_ext ea hv1)
    have U := Lib.hid (Tm.at_ext ea hv2)
    clear q ea hv1 hv2
    obtain ⟨kx0, kx1, kx2, kx3, _, _, _, _⟩ := X.out
    obtain ⟨ky0, ky1, ky2, ky3, _, _, _, _⟩ := Y.out
    go_wp2_with fail
    refine (implCompareTerms t u _ _ _ _ _ V.out U.out).mono ?_
    rintro e w2 ⟨rfl, q⟩
    clear kx0 kx1 kx2 kx3
    clear ky0 ky1 ky2 ky3
    have B := Lib.hid (B.out.trans q)
    have X := Lib.hid (X.out.ext q)
    have Y := Lib.hid (Y.out.ext q)
    have V := Lib.hid (Tm.at_ext q V.out)
    have U := Lib.hid (Tm.at_ext q U.out)
    clear q
    obtain ⟨kx0, kx1, kx2, kx3, _, _, _, _⟩ := X.out
    obtain ⟨ky0, ky1, ky2, ky3, _, _, _, _⟩ := Y.out
    go_wp2_with fail
    refine (specCompareTerms t u _ _ _ _ _ V.out U.out).mono ?_
    rintro e w3 ⟨rfl, q⟩
    clear kx0 kx1 kx2 kx3
    clear ky0 ky1 ky2 ky3
    have B := Lib.hid (B.out.trans q)
    have X := Lib.hid (X.out.ext q)
    have Y := Lib.hid (Y.out.ext q)
    have V := Lib.hid (Tm.at_ext q V.out)
    have U := Lib.hid (Tm.at_ext q U.out)
    clear q
    obtain ⟨c, hc⟩ : ∃ c, c = ctF t u := ⟨_, rfl⟩
    rw [← hc]
    have HC := Lib.hid hc
    clear hc
    cases hv : validF t
    · have HT := Lib.hid hv
      clear hv
      obtain rfl : c = 0 := by rw [HC.out]; exact ct_no1 HT.out
      obtain ⟨kx0, kx1, kx2, kx3, _, _, _, _⟩ := X.out
      obtain ⟨ky0, ky1, ky2, ky3, _, _, _, _⟩ := Y.out
      go_wp2_with fail
      refine (implTermValid t _ _ _ V.out).mono ?_
      rw [HT.out]
      rintro e w4 ⟨rfl, q⟩
      clear kx0 kx1 kx2 kx3
      clear ky0 ky1 ky2 ky3
      have B := Lib.hid (B.out.trans q)
      have X := Lib.hid (X.out.ext q)
      have Y := Lib.hid (Y.out.ext q)
      have V := Lib.hid (Tm.at_ext q V.out)
      have U := Lib.hid (Tm.at_ext q U.out)
      clear q
      obtain ⟨kx0, kx1, kx2, kx3, _, _, _, _⟩ := X.out
      obtain ⟨ky0, ky1, ky2, ky3, _, _, _, _⟩ := Y.out
      go_wp2_with fail
      refine (specCompareTerms t u _ _ _ _ _ V.out U.out).mono ?_
      rw [← HC.out]
      rintro e w5 ⟨rfl, q⟩
      clear kx0 kx1 kx2 kx3
      clear ky0 ky1 ky2 ky3
      have B := Lib.hid (B.out.trans q)
      have X := Lib.hid (X.out.ext q)
      have Y := Lib.hid (Y.out.ext q)
      have V := Lib.hid (Tm.at_ext q V.out)
      have U := Lib.hid (Tm.at_ext q U.out)
      clear q
      obtain ⟨kx0, kx1, kx2, kx3, _, _, _, _⟩ := X.out
      obtain ⟨ky0, ky1, ky2, ky3, _, _, _, _⟩ := Y.out
      go_wp2_with fail
      refine (implTermValid t _ _ _ V.out).mono ?_
      rw [HT.out]
      rintro e w6 ⟨rfl, q⟩
      clear kx0 kx1 kx2 kx3
      clear ky0 ky1 ky2 ky3
      have B := Lib.hid (B.out.trans q)
      have X := Lib.hid (X.out.ext q)
      have Y := Lib.hid (Y.out.ext q)
      have V := Lib.hid (Tm.at_ext q V.out)
      have U := Lib.hid (Tm.at_ext q U.out)
      clear q
      go_wp2_with fail
      go_ret
      exact ⟨rfl, B.out⟩
    · have HT := Lib.hid hv
      clear hv
      obtain ⟨kx0, kx1, kx2, kx3, _, _, _, _⟩ := X.out
      obtain ⟨ky0, ky1, ky2, ky3, _, _, _, _⟩ := Y.out
      go_wp2_with fail
      refine (implTermValid t _ _ _ V.out).mono ?_
      rw [HT.out]
      rintro e w4 ⟨rfl, q⟩
      clear kx0 kx1 kx2 kx3
      clear ky0 ky1 ky2 ky3
      have B := Lib.hid (B.out.trans q)
      have X := Lib.hid (X.out.ext q)
      have Y := Lib.hid (Y.out.ext q)
      have V := Lib.hid (Tm.at_ext q V.out)
      have U := Lib.hid (Tm.at_ext q U.out)
      clear q
      cases hu : validF u
      · have HU := Lib.hid hu
        clear hu
        obtain rfl : c = 0 := by rw [HC.out]; exact ct_no2 HU.out
        obtain ⟨kx0, kx1, kx2, kx3, _, _, _, _⟩ := X.out
        obtain ⟨ky0, ky1, ky2, ky3, _, _, _, _⟩ := Y.out
        go_wp2_with fail
        refine (implTermValid u _ _ _ U.out).mono ?_
        rw [HU.out]
        rintro e w5 ⟨rfl, q⟩
        clear kx0 kx1 kx2 kx3
        clear ky0 ky1 ky2 ky3
        have B := Lib.hid (B.out.trans q)
        have X := Lib.hid (X.out.ext q)
        have Y := Lib.hid (Y.out.ext q)
        have V := Lib.hid (Tm.at_ext q V.out)
        have U := Lib.hid (Tm.at_ext q U.out)
        clear q
        obtain ⟨kx0, kx1, kx2, kx3, _, _, _, _⟩ := X.out
        obtain ⟨ky0, ky1, ky2, ky3, _, _, _, _⟩ := Y.out
        go_wp2_with fail
        refine (specCompareTerms t u _ _ _ _ _ V.out U.out).mono ?_
        rw [← HC.out]
        rintro e w6 ⟨rfl, q⟩
        clear kx0 kx1 kx2 kx3
        clear ky0 ky1 ky2 ky3
        have B := Lib.hid (B.out.trans q)
        have X := Lib.hid (X.out.ext q)
        have Y := Lib.hid (Y.out.ext q)
        have V := Lib.hid (Tm.at_ext q V.out)
        have U := Lib.hid (Tm.at_ext q U.out)
        clear q
        obtain ⟨kx0, kx1, kx2, kx3, _, _, _, _⟩ := X.out
        obtain ⟨ky0, ky1, ky2, ky3, _, _, _, _⟩ := Y.out
        go_wp2_with fail
        refine (implTermValid t _ _ _ V.out).mono ?_
        rw [HT.out]
        rintro e w7 ⟨rfl, q⟩
        clear kx0 kx1 kx2 kx3
        clear ky0 ky1 ky2 ky3
        have B := Lib.hid (B.out.trans q)
        have X := Lib.hid (X.out.ext q)
        have Y := Lib.hid (Y.out.ext q)
        have V := Lib.hid (Tm.at_ext q V.out)
        have U := Lib.hid (Tm.at_ext q U.out)
        clear q
        obtain ⟨kx0, kx1, kx2, kx3, _, _, _, _⟩ := X.out
        obtain ⟨ky0, ky1, ky2, ky3, _, _, _, _⟩ := Y.out
        go_wp2_with fail
        refine (implTermValid u _ _ _ U.out).mono ?_
        rw [HU.out]
        rintro e w8 ⟨rfl, q⟩
        clear kx0 kx1 kx2 kx3
        clear ky0 ky1 ky2 ky3
        have B := Lib.hid (B.out.trans q)
        have X := Lib.hid (X.out.ext q)
        have Y := Lib.hid (Y.out.ext q)
        have V := Lib.hid (Tm.at_ext q V.out)
        have U := Lib.hid (Tm.at_ext q U.out)
        clear q
        go_wp2_with fail
        go_ret
        exact ⟨rfl, B.out⟩
      · have HU := Lib.hid hu
        clear hu
        have HB := Lib.hid (cmp_bd t u)
        have hb : -1 ≤ c ∧ c ≤ 1 := by rw [HC.out]; unfold ctF; rw [HT.out, HU.out]; exact HB.out
        obtain ⟨hb1, hb2⟩ := hb
        obtain ⟨kx0, kx1, kx2, kx3, _, _, _, _⟩ := X.out
        obtain ⟨ky0, ky1, ky2, ky3, _, _, _, _⟩ := Y.out
        go_wp2_with fail
        refine (implTermValid u _ _ _ U.out).mono ?_
        rw [HU.out]
        rintro e w5 ⟨rfl, q⟩
        clear kx0 kx1 kx2 kx3
        clear ky0 ky1 ky2 ky3
        have B := Lib.hid (B.out.trans q)
        have X := Lib.hid (X.out.ext q)
        have Y := Lib.hid (Y.out.ext q)
        have V := Lib.hid (Tm.at_ext q V.out)
        have U := Lib.hid (Tm.at_ext q U.out)
        clear q
        obtain ⟨kx0, kx1, kx2, kx3, _, _, _, _⟩ := X.out
        obtain ⟨ky0, ky1, ky2, ky3, _, _, _, _⟩ := Y.out
        go_wp2_with fail
        refine (implCompareTerms u t _ _ _ _ _ U.out V.out).mono ?_
        rw [ct_neg HT.out HU.out, ← HC.out]
        rintro e w6 ⟨rfl, q⟩
        clear kx0 kx1 kx2 kx3
        clear ky0 ky1 ky2 ky3
        have B := Lib.hid (B.out.trans q)
        have X := Lib.hid (X.out.ext q)
        have Y := Lib.hid (Y.out.ext q)
        have V := Lib.hid (Tm.at_ext q V.out)
        have U := Lib.hid (Tm.at_ext q U.out)
        clear q
        obtain ⟨kx0, kx1, kx2, kx3, _, _, _, _⟩ := X.out
        obtain ⟨ky0, ky1, ky2, ky3, _, _, _, _⟩ := Y.out
        go_wp2_with fail
        refine (implTermSame _ t u _ _ _ _ _ (Nat.le_refl _) V.out U.out).mono ?_
        rw [← ct_same HT.out HU.out, ← HC.out]
        rintro e w7 ⟨rfl, q⟩
        clear kx0 kx1 kx2 kx3
        clear ky0 ky1 ky2 ky3
        have B := Lib.hid (B.out.trans q)
        have X := Lib.hid (X.out.ext q)
        have Y := Lib.hid (Y.out.ext q)
        have V := Lib.hid (Tm.at_ext q V.out)
        have U := Lib.hid (Tm.at_ext q U.out)
        clear q
        go_wp2_with fail
        go_ret
        exact ⟨retB (by simp), B.out⟩
  · go_enter Try.func6, Try.ntmps6
    go_wp2_with fail
    go_ret
    exact ⟨rfl, Below.refl _ _⟩


set_option maxRecDepth 100000 in
theorem lifted (os : Os) (started : os.Started) (H : Type) (enc : TypeId × Value → H) :
    ReturnsInHanded {} Try.checked os 6 .any (Rows.fnCompareTermsSpec.pre6 enc Try.prog Try.f6 Rows.fnCompareTermsRow.domain false) (Rows.fnCompareTermsSpec.post enc Try.prog Try.f6 false true false false) := by
  refine returnsInHanded_of_change (C := Try.checked) own started (by kernel_rfl) Try.func6
    (ChangeSpec.witness6 (enc := enc) (C := Try.checked) false ⟨#[], #[.slice none 0 0], []⟩ 8 (by kernel_rfl) (by kernel_rfl) (by kernel_rfl) (by kernel_rfl)) ?_
  intro W base args ds gs before hval0 hW hcnd _
  have hval : ∀ (j : Nat) t v, Try.f6.params[j]? = some t → args[j]? = some v → Value.okWide Try.prog W .any base t v := hval0
  have hW' := hW
  obtain ⟨p, q, hA0, hV, rfl, hfz, hnd⟩ := hW
  have hA : DataW.TrodAll enc Try.prog W 0 (fun _ => true) true Try.f6.params.toList args.toList ds p := hA0
  rw [Try.params6] at hA hval
  obtain ⟨v0, vs0, d0, ds0, p0, q0, hargs, rfl, rfl, h0, r0⟩ := trodAll_cons hA
  obtain ⟨rfl, rfl, rfl⟩ := trodAll_nil r0
  obtain rfl : args = #[v0] := by cases args; simp_all
  obtain ⟨rfl, rfl⟩ := trodVars_none hV
  have k0 := h0
  have lt0 : ∀ x ∈ p0, x.block < W.heap.size := by obtain ⟨m, hm⟩ := k0; exact DataW.trod_lt m _ _ _ hm
  obtain ⟨a0, len0, cap0, rfl⟩ := okWide_slice Try.underlying33 (hval 0 33 v0 rfl rfl)
  have w0 := bytes_of_trod h0
  clear hA0 hval0 hval
  refine (walk _ W w0).mono fun e W' ⟨he, bel⟩ => ?_
  subst he
  exact ⟨_, rfl, _, _, _, [], _, [], hW', trodAll_mk1 (shut_bool Try.underlying4 _), (trodAll_cons_mk (Below.trod laidOut (by kernel_rfl) (of_decide_eq_true (by kernel_rfl)) k0 bel lt0) trodAll_mk0), rfl, bel.frame _, fun h => by cases h⟩

set_option maxRecDepth 100000 in
theorem over : Rows.fnCompareTermsRow.holds Try.pinned (OpenSpec.ofChange Rows.fnCompareTermsSpec) :=
  OpenClaim.holds_of_wide 6 Try.f6 rfl rfl rfl rfl rfl rfl rfl ⟨rfl, rfl, rfl, rfl, rfl⟩ rfl rfl rfl rfl rfl (by kernel_rfl) Try.func6 (by kernel_rfl)
    (of_decide_eq_true (by kernel_rfl)) (by unfold Func.isWrapper; first | (rw [if_pos (by decide +kernel)]; kernel_rfl) | (rw [if_neg (by decide +kernel)]; exact ⟨rfl, rfl⟩))
    (fun os started H enc _ => lifted os started H enc)

/-- the statement -/
theorem proved : Rows.FnCompareTermsSaid := over
end Go.Proofs.Ytmbapobjopbceaa.fnCompareTerms
