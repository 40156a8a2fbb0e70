/-
  For every code FnVariantTerms returns true: variants are renumbered to the same term, and have the same number of variables.
-/
import Derived.Test.YteplfajhmpmklaaRows
import Derived.Test.YteplfajhmpmklaaRnP
import Derived.Test.YteplfajhmpmklaaRnDraw
import Derived.Test.YteplfajhmpmklaaTwoE
import Derived.Test.YteplfajhmpmklaaVariantI
import Derived.Test.YteplfajhmpmklaaBRep
import Derived.Deep.RegionHeld3
import Derived.ProofKit
import Derived.OpenShut
import Derived.ShutString
namespace Go.Proofs.Yteplfajhmpmklaa.fnVariantTerms
open Go.ChangeShapes Go.WideShapes Go.ChangeAt Go.RowKit
open Go.ChangeMaps (open_string shut_string)
set_option linter.unusedVariables false

theorem own : ownKnob Try.prog.godebug = none := by kernel_rfl
theorem laidOut : laidOutB Try.prog = true := by kernel_rfl

theorem OwnS.sl {F : Nat → Prop} {w : World} {ts : List Tm} {v : Value} (h : OwnS F ts v w) (hl : ts.length ≤ 1048576) : Tm.sl (fun _ => True) w ts v := by
  obtain ⟨xs, ho, hz, hf⟩ := h
  exact Tm.sl_mono (fun _ _ => trivial) (Agree.refl _) (own_sl ho (oflat_flat _ _ hf) hl)
theorem vt_comm (s t : Tm) : variantF s t = variantF t s := by
  have h : ∀ s t, variantF s t = true → variantF t s = true := fun s t h => by
    unfold variantF at h ⊢
    simp only [Bool.and_eq_true] at h ⊢
    obtain ⟨⟨h1, h2⟩, h3⟩ := h
    exact ⟨⟨h2, h1⟩, by rw [same_eq _ _ h3]; exact same_refl _⟩
  cases h1 : variantF s t <;> cases h2 : variantF t s
  · rfl
  · have := h _ _ h2; rw [h1] at this; exact this
  · have := h _ _ h1; rw [h2] at this; exact this.symm
  · rfl
theorem vt_len {t : Tm} (h : validF t = true) : varsF (ren1 t) [] = rangeI (tvarsF t).length := by
  have h1 := vars_range (varsF t []) t 30 [] [] (valid_shape h) (by simp)
  simp only [List.length_nil, rangeI] at h1
  unfold tvarsF
  rw [if_pos h]
  exact h1
theorem vt_facts {t u : Tm} (h : variantF t u = true) : allVF [t] = true ∧ allVF [u] = true ∧ rnF [t] = [ren1 t] ∧ rnF [u] = [ren1 t] ∧ (tvarsF t).length = (tvarsF u).length := by
  unfold variantF at h
  simp only [Bool.and_eq_true] at h
  obtain ⟨⟨h1, h2⟩, h3⟩ := h
  have h4 := same_eq _ _ h3
  have a1 : allVF [t] = true := by unfold allVF; simp [h1]
  have a2 : allVF [u] = true := by unfold allVF; simp [h2]
  refine ⟨a1, a2, by unfold rnF; rw [if_pos a1, renF_one], by unfold rnF; rw [if_pos a2, renF_one, h4], ?_⟩
  have h5 := vt_len h1
  rw [h4, vt_len h2] at h5
  have h6 := congrArg List.length h5
  rw [range_len, range_len] at h6
  exact h6.symm

set_option maxRecDepth 100000 in
set_option maxHeartbeats 8000000 in
theorem walk (v0 : Value) (w : World) (hv0 : BytesAt w v0) :
    Calls Try.prog 4 #[v0] w fun e w' => e = .returned (.bool true) ∧ Below w.heap.size w w' := by
  have HV := Lib.hid hv0
  obtain ⟨a, len, cap, rfl, h1, h2, h3⟩ := hv0
  clear h3
  by_cases hl : len ≤ 1048576
  · go_enter Try.func4, Try.ntmps4
    go_wp2_with fail
    refine (drawVariantTerms _ _ HV.out).mono ?_
    rintro e w1 ⟨t, u, v1, v2, rfl, hv1, hv2, q⟩
    obtain ⟨a1, c1, rfl⟩ := at_form hv1
    obtain ⟨a2, c2, rfl⟩ := at_form hv2
    have ea := (Ext.alloc w1 (.cells #[.int .i64 t.kind, .int .i64 t.n, .string t.name, .slice a1 t.kids.length c1] 29)).trans (Ext.alloc _ (.cells #[.int .i64 u.kind, .int .i64 u.n, .string u.name, .slice a2 u.kids.length c2] 29))
    have B := Lib.hid (q.trans ea)
    have X := Lib.hid ((BoxT.new w1 (.int .i64 t.kind) (.int .i64 t.n) (.string t.name) (.slice a1 t.kids.length c1) 29 rfl).ext (Ext.alloc _ (.cells #[.int .i64 u.kind, .int .i64 u.n, .string u.name, .slice a2 u.kids.length c2] 29)))
    have Y := Lib.hid (BoxT.new (w1.alloc (.cells #[.int .i64 t.kind, .int .i64 t.n, .string t.name, .slice a1 t.kids.length c1] 29)) (.int .i64 u.kind) (.int .i64 u.n) (.string u.name) (.slice a2 u.kids.length c2) 29 (b := w1.heap.size + 1) (by simp))
    have V := Lib.hid (Tm.at_ext ea hv1)
    have U := Lib.hid (Tm.at_ext ea hv2)
    clear q ea hv1 hv2
    obtain ⟨ok, hok⟩ : ∃ b, variantF t u = b := ⟨_, rfl⟩
    have HOK := Lib.hid hok
    have HOK2 : Hid (variantF u t = ok) := Lib.hid (by rw [vt_comm]; exact hok)
    clear hok
    obtain ⟨kx0, kx1, kx2, kx3, _, _, _, _⟩ := X.out
    obtain ⟨ky0, ky1, ky2, ky3, _, _, _, _⟩ := Y.out
    go_wp2_with fail
    refine (implVariantTerms t u _ _ _ _ _ V.out U.out).mono ?_
    rw [HOK.out]
    rintro e w2 ⟨rfl, q⟩
    clear kx0 kx1 kx2 kx3
    clear ky0 ky1 ky2 ky3
    have B := Lib.hid (B.out.trans q)
    have X := Lib.hid (X.out.ext q)
    have Y := Lib.hid (Y.out.ext q)
    have V := Lib.hid (Tm.at_ext q V.out)
    have U := Lib.hid (Tm.at_ext q U.out)
    clear q
    cases ok
    · have tok : True := trivial
      obtain ⟨kx0, kx1, kx2, kx3, _, _, _, _⟩ := X.out
      obtain ⟨ky0, ky1, ky2, ky3, _, _, _, _⟩ := Y.out
      go_wp2_with fail
      refine (specVariantTerms t u _ _ _ _ _ V.out U.out).mono ?_
      rw [HOK.out]
      rintro e w3 ⟨rfl, q⟩
      clear kx0 kx1 kx2 kx3
      clear ky0 ky1 ky2 ky3
      have B := Lib.hid (B.out.trans q)
      have X := Lib.hid (X.out.ext q)
      have Y := Lib.hid (Y.out.ext q)
      have V := Lib.hid (Tm.at_ext q V.out)
      have U := Lib.hid (Tm.at_ext q U.out)
      clear q
      obtain ⟨kx0, kx1, kx2, kx3, _, _, _, _⟩ := X.out
      obtain ⟨ky0, ky1, ky2, ky3, _, _, _, _⟩ := Y.out
      go_wp2_with fail
      refine (implVariantTerms u t _ _ _ _ _ U.out V.out).mono ?_
      rw [HOK2.out]
      rintro e w4 ⟨rfl, q⟩
      clear kx0 kx1 kx2 kx3
      clear ky0 ky1 ky2 ky3
      have B := Lib.hid (B.out.trans q)
      have X := Lib.hid (X.out.ext q)
      have Y := Lib.hid (Y.out.ext q)
      have V := Lib.hid (Tm.at_ext q V.out)
      have U := Lib.hid (Tm.at_ext q U.out)
      clear q
      obtain ⟨kx0, kx1, kx2, kx3, _, _, _, _⟩ := X.out
      obtain ⟨ky0, ky1, ky2, ky3, _, _, _, _⟩ := Y.out
      go_wp2_with fail
      refine (specVariantTerms t u _ _ _ _ _ V.out U.out).mono ?_
      rw [HOK.out]
      rintro e w5 ⟨rfl, q⟩
      clear kx0 kx1 kx2 kx3
      clear ky0 ky1 ky2 ky3
      have B := Lib.hid (B.out.trans q)
      have X := Lib.hid (X.out.ext q)
      have Y := Lib.hid (Y.out.ext q)
      have V := Lib.hid (Tm.at_ext q V.out)
      have U := Lib.hid (Tm.at_ext q U.out)
      clear q
      obtain ⟨kx0, kx1, kx2, kx3, _, _, _, _⟩ := X.out
      obtain ⟨ky0, ky1, ky2, ky3, _, _, _, _⟩ := Y.out
      go_wp2_with fail
      refine (implVariantTerms u t _ _ _ _ _ U.out V.out).mono ?_
      rw [HOK2.out]
      rintro e w6 ⟨rfl, q⟩
      clear kx0 kx1 kx2 kx3
      clear ky0 ky1 ky2 ky3
      have B := Lib.hid (B.out.trans q)
      have X := Lib.hid (X.out.ext q)
      have Y := Lib.hid (Y.out.ext q)
      have V := Lib.hid (Tm.at_ext q V.out)
      have U := Lib.hid (Tm.at_ext q U.out)
      clear q
      go_wp2_with fail
      go_ret
      exact ⟨rfl, B.out⟩
    · have HS := Lib.hid (vt_facts HOK.out)
      obtain ⟨kx0, kx1, kx2, kx3, _, _, _, _⟩ := X.out
      obtain ⟨ky0, ky1, ky2, ky3, _, _, _, _⟩ := Y.out
      go_wp2_with fail
      refine (specVariantTerms t u _ _ _ _ _ V.out U.out).mono ?_
      rw [HOK.out]
      rintro e w3 ⟨rfl, q⟩
      clear kx0 kx1 kx2 kx3
      clear ky0 ky1 ky2 ky3
      have B := Lib.hid (B.out.trans q)
      have X := Lib.hid (X.out.ext q)
      have Y := Lib.hid (Y.out.ext q)
      have V := Lib.hid (Tm.at_ext q V.out)
      have U := Lib.hid (Tm.at_ext q U.out)
      clear q
      obtain ⟨kx0, kx1, kx2, kx3, _, _, _, _⟩ := X.out
      obtain ⟨ky0, ky1, ky2, ky3, _, _, _, _⟩ := Y.out
      go_wp2_with fail
      refine (implVariantTerms u t _ _ _ _ _ U.out V.out).mono ?_
      rw [HOK2.out]
      rintro e w4 ⟨rfl, q⟩
      clear kx0 kx1 kx2 kx3
      clear ky0 ky1 ky2 ky3
      have B := Lib.hid (B.out.trans q)
      have X := Lib.hid (X.out.ext q)
      have Y := Lib.hid (Y.out.ext q)
      have V := Lib.hid (Tm.at_ext q V.out)
      have U := Lib.hid (Tm.at_ext q U.out)
      clear q
      obtain ⟨kx0, kx1, kx2, kx3, _, _, _, _⟩ := X.out
      obtain ⟨ky0, ky1, ky2, ky3, _, _, _, _⟩ := Y.out
      have lx := X.out.lt
      have ly := Y.out.lt
      go_wp2_with fail
      refine (implRenumberTerms [t] _ _ _ (fun h => by have := allV_sz [t] h; simp at this; omega) (sl_new (S := fun _ => True) (xs := tcells t a1 c1 ++ []) ⟨a1, c1, _, rfl, Tm.at_mono (fun _ _ => trivial) (Agree.refl _) V.out, rfl⟩ rfl rfl (by simp))).mono ?_
      rw [HS.out.2.2.1, HS.out.1]
      rintro e w5 ⟨aG, cG, rfl, o, q⟩
      replace q := (Ext.alloc _ _).trans q
      clear kx0 kx1 kx2 kx3
      clear ky0 ky1 ky2 ky3
      clear lx ly
      have B := Lib.hid (B.out.trans q)
      have X := Lib.hid (X.out.ext q)
      have Y := Lib.hid (Y.out.ext q)
      have V := Lib.hid (Tm.at_ext q V.out)
      have U := Lib.hid (Tm.at_ext q U.out)
      clear q
      have G := Lib.hid (OwnS.sl o (by simp))
      clear o
      obtain ⟨kx0, kx1, kx2, kx3, _, _, _, _⟩ := X.out
      obtain ⟨ky0, ky1, ky2, ky3, _, _, _, _⟩ := Y.out
      have lx := X.out.lt
      have ly := Y.out.lt
      go_wp2_with fail
      refine (implRenumberTerms [u] _ _ _ (fun h => by have := allV_sz [u] h; simp at this; omega) (sl_new (S := fun _ => True) (xs := tcells u a2 c2 ++ []) ⟨a2, c2, _, rfl, Tm.at_mono (fun _ _ => trivial) (Agree.refl _) U.out, rfl⟩ rfl rfl (by simp))).mono ?_
      rw [HS.out.2.2.2.1, HS.out.2.1]
      rintro e w6 ⟨aH, cH, rfl, o, q⟩
      replace q := (Ext.alloc _ _).trans q
      clear kx0 kx1 kx2 kx3
      clear ky0 ky1 ky2 ky3
      clear lx ly
      have B := Lib.hid (B.out.trans q)
      have X := Lib.hid (X.out.ext q)
      have Y := Lib.hid (Y.out.ext q)
      have V := Lib.hid (Tm.at_ext q V.out)
      have U := Lib.hid (Tm.at_ext q U.out)
      have G := Lib.hid (Tm.sl_ext q G.out)
      clear q
      have H := Lib.hid (OwnS.sl o (by simp))
      clear o
      obtain ⟨R, hR⟩ : ∃ R, [ren1 t] = R := ⟨_, rfl⟩
      have hRl : R.length = 1 := by rw [← hR]; rfl
      have HLR := Lib.hid hRl
      have hlen : ([ren1 t] : List Tm).length = R.length := by rw [hR]
      rw [hR] at G H
      rw [hRl] at G H
      clear hR hlen hRl
      have HPG := Lib.hid (fun w' (e : Ext w6 w') => lawspgTerms R R _ _ _ _ w' (Tm.sl_ext e G.out) (Tm.sl_ext e H.out))
      have HTV := Lib.hid (fun w' (e : Ext w6 w') => implTermVars t _ _ w' (Tm.at_ext e V.out))
      have HTU := Lib.hid (fun w' (e : Ext w6 w') => implTermVars u _ _ w' (Tm.at_ext e U.out))
      obtain ⟨zt, hzt⟩ : ∃ z, tvarsF t = z := ⟨_, rfl⟩
      obtain ⟨zu, hzu⟩ : ∃ z, tvarsF u = z := ⟨_, rfl⟩
      have HL5 : zt.length = zu.length := by rw [← hzt, ← hzu]; exact HS.out.2.2.2.2
      have hqq : ((zt.length : Int) == (zu.length : Int)) = true := by rw [HL5]; simp
      have HZT := Lib.hid hzt
      have HZU := Lib.hid hzu
      have HHL := Lib.hid HL5
      clear hzt hzu HL5
      obtain ⟨kx0, kx1, kx2, kx3, _, _, _, _⟩ := X.out
      obtain ⟨ky0, ky1, ky2, ky3, _, _, _, _⟩ := Y.out
      go_wp2_with fail
      go_region_held3 (fun w' => Ext w6 w' ∧ w'.cell? ⟨w1.heap.size, 0, none⟩ = some (.int .i64 t.kind) ∧ w'.cell? ⟨w1.heap.size, 1, none⟩ = some (.int .i64 t.n) ∧ w'.cell? ⟨w1.heap.size, 2, none⟩ = some (.string t.name) ∧ w'.cell? ⟨w1.heap.size, 3, none⟩ = some (.slice a1 t.kids.length c1) ∧ w'.cell? ⟨(w1.heap.size + 1), 0, none⟩ = some (.int .i64 u.kind) ∧ w'.cell? ⟨(w1.heap.size + 1), 1, none⟩ = some (.int .i64 u.n) ∧ w'.cell? ⟨(w1.heap.size + 1), 2, none⟩ = some (.string u.name) ∧ w'.cell? ⟨(w1.heap.size + 1), 3, none⟩ = some (.slice a2 u.kids.length c2))
        ((refine ⟨?_, ?_, ?_, ?_, ?_, ?_, ?_, ?_, ?_⟩ <;> first | with_reducible assumption | with_reducible exact Ext.drew _ | exact Ext.drew _ | (with_reducible (apply Ext.cell; assumption; assumption)) | (with_reducible (apply Ext.trans'; assumption; assumption)) | (with_reducible (apply Ext.cell; apply Ext.trans'; assumption; assumption; assumption)) | (with_reducible (apply Ext.trans'; assumption; apply Ext.trans'; assumption; assumption)) | (with_reducible (apply Ext.cell; apply Ext.trans'; assumption; apply Ext.trans'; assumption; assumption; assumption)) | assumption))
        (first
          | (go_at_call 20; refine (HPG.out _ ?_).mono ?_; (exact (And.left (by assumption))); rw [sameL_refl]; rintro e wa ⟨rfl, ea⟩; try replace ea := Ext.undrew ea)
          | (go_at_call_of 21 (Value.string t.name); refine (HTV.out _ ?_).mono ?_; (exact (And.left (by assumption))); rw [HZT.out]; rintro e wb ⟨vb, rfl, hIb, eb⟩; obtain ⟨zb, yb, rfl⟩ := hIb.form; try replace eb := Ext.undrew eb)
          | (go_at_call_of 21 (Value.string u.name); refine (HTU.out _ ?_).mono ?_; (exact (And.left (by assumption))); rw [HZU.out]; rintro e wc ⟨vc, rfl, hIc, ec⟩; obtain ⟨zc, yc, rfl⟩ := hIc.form; try replace ec := Ext.undrew ec))
      go_wp2_with fail
      go_ret
      exact ⟨by first | rfl | exact retB (by simp [*]), ((B.out.trans ea).trans eb).trans ec⟩
  · go_enter Try.func4, Try.ntmps4
    go_wp2_with fail
    go_ret
    exact ⟨rfl, Below.refl _ _⟩


set_option maxRecDepth 100000 in
theorem lifted (os : Os) (started : os.Started) (H : Type) (enc : TypeId × Value → H) :
    ReturnsInHanded {} Try.checked os 4 .any (Rows.fnVariantTermsSpec.pre6 enc Try.prog Try.f4 Rows.fnVariantTermsRow.domain false) (Rows.fnVariantTermsSpec.post enc Try.prog Try.f4 false true false false) := by
  refine returnsInHanded_of_change (C := Try.checked) own started (by kernel_rfl) Try.func4
    (ChangeSpec.witness6 (enc := enc) (C := Try.checked) false ⟨#[], #[.slice none 0 0], []⟩ 8 (by kernel_rfl) (by kernel_rfl) (by kernel_rfl) (by kernel_rfl)) ?_
  intro W base args ds gs before hval0 hW hcnd _
  have hval : ∀ (j : Nat) t v, Try.f4.params[j]? = some t → args[j]? = some v → Value.okWide Try.prog W .any base t v := hval0
  have hW' := hW
  obtain ⟨p, q, hA0, hV, rfl, hfz, hnd⟩ := hW
  have hA : DataW.TrodAll enc Try.prog W 0 (fun _ => true) true Try.f4.params.toList args.toList ds p := hA0
  rw [Try.params4] at hA hval
  obtain ⟨v0, vs0, d0, ds0, p0, q0, hargs, rfl, rfl, h0, r0⟩ := trodAll_cons hA
  obtain ⟨rfl, rfl, rfl⟩ := trodAll_nil r0
  obtain rfl : args = #[v0] := by cases args; simp_all
  obtain ⟨rfl, rfl⟩ := trodVars_none hV
  have k0 := h0
  have lt0 : ∀ x ∈ p0, x.block < W.heap.size := by obtain ⟨m, hm⟩ := k0; exact DataW.trod_lt m _ _ _ hm
  obtain ⟨a0, len0, cap0, rfl⟩ := okWide_slice Try.underlying32 (hval 0 32 v0 rfl rfl)
  have w0 := bytes_of_trod h0
  clear hA0 hval0 hval
  refine (walk _ W w0).mono fun e W' ⟨he, bel⟩ => ?_
  subst he
  exact ⟨_, rfl, _, _, _, [], _, [], hW', trodAll_mk1 (shut_bool Try.underlying4 _), (trodAll_cons_mk (Below.trod laidOut (by kernel_rfl) (of_decide_eq_true (by kernel_rfl)) k0 bel lt0) trodAll_mk0), rfl, bel.frame _, fun h => by cases h⟩

set_option maxRecDepth 100000 in
theorem over : Rows.fnVariantTermsRow.holds Try.pinned (OpenSpec.ofChange Rows.fnVariantTermsSpec) :=
  OpenClaim.holds_of_wide 4 Try.f4 rfl rfl rfl rfl rfl rfl rfl ⟨rfl, rfl, rfl, rfl, rfl⟩ rfl rfl rfl rfl rfl (by kernel_rfl) Try.func4 (by kernel_rfl)
    (of_decide_eq_true (by kernel_rfl)) (by unfold Func.isWrapper; first | (rw [if_pos (by decide +kernel)]; kernel_rfl) | (rw [if_neg (by decide +kernel)]; exact ⟨rfl, rfl⟩))
    (fun os started H enc _ => lifted os started H enc)

/-- the statement -/
theorem proved : Rows.FnVariantTermsSaid := over
end Go.Proofs.Yteplfajhmpmklaa.fnVariantTerms
