/-
  For every list of terms (of any size) FnExactRenumberTerms returns true: the program's RenumberTerms and the reference's return the same, in memory of its own, and leave the terms as they were.
-/
import Derived.Test.YtagaciadcgijoaaRows
import Derived.Test.YtagaciadcgijoaaMarkT
import Derived.Test.YtagaciadcgijoaaRenum2
import Derived.Test.YtagaciadcgijoaaSame2
import Derived.Test.YtagaciadcgijoaaClOpen
import Derived.Deep.RegionHeld3
import Derived.ProofKit
import Derived.OpenShut
import Derived.ShutString
namespace Go.Proofs.Ytagaciadcgijoaa.fnExactRenumberTerms
open Go.ChangeShapes Go.WideShapes Go.ChangeAt Go.RowKit
open Go.ChangeMaps (open_string shut_string)
set_option linter.unusedVariables false

theorem own : ownKnob Try.prog.godebug = none := by kernel_rfl
theorem laidOut : laidOutB Try.prog = true := by kernel_rfl

theorem OwnS.sl {F : Nat → Prop} {w : World} {ts : List Tm} {v : Value} (h : OwnS F ts v w) (hl : ts.length ≤ 1048576) : Tm.sl (fun _ => True) w ts v := by
  obtain ⟨xs, ho, hz, hf⟩ := h
  exact Tm.sl_mono (fun _ _ => trivial) (Agree.refl _) (own_sl ho (oflat_flat _ _ hf) hl)
mutual
theorem mapF_sz {g : Int → Tm} (hg : ∀ n, Tm.sz (g n) = 1) : ∀ t : Tm, Tm.sz (mapF g t) ≤ Tm.sz t
  | .mk k n s ks => by
    simp only [mapF]
    split
    · rw [hg]; simp only [Tm.sz]; omega
    · have := mapL_sz hg ks
      simp only [Tm.sz]; omega
theorem mapL_sz {g : Int → Tm} (hg : ∀ n, Tm.sz (g n) = 1) : ∀ ts : List Tm, Tm.szL (mapL g ts) ≤ Tm.szL ts
  | [] => Nat.le_refl _
  | t :: ts => by
    have h1 := mapF_sz hg t
    have h2 := mapL_sz hg ts
    simp only [mapL, Tm.szL]; omega
end
theorem rn_sz (ts : List Tm) : Tm.szL (rnF ts) ≤ Tm.szL ts := by
  unfold rnF
  split
  · exact mapL_sz (fun n => by simp [numT, varT, Tm.sz, Tm.szL]) ts
  · simp [Tm.szL]
theorem rn_len (ts : List Tm) : (rnF ts).length ≤ ts.length := by
  unfold rnF
  split
  · rw [renF_len]; exact Nat.le_refl _
  · simp

set_option maxRecDepth 100000 in
set_option maxHeartbeats 8000000 in
theorem walk (a0 : Value) (w : World) (h0 : ∃ x, Lt.sl (fun _ => True) w x a0) :
    Calls Try.prog 5 #[a0] w fun e w' => e = .returned (.bool true) ∧ Below w.heap.size w w' := by
  obtain ⟨t0, h0⟩ := h0
  have Z0 := Lib.hid (fun (l : Nat) (hl : l ≤ 1048576) w' (e' : Ext w w') => lawszTermS _ t0 (Nat.le_refl _) _ l _ w' hl (Lt.sl_ext e' h0))
  have T0 := Lib.hid (fun (hl : t0.length + Tm.wtL t0 ≤ 1048576) w' (e' : Ext w w') => toTermSO _ t0 (Nat.le_refl _) _ _ w' hl (Lt.sl_ext e' h0))
  obtain ⟨x0, y0, rfl, _⟩ := h0
  by_cases l0 : t0.length + Tm.wtL t0 ≤ 1048576
  · have Y0 := Lib.hid (leftF_yes l0)
    have t0' := T0.out l0
    have T0 := Lib.hid t0'
    clear t0'
    have hsz := szL_wt t0
    have HL0 : Hid (t0.length ≤ 1048576) := Lib.hid (by omega)
    have HSZ : Hid (Tm.szL t0 ≤ 1048576) := Lib.hid (by omega)
    have HS0 : Hid (1 + 3 * Tm.szL t0 < 9000000) := Lib.hid (by omega)
    have HRL : Hid ((rnF t0).length ≤ 1048576) := Lib.hid (by have := rn_len t0; omega)
    have HRM : Hid (1 + 3 * Tm.szL (rnF t0) < 9000000) := Lib.hid (by have := rn_sz t0; omega)
    have hne : (allVF t0 != allVF t0) = false := by simp
    clear hsz
    go_enter Try.func5, Try.ntmps5
    go_wp2_with fail
    refine (Z0.out 1048576 (Nat.le_refl _) _ (Ext.refl _)).mono ?_
    rw [Y0.out]
    rintro e w1 ⟨rfl, q⟩
    have B := Lib.hid q
    have z1 : w.heap.size ≤ w1.heap.size := Below.size q
    clear q Z0 Y0
    go_wp2_with fail
    refine (T0.out _ B.out).mono ?_
    rintro e w2 ⟨aR, cR, rfl, o, q⟩
    have z2 : w1.heap.size ≤ w2.heap.size := Below.size q
    have B := Lib.hid (B.out.trans q)
    clear q
    have R := Lib.hid (OwnS.zone (F' := fun b => w1.heap.size ≤ b ∧ b < w2.heap.size) (o.bound) (fun b hb => hb))
    clear o
    go_wp2_with fail
    refine (specRenumberTerms t0 _ _ _ HSZ.out (OwnS.sl R.out HL0.out)).mono ?_
    rintro e w3 ⟨aV, cV, rfl, o, q⟩
    have z3 : w2.heap.size ≤ w3.heap.size := Below.size q
    have B := Lib.hid (B.out.trans q)
    have R := Lib.hid (OwnS.ext R.out q)
    clear q
    have V := Lib.hid (OwnS.zone (F' := fun b => w2.heap.size ≤ b ∧ b < w3.heap.size) (o.bound) (fun b hb => hb))
    clear o
    clear R
    go_wp2_with fail
    refine (T0.out _ B.out).mono ?_
    rintro e w4 ⟨aP, cP, rfl, o, q⟩
    have z4 : w3.heap.size ≤ w4.heap.size := Below.size q
    have B := Lib.hid (B.out.trans q)
    have V := Lib.hid (OwnS.ext V.out q)
    clear q
    have P := Lib.hid (OwnS.zone (F' := fun b => w3.heap.size ≤ b ∧ b < w4.heap.size) (o.bound) (fun b hb => hb))
    clear o
    go_wp2_with fail
    refine (implRenumberTerms t0 _ _ _ HSZ.out (OwnS.sl P.out HL0.out)).mono ?_
    rintro e w5 ⟨aG, cG, rfl, o, q⟩
    have z5 : w4.heap.size ≤ w5.heap.size := Below.size q
    have B := Lib.hid (B.out.trans q)
    have V := Lib.hid (OwnS.ext V.out q)
    have P := Lib.hid (OwnS.ext P.out q)
    clear q
    have G := Lib.hid (OwnS.zone (F' := fun b => w4.heap.size ≤ b ∧ b < w5.heap.size) (o.bound) (fun b hb => hb))
    clear o
    go_wp2_with fail
    refine (lawseqTermS _ _ _ (Nat.le_refl _) _ _ _ _ _ (OwnS.sl G.out HRL.out) (OwnS.sl V.out HRL.out)).mono ?_
    rw [sameL_refl]
    rintro e w6 ⟨rfl, q⟩
    have z6 : w5.heap.size ≤ w6.heap.size := Below.size q
    have B := Lib.hid (B.out.trans q)
    have V := Lib.hid (OwnS.ext V.out q)
    have P := Lib.hid (OwnS.ext P.out q)
    have G := Lib.hid (OwnS.ext G.out q)
    clear q
    go_wp2_with fail
    refine (T0.out _ B.out).mono ?_
    rintro e w7 ⟨aC, cC, rfl, o, q⟩
    have z7 : w6.heap.size ≤ w7.heap.size := Below.size q
    have B := Lib.hid (B.out.trans q)
    have V := Lib.hid (OwnS.ext V.out q)
    have P := Lib.hid (OwnS.ext P.out q)
    have G := Lib.hid (OwnS.ext G.out q)
    clear q
    have C := Lib.hid (OwnS.zone (F' := fun b => w6.heap.size ≤ b ∧ b < w7.heap.size) (o.bound) (fun b hb => hb))
    clear o
    go_wp2_with fail
    refine (lawseqTermS _ _ _ (Nat.le_refl _) _ _ _ _ _ (OwnS.sl P.out HL0.out) (OwnS.sl C.out HL0.out)).mono ?_
    rw [sameL_refl]
    rintro e w8 ⟨rfl, q⟩
    have z8 : w7.heap.size ≤ w8.heap.size := Below.size q
    have B := Lib.hid (B.out.trans q)
    have V := Lib.hid (OwnS.ext V.out q)
    have P := Lib.hid (OwnS.ext P.out q)
    have G := Lib.hid (OwnS.ext G.out q)
    have C := Lib.hid (OwnS.ext C.out q)
    clear q
    clear C
    go_wp2_with fail
    refine (lawsmarkTermS _ t0 (Nat.le_refl _) _ _ _ 1 HS0.out P.out).mono ?_
    rintro e w9 ⟨rfl, _, q⟩
    have z9 : w8.heap.size ≤ w9.heap.size := q.size
    have B := Lib.hid (((Fr.of_ext B.out).trans q).toExt (fun k hk h => by omega))
    have V := Lib.hid (OwnS.mono V.out (fun _ h => h) q (fun b hb h => by omega))
    have G := Lib.hid (OwnS.mono G.out (fun _ h => h) q (fun b hb h => by omega))
    clear q
    clear P
    go_wp2_with fail
    refine (lawseqTermS _ _ _ (Nat.le_refl _) _ _ _ _ _ (OwnS.sl G.out HRL.out) (OwnS.sl V.out HRL.out)).mono ?_
    rw [sameL_refl]
    rintro e w10 ⟨rfl, q⟩
    have z10 : w9.heap.size ≤ w10.heap.size := Below.size q
    have B := Lib.hid (B.out.trans q)
    have V := Lib.hid (OwnS.ext V.out q)
    have G := Lib.hid (OwnS.ext G.out q)
    clear q
    go_wp2_with fail
    refine (lawsmarkTermS _ (rnF t0) (Nat.le_refl _) _ _ _ 1 HRM.out G.out).mono ?_
    rintro e w11 ⟨rfl, m, q⟩
    have z11 : w10.heap.size ≤ w11.heap.size := q.size
    have B := Lib.hid (((Fr.of_ext B.out).trans q).toExt (fun k hk h => by omega))
    have V := Lib.hid (OwnS.mono V.out (fun _ h => h) q (fun b hb h => by omega))
    clear q
    have G := Lib.hid m
    clear m
    go_wp2_with fail
    refine (lawsheldTermS _ (rnF t0) (Nat.le_refl _) (fun _ => True) _ _ 1 HRM.out (OwnS.sl G.out (by rw [markL_len]; exact HRL.out))).mono ?_
    rintro e w12 ⟨rfl, q⟩
    have z12 : w11.heap.size ≤ w12.heap.size := Below.size q
    have B := Lib.hid (B.out.trans q)
    have V := Lib.hid (OwnS.ext V.out q)
    have G := Lib.hid (OwnS.ext G.out q)
    clear q
    go_wp2_with fail
    refine (T0.out _ B.out).mono ?_
    rintro e w13 ⟨aQ, cQ, rfl, o, q⟩
    have z13 : w12.heap.size ≤ w13.heap.size := Below.size q
    have B := Lib.hid (B.out.trans q)
    have V := Lib.hid (OwnS.ext V.out q)
    have G := Lib.hid (OwnS.ext G.out q)
    clear q
    have Q := Lib.hid (OwnS.zone (F' := fun b => w12.heap.size ≤ b ∧ b < w13.heap.size) (o.bound) (fun b hb => hb))
    clear o
    go_wp2_with fail
    refine (implRenumberTerms t0 _ _ _ HSZ.out (OwnS.sl Q.out HL0.out)).mono ?_
    rintro e w14 ⟨aH, cH, rfl, o, q⟩
    have z14 : w13.heap.size ≤ w14.heap.size := Below.size q
    have B := Lib.hid (B.out.trans q)
    have V := Lib.hid (OwnS.ext V.out q)
    have G := Lib.hid (OwnS.ext G.out q)
    have Q := Lib.hid (OwnS.ext Q.out q)
    clear q
    have H := Lib.hid (OwnS.zone (F' := fun b => w13.heap.size ≤ b ∧ b < w14.heap.size) (o.bound) (fun b hb => hb))
    clear o
    clear Q
    go_wp2_with fail
    refine (lawseqTermS _ _ _ (Nat.le_refl _) _ _ _ _ _ (OwnS.sl H.out HRL.out) (OwnS.sl V.out HRL.out)).mono ?_
    rw [sameL_refl]
    rintro e w15 ⟨rfl, q⟩
    have z15 : w14.heap.size ≤ w15.heap.size := Below.size q
    have B := Lib.hid (B.out.trans q)
    have V := Lib.hid (OwnS.ext V.out q)
    have G := Lib.hid (OwnS.ext G.out q)
    have H := Lib.hid (OwnS.ext H.out q)
    clear q
    go_wp2_with fail
    refine (lawsheldTermS _ (rnF t0) (Nat.le_refl _) (fun _ => True) _ _ 1 HRM.out (OwnS.sl G.out (by rw [markL_len]; exact HRL.out))).mono ?_
    rintro e w16 ⟨rfl, q⟩
    have z16 : w15.heap.size ≤ w16.heap.size := Below.size q
    have B := Lib.hid (B.out.trans q)
    have V := Lib.hid (OwnS.ext V.out q)
    have G := Lib.hid (OwnS.ext G.out q)
    have H := Lib.hid (OwnS.ext H.out q)
    clear q
    go_wp2_with fail
    go_ret
    exact ⟨rfl, B.out⟩
  · have Y0 := Lib.hid (leftF_no l0)
    go_enter Try.func5, Try.ntmps5
    go_wp2_with fail
    refine (Z0.out 1048576 (Nat.le_refl _) _ (Ext.refl _)).mono ?_
    rw [Y0.out]
    rintro e w1 ⟨rfl, e1⟩
    go_wp2_with fail
    go_ret
    exact ⟨rfl, e1⟩

set_option maxRecDepth 100000 in
theorem lifted (os : Os) (started : os.Started) (H : Type) (enc : TypeId × Value → H) :
    ReturnsInHanded {} Try.checked os 5 .any (Rows.fnExactRenumberTermsSpec.pre6 enc Try.prog Try.f5 Rows.fnExactRenumberTermsRow.domain false) (Rows.fnExactRenumberTermsSpec.post enc Try.prog Try.f5 false true false false) := by
  refine returnsInHanded_of_change (C := Try.checked) own started (by kernel_rfl) Try.func5
    (ChangeSpec.witness6 (enc := enc) (C := Try.checked) false ⟨#[], #[.slice none 0 0], []⟩ 8 (by kernel_rfl) (by kernel_rfl) (by kernel_rfl) (by kernel_rfl)) ?_
  intro W base args ds gs before hval0 hW hcnd _
  have hval : ∀ (j : Nat) t v, Try.f5.params[j]? = some t → args[j]? = some v → Value.okWide Try.prog W .any base t v := hval0
  have hW' := hW
  obtain ⟨p, q, hA0, hV, rfl, hfz, hnd⟩ := hW
  have hA : DataW.TrodAll enc Try.prog W 0 (fun _ => true) true Try.f5.params.toList args.toList ds p := hA0
  rw [Try.params5] at hA hval
  obtain ⟨v0, vs0, d0, ds0, p0, q0, hargs, rfl, rfl, h0, r0⟩ := trodAll_cons hA
  obtain ⟨rfl, rfl, rfl⟩ := trodAll_nil r0
  obtain rfl : args = #[v0] := by cases args; simp_all
  obtain ⟨rfl, rfl⟩ := trodVars_none hV
  have k0 := h0
  have lt0 : ∀ x ∈ p0, x.block < W.heap.size := by obtain ⟨m, hm⟩ := k0; exact DataW.trod_lt m _ _ _ hm
  have w0 := lterms_arg (hval 0 30 v0 rfl rfl) h0
  clear hA0 hval0 hval
  refine (walk _ W w0).mono fun e W' ⟨he, bel⟩ => ?_
  subst he
  exact ⟨_, rfl, _, _, _, [], _, [], hW', trodAll_mk1 (shut_bool Try.underlying4 _), (trodAll_cons_mk (Below.trod laidOut (by kernel_rfl) (of_decide_eq_true (by kernel_rfl)) k0 bel lt0) trodAll_mk0), rfl, bel.frame _, fun h => by cases h⟩

set_option maxRecDepth 100000 in
theorem over : Rows.fnExactRenumberTermsRow.holds Try.pinned (OpenSpec.ofChange Rows.fnExactRenumberTermsSpec) :=
  OpenClaim.holds_of_wide 5 Try.f5 rfl rfl rfl rfl rfl rfl rfl ⟨rfl, rfl, rfl, rfl, rfl⟩ rfl rfl rfl rfl rfl (by kernel_rfl) Try.func5 (by kernel_rfl)
    (of_decide_eq_true (by kernel_rfl)) (by unfold Func.isWrapper; first | (rw [if_pos (by decide +kernel)]; kernel_rfl) | (rw [if_neg (by decide +kernel)]; exact ⟨rfl, rfl⟩))
    (fun os started H enc _ => lifted os started H enc)

/-- the statement -/
theorem proved : Rows.FnExactRenumberTermsSaid := over
end Go.Proofs.Ytagaciadcgijoaa.fnExactRenumberTerms
