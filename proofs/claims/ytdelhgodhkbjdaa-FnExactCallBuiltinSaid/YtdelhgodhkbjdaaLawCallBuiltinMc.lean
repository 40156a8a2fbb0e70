/-
  For every term (of any size) FnExactCallBuiltin returns true: the program's CallBuiltin and the reference's return the same bindings and the same code, in memory of their own, and leave the goal as it was.
-/
import Derived.Test.YtdelhgodhkbjdaaRows
import Derived.Deep.RegionHeld3
import Derived.ProofKit
import Derived.OpenShut
import Derived.ShutString
import Derived.Test.YtdelhgodhkbjdaaMc37
import Derived.Test.YtdelhgodhkbjdaaMc44
import Derived.Test.YtdelhgodhkbjdaaMc53
import Derived.Test.YtdelhgodhkbjdaaMc34
import Derived.Test.YtdelhgodhkbjdaaMc35
namespace Go.Proofs.Ytdelhgodhkbjdaa.fnExactCallBuiltin
open Go.ChangeShapes Go.WideShapes Go.ChangeAt Go.RowKit
open Go.ChangeMaps (open_string shut_string)
set_option linter.unusedVariables false

theorem own : ownKnob Try.prog.godebug = none := by kernel_rfl
theorem laidOut : laidOutB Try.prog = true := by kernel_rfl

theorem cb_sz (t : Tm) : szB (cbR t) ≤ 9386 ∧ (cbR t).length ≤ 26 := by
  have h := allR_sz (callR t.name.toList t.kids).2
  by_cases hn : cbN t = 0
  · unfold cbR
    split
    · rename_i h2
      unfold allR at h
      rw [if_pos h2.2.2] at h
      exact h
    · simp [szB]
  · rw [cbR_no hn]; simp [szB]

set_option maxRecDepth 100000 in
set_option maxHeartbeats 16000000 in
theorem walk (a0 : Value) (w : World) (h0 : ∃ t, Lt.at (fun _ => True) w t a0) :
    Calls Try.prog 10 #[a0] w fun e w' => e = .returned (.bool true) ∧ Below w.heap.size w w' := by
  obtain ⟨t0, h0⟩ := h0
  have Z0 := Lib.hid (fun (l : Nat) (hl : l ≤ 1048576) w' (e' : Ext w w') => lawszTerm_any t0 a0 l _ w' hl (Lt.at_ext e' h0))
  have T0 := Lib.hid (fun (hl : Tm.wt t0 ≤ 1048576) w' (e' : Ext w w') => toTermO_any t0 a0 _ w' hl (Lt.at_ext e' h0))
  obtain ⟨_, sv0, rfl, x0, y0, rfl, _⟩ := Lt.at_iff.1 h0
  clear h0
  by_cases l0 : Tm.wt t0 ≤ 1048576
  · have Y0 := Lib.hid (leftF_yes l0)
    have t0' := T0.out l0
    have T0 := Lib.hid t0'
    clear t0'
    have hk0 := kids_wt t0
    have HN0 : Hid (t0.name.size ≤ 1048576) := Lib.hid (by have := name_wt t0; omega)
    have hl0 : t0.kids.length ≤ 1048576 := by omega
    have HM0 : Hid (1 + 3 * Tm.szL t0.kids < 9000000) := Lib.hid (by omega)
    have hbz := cb_sz t0
    clear hk0
    obtain ⟨bs, hbs⟩ : ∃ r, cbR t0 = r := ⟨_, rfl⟩
    obtain ⟨yy, hyy⟩ : ∃ b, cbN t0 = b := ⟨_, rfl⟩
    rw [hbs] at hbz
    have HM : Hid (1 + szB bs < 9000000) := Lib.hid (by omega)
    have HRL : Hid (bs.length ≤ 1048576) := Lib.hid (by omega)
    have SPEC := Lib.hid (fun v S w' (h1 : Tm.at S w' t0 v) => (by have h := specCallBuiltin t0 v S w' h1; rw [hbs, hyy] at h; exact h : Calls Try.prog 13 #[v] w' (BdBO bs (.int .i64 yy) w')))
    have IMPL := Lib.hid (fun v S w' (h1 : Tm.at S w' t0 v) => (by have h := implCallBuiltin t0 v S w' h1; rw [hbs, hyy] at h; exact h : Calls Try.prog 12 #[v] w' (BdBO bs (.int .i64 yy) w')))
    have hyn : (yy != yy) = false := by simp
    clear hbs hyy hbz
    go_enter Try.func10, Try.ntmps10
    go_wp2_with fail
    refine (Z0.out 1048576 (Nat.le_refl _) _ (Ext.alloc _ _)).mono ?_
    rw [Y0.out]
    rintro e w1 ⟨rfl, q⟩
    have A := Lib.hid ((BoxT.new w (.int .i64 t0.kind) (.int .i64 t0.n) (.string t0.name) (.slice x0 t0.kids.length y0) 49 rfl).ext q)
    have B := Lib.hid ((Ext.alloc _ _).trans q)
    have z1 : w.heap.size + 1 ≤ w1.heap.size := by have := Below.size q; simpa using this
    clear q Z0 Y0
    obtain ⟨ka0, ka1, ka2, ka3, _, _, _, _⟩ := A.out
    go_wp2_with fail
    refine (T0.out _ B.out).mono ?_
    rintro e w2 ⟨aR, cR, rfl, o, q⟩
    clear ka0 ka1 ka2 ka3
    have z2 : w1.heap.size ≤ w2.heap.size := Below.size q
    have A := Lib.hid (A.out.ext q)
    have B := Lib.hid (B.out.trans q)
    clear q
    have R := Lib.hid (((own_kids o).bound).zone (F' := fun b => w1.heap.size ≤ b ∧ b < w2.heap.size) (fun b hb => ⟨by simpa using hb.1, hb.2⟩))
    clear o
    go_wp2_with fail
    refine (SPEC.out _ (fun _ => True) _ (Tm.at_mono (fun _ _ => trivial) (Agree.refl _) (own_at R.out HN0.out hl0))).mono ?_
    rintro e w3 ⟨aV, cV, rfl, r, q⟩
    have z3 : w2.heap.size ≤ w3.heap.size := Below.size q
    have A := Lib.hid (A.out.ext q)
    have B := Lib.hid (B.out.trans q)
    have R := Lib.hid (OwnS.ext R.out q)
    clear q
    have V := Lib.hid ((r.bound).zone (F' := fun b => w2.heap.size ≤ b ∧ b < w3.heap.size) (fun b hb => ⟨by simpa using hb.1, hb.2⟩))
    clear r
    clear R
    obtain ⟨ka0, ka1, ka2, ka3, _, _, _, _⟩ := A.out
    go_wp2_with fail
    refine (T0.out _ B.out).mono ?_
    rintro e w4 ⟨aP, cP, rfl, o, q⟩
    clear ka0 ka1 ka2 ka3
    have z4 : w3.heap.size ≤ w4.heap.size := Below.size q
    have A := Lib.hid (A.out.ext q)
    have B := Lib.hid (B.out.trans q)
    have V := Lib.hid (OwnB.ext V.out q)
    clear q
    have P := Lib.hid (((own_kids o).bound).zone (F' := fun b => w3.heap.size ≤ b ∧ b < w4.heap.size) (fun b hb => ⟨by simpa using hb.1, hb.2⟩))
    clear o
    go_wp2_with fail
    refine (IMPL.out _ (fun _ => True) _ (Tm.at_mono (fun _ _ => trivial) (Agree.refl _) (own_at (OwnS.ext P.out (Ext.alloc _ _)) HN0.out hl0))).mono ?_
    rintro e w5 ⟨aG, cG, rfl, r, q⟩
    have X := Lib.hid ((BoxT.new w4 (.int .i64 t0.kind) (.int .i64 t0.n) (.string t0.name) (.slice aP t0.kids.length cP) 25 rfl).ext q)
    replace q := (Ext.alloc _ _).trans q
    have z5 : w4.heap.size + 1 ≤ w5.heap.size := by have := Below.size q; have := block_lt_of_cell X.out.1; simp only at this; omega
    have A := Lib.hid (A.out.ext q)
    have B := Lib.hid (B.out.trans q)
    have P := Lib.hid (OwnS.ext P.out q)
    have V := Lib.hid (OwnB.ext V.out q)
    clear q
    have G := Lib.hid ((r.bound).zone (F' := fun b => w4.heap.size + 1 ≤ b ∧ b < w5.heap.size) (fun b hb => ⟨by simpa using hb.1, hb.2⟩))
    clear r
    go_wp2_with fail
    refine (lawseqBindS bs _ _ _ _ _ (OwnB.sl G.out HRL.out) (OwnB.sl V.out HRL.out)).mono ?_
    rintro e w6 ⟨rfl, q⟩
    have z6 : w5.heap.size ≤ w6.heap.size := Below.size q
    have A := Lib.hid (A.out.ext q)
    have B := Lib.hid (B.out.trans q)
    have P := Lib.hid (OwnS.ext P.out q)
    have X := Lib.hid (X.out.ext q)
    have V := Lib.hid (OwnB.ext V.out q)
    have G := Lib.hid (OwnB.ext G.out q)
    clear q
    obtain ⟨ka0, ka1, ka2, ka3, _, _, _, _⟩ := A.out
    obtain ⟨kx0, kx1, kx2, kx3, _, _, _, _⟩ := X.out
    go_wp2_with fail
    go_region_held3 (fun w' => Ext w6 w' ∧ w'.cell? ⟨w.heap.size, 0, none⟩ = some (.int .i64 t0.kind) ∧ w'.cell? ⟨w.heap.size, 1, none⟩ = some (.int .i64 t0.n) ∧ w'.cell? ⟨w.heap.size, 2, none⟩ = some (.string t0.name) ∧ w'.cell? ⟨w.heap.size, 3, none⟩ = some (.slice x0 t0.kids.length y0) ∧
        w'.cell? ⟨w4.heap.size, 0, none⟩ = some (.int .i64 t0.kind) ∧ w'.cell? ⟨w4.heap.size, 1, none⟩ = some (.int .i64 t0.n) ∧ w'.cell? ⟨w4.heap.size, 2, none⟩ = some (.string t0.name) ∧ w'.cell? ⟨w4.heap.size, 3, none⟩ = some (.slice aP t0.kids.length cP))
      ((refine ⟨?_, ?_, ?_, ?_, ?_, ?_, ?_, ?_, ?_⟩ <;> first | with_reducible assumption | with_reducible exact Ext.drew _ | exact Ext.drew _ | (with_reducible (apply Ext.cell; assumption; assumption)) | (with_reducible (apply Ext.trans'; assumption; assumption)) | (with_reducible (apply Ext.cell; apply Ext.trans'; assumption; assumption; assumption)) | (with_reducible (apply Ext.trans'; assumption; apply Ext.trans'; assumption; assumption)) | (with_reducible (apply Ext.cell; apply Ext.trans'; assumption; apply Ext.trans'; assumption; assumption; assumption)) | assumption))
      (first
        | (go_at_call 29; refine (T0.out _ ?_).mono ?_; (exact B.out.trans (And.left (by assumption))); rintro e wt ⟨at1, ct1, rfl, ot1, et1⟩; try replace et1 := Ext.undrew et1)
        | (go_at_call 31; refine (lawseqTerm_any t0 t0 _ _ _ _ _ (Tm.at_ext et1 (own_at P.out HN0.out hl0)) (own_flat _ _ _ ot1)).mono ?_; rw [same_refl]; rintro e wu ⟨rfl, et2⟩; try replace et2 := Ext.undrew et2))
    have q := et1.trans et2
    clear ot1 et1 et2
    clear ka0 ka1 ka2 ka3
    clear kx0 kx1 kx2 kx3
    have zu : w6.heap.size ≤ wu.heap.size := Below.size q
    have A := Lib.hid (A.out.ext q)
    have B := Lib.hid (B.out.trans q)
    have P := Lib.hid (OwnS.ext P.out q)
    have X := Lib.hid (X.out.ext q)
    have V := Lib.hid (OwnB.ext V.out q)
    have G := Lib.hid (OwnB.ext G.out q)
    clear q
    obtain ⟨kx0, kx1, kx2, kx3, _, _, _, _⟩ := X.out
    go_wp2_with fail
    refine (lawsmarkTerm t0 _ _ _ _ 1 HM0.out P.out).mono ?_
    rintro e w7 ⟨rfl, _, q⟩
    clear kx0 kx1 kx2 kx3
    have z7 : wu.heap.size ≤ w7.heap.size := q.size
    have A := Lib.hid (A.out.fr q (fun h => by omega))
    have B := Lib.hid (((Fr.of_ext B.out).trans q).toExt (fun k hk h => by omega))
    have X := Lib.hid (X.out.fr q (fun h => by omega))
    have V := Lib.hid (OwnB.mono V.out (fun _ h => h) q (fun b hb h => by omega))
    have G := Lib.hid (OwnB.mono G.out (fun _ h => h) q (fun b hb h => by omega))
    clear q
    clear P X
    go_wp2_with fail
    refine (lawseqBindS bs _ _ _ _ _ (OwnB.sl G.out HRL.out) (OwnB.sl V.out HRL.out)).mono ?_
    rintro e w8 ⟨rfl, q⟩
    have z8 : w7.heap.size ≤ w8.heap.size := Below.size q
    have A := Lib.hid (A.out.ext q)
    have B := Lib.hid (B.out.trans q)
    have V := Lib.hid (OwnB.ext V.out q)
    have G := Lib.hid (OwnB.ext G.out q)
    clear q
    go_wp2_with fail
    refine (lawsmarkBindS bs _ _ _ 1 HM.out G.out).mono ?_
    rintro e w9 ⟨rfl, m, q⟩
    have z9 : w8.heap.size ≤ w9.heap.size := q.size
    have A := Lib.hid (A.out.fr q (fun h => by omega))
    have B := Lib.hid (((Fr.of_ext B.out).trans q).toExt (fun k hk h => by omega))
    have V := Lib.hid (OwnB.mono V.out (fun _ h => h) q (fun b hb h => by omega))
    clear q
    have G := Lib.hid m
    clear m
    go_wp2_with fail
    refine (lawsheldBindS bs _ _ _ 1 HM.out (OwnB.sl G.out (by rw [mkBL_len]; exact HRL.out))).mono ?_
    rintro e w10 ⟨rfl, q⟩
    have z10 : w9.heap.size ≤ w10.heap.size := Below.size q
    have A := Lib.hid (A.out.ext q)
    have B := Lib.hid (B.out.trans q)
    have V := Lib.hid (OwnB.ext V.out q)
    have G := Lib.hid (OwnB.ext G.out q)
    clear q
    obtain ⟨ka0, ka1, ka2, ka3, _, _, _, _⟩ := A.out
    go_wp2_with fail
    refine (T0.out _ B.out).mono ?_
    rintro e w11 ⟨aQ, cQ, rfl, o, q⟩
    clear ka0 ka1 ka2 ka3
    have z11 : w10.heap.size ≤ w11.heap.size := Below.size q
    have A := Lib.hid (A.out.ext q)
    have B := Lib.hid (B.out.trans q)
    have V := Lib.hid (OwnB.ext V.out q)
    have G := Lib.hid (OwnB.ext G.out q)
    clear q
    have Q := Lib.hid (((own_kids o).bound).zone (F' := fun b => w10.heap.size ≤ b ∧ b < w11.heap.size) (fun b hb => ⟨by simpa using hb.1, hb.2⟩))
    clear o
    go_wp2_with fail
    refine (IMPL.out _ (fun _ => True) _ (Tm.at_mono (fun _ _ => trivial) (Agree.refl _) (own_at Q.out HN0.out hl0))).mono ?_
    rintro e w12 ⟨aH, cH, rfl, r, q⟩
    have z12 : w11.heap.size ≤ w12.heap.size := Below.size q
    have A := Lib.hid (A.out.ext q)
    have B := Lib.hid (B.out.trans q)
    have Q := Lib.hid (OwnS.ext Q.out q)
    have V := Lib.hid (OwnB.ext V.out q)
    have G := Lib.hid (OwnB.ext G.out q)
    clear q
    have H := Lib.hid ((r.bound).zone (F' := fun b => w11.heap.size ≤ b ∧ b < w12.heap.size) (fun b hb => ⟨by simpa using hb.1, hb.2⟩))
    clear r
    clear Q
    go_wp2_with fail
    refine (lawseqBindS bs _ _ _ _ _ (OwnB.sl H.out HRL.out) (OwnB.sl V.out HRL.out)).mono ?_
    rintro e w13 ⟨rfl, q⟩
    have z13 : w12.heap.size ≤ w13.heap.size := Below.size q
    have A := Lib.hid (A.out.ext q)
    have B := Lib.hid (B.out.trans q)
    have V := Lib.hid (OwnB.ext V.out q)
    have G := Lib.hid (OwnB.ext G.out q)
    have H := Lib.hid (OwnB.ext H.out q)
    clear q
    go_wp2_with fail
    refine (lawsheldBindS bs _ _ _ 1 HM.out (OwnB.sl G.out (by rw [mkBL_len]; exact HRL.out))).mono ?_
    rintro e w14 ⟨rfl, q⟩
    have z14 : w13.heap.size ≤ w14.heap.size := Below.size q
    have A := Lib.hid (A.out.ext q)
    have B := Lib.hid (B.out.trans q)
    have V := Lib.hid (OwnB.ext V.out q)
    have G := Lib.hid (OwnB.ext G.out q)
    have H := Lib.hid (OwnB.ext H.out q)
    clear q
    go_wp2_with fail
    go_ret
    exact ⟨rfl, B.out⟩
  · have Y0 := Lib.hid (leftF_no l0)
    go_enter Try.func10, Try.ntmps10
    go_wp2_with fail
    refine (Z0.out 1048576 (Nat.le_refl _) _ (Ext.alloc _ _)).mono ?_
    rw [Y0.out]
    rintro e w1 ⟨rfl, q⟩
    have A := Lib.hid ((BoxT.new w (.int .i64 t0.kind) (.int .i64 t0.n) (.string t0.name) (.slice x0 t0.kids.length y0) 49 rfl).ext q)
    have B := Lib.hid ((Ext.alloc _ _).trans q)
    have z1 : w.heap.size + 1 ≤ w1.heap.size := by have := Below.size q; simpa using this
    clear q Z0 Y0
    go_wp2_with fail
    go_ret
    exact ⟨rfl, B.out⟩

set_option maxRecDepth 100000 in
theorem lifted (os : Os) (started : os.Started) (H : Type) (enc : TypeId × Value → H) :
    ReturnsInHanded {} Try.checked os 10 .any (Rows.fnExactCallBuiltinSpec.pre6 enc Try.prog Try.f10 Rows.fnExactCallBuiltinRow.domain false) (Rows.fnExactCallBuiltinSpec.post enc Try.prog Try.f10 false true false false) := by
  refine returnsInHanded_of_change (C := Try.checked) own started (by kernel_rfl) Try.func10
    (ChangeSpec.witness6 (enc := enc) (C := Try.checked) false ⟨#[], #[.agg #[.int .i64 0, .int .i64 0, .string ByteArray.empty, .slice none 0 0]], []⟩ 8 (by kernel_rfl) (by kernel_rfl) (by kernel_rfl) (by kernel_rfl)) ?_
  intro W base args ds gs before hval0 hW hcnd _
  have hval : ∀ (j : Nat) t v, Try.f10.params[j]? = some t → args[j]? = some v → Value.okWide Try.prog W .any base t v := hval0
  have hW' := hW
  obtain ⟨p, q, hA0, hV, rfl, hfz, hnd⟩ := hW
  have hA : DataW.TrodAll enc Try.prog W 0 (fun _ => true) true Try.f10.params.toList args.toList ds p := hA0
  rw [Try.params10] at hA hval
  obtain ⟨v0, vs0, d0, ds0, p0, q0, hargs, rfl, rfl, h0, r0⟩ := trodAll_cons hA
  obtain ⟨rfl, rfl, rfl⟩ := trodAll_nil r0
  obtain rfl : args = #[v0] := by cases args; simp_all
  obtain ⟨rfl, rfl⟩ := trodVars_none hV
  have k0 := h0
  have lt0 : ∀ x ∈ p0, x.block < W.heap.size := by obtain ⟨m, hm⟩ := k0; exact DataW.trod_lt m _ _ _ hm
  have w0 := lterm_of_trod (hval 0 49 v0 rfl rfl) h0
  clear hA0 hval0 hval
  refine (walk _ W w0).mono fun e W' ⟨he, bel⟩ => ?_
  subst he
  exact ⟨_, rfl, _, _, _, [], _, [], hW', trodAll_mk1 (shut_bool Try.underlying4 _), (trodAll_cons_mk (Below.trod laidOut (by kernel_rfl) (of_decide_eq_true (by kernel_rfl)) k0 bel lt0) trodAll_mk0), rfl, bel.frame _, fun h => by cases h⟩

set_option maxRecDepth 100000 in
theorem over : Rows.fnExactCallBuiltinRow.holds Try.pinned (OpenSpec.ofChange Rows.fnExactCallBuiltinSpec) :=
  OpenClaim.holds_of_wide 10 Try.f10 rfl rfl rfl rfl rfl rfl rfl ⟨rfl, rfl, rfl, rfl, rfl⟩ rfl rfl rfl rfl rfl (by kernel_rfl) Try.func10 (by kernel_rfl)
    (of_decide_eq_true (by kernel_rfl)) (by unfold Func.isWrapper; first | (rw [if_pos (by decide +kernel)]; kernel_rfl) | (rw [if_neg (by decide +kernel)]; exact ⟨rfl, rfl⟩))
    (fun os started H enc _ => lifted os started H enc)

/-- the statement -/
theorem proved : Rows.FnExactCallBuiltinSaid := over
end Go.Proofs.Ytdelhgodhkbjdaa.fnExactCallBuiltin
