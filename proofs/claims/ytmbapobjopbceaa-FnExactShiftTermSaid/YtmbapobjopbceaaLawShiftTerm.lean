/-
  For every term (of any size) and every number FnExactShiftTerm returns true: the program's ShiftTerm and the reference's return the same, in memory of its own, and leave the term as it was.
-/
import Derived.Test.YtmbapobjopbceaaRows
import Derived.Test.YtmbapobjopbceaaMarkT
import Derived.Test.YtmbapobjopbceaaShiftT
import Derived.Test.YtmbapobjopbceaaSame2
import Derived.Deep.RegionHeld3
import Derived.ProofKit
import Derived.OpenShut
import Derived.ShutString
namespace Go.Proofs.Ytmbapobjopbceaa.fnExactShiftTerm
open Go.ChangeShapes Go.WideShapes Go.ChangeAt Go.RowKit
open Go.ChangeMaps (open_string shut_string)
set_option linter.unusedVariables false

theorem own : ownKnob Try.prog.godebug = none := by kernel_rfl
theorem laidOut : laidOutB Try.prog = true := by kernel_rfl

set_option maxRecDepth 100000 in
set_option maxHeartbeats 8000000 in
theorem walk (a0 : Value) (n0 : Int) (w : World) (h0 : ∃ t, Lt.at (fun _ => True) w t a0) (hn0 : (Lit.int .i64 n0).wf = true) :
    Calls Try.prog 8 #[a0, .int .i64 n0] w fun e w' => e = .returned (.bool true) ∧ Below w.heap.size w w' := by
  have hn0' : -9223372036854775808 ≤ n0 ∧ n0 ≤ 9223372036854775807 := by simp [Lit.wf, IntKind.min, IntKind.max, IntKind.signed, IntKind.bits] at hn0; omega
  have HE0 := Lib.hid hn0'
  clear hn0
  obtain ⟨he0a, he0b⟩ := hn0'
  obtain ⟨t0, h0⟩ := h0
  have Z0 := Lib.hid (fun (l : Nat) (hl : l ≤ 1048576) w' (e' : Ext w w') => lawszTerm_any t0 a0 l _ w' hl (Lt.at_ext e' h0))
  have T0 := Lib.hid (fun (hl : Tm.wt t0 ≤ 1048576) w' (e' : Ext w w') => toTermO_any t0 a0 _ w' hl (Lt.at_ext e' h0))
  obtain ⟨_, sv0, rfl, x0, y0, rfl, _⟩ := Lt.at_iff.1 h0
  clear h0
  by_cases l0 : Tm.wt t0 ≤ 1048576
  · have Y0 := Lib.hid (leftF_yes l0)
    have t0' := T0.out l0
    have T0 := Lib.hid t0'
    clear t0'
    have hk0 := kids_wt t0
    have HN0 : Hid (t0.name.size ≤ 1048576) := Lib.hid (by have := name_wt t0; omega)
    have hl0 : t0.kids.length ≤ 1048576 := by omega
    have HS0 : Hid (1 + 3 * Tm.szL t0.kids < 9000000) := Lib.hid (by omega)
    clear hk0
    go_enter Try.func8, Try.ntmps8
    go_wp2_with fail
    refine (Z0.out 1048576 (Nat.le_refl _) _ (Ext.alloc _ _)).mono ?_
    rw [Y0.out]
    rintro e w1 ⟨rfl, q⟩
    have A := Lib.hid ((BoxT.new w (.int .i64 t0.kind) (.int .i64 t0.n) (.string t0.name) (.slice x0 t0.kids.length y0) 24 rfl).ext q)
    have B := Lib.hid ((Ext.alloc _ _).trans q)
    have z1 : w.heap.size + 1 ≤ w1.heap.size := by have := Below.size q; simpa using this
    clear q Z0 Y0
    obtain ⟨ka0, ka1, ka2, ka3, _, _, _, _⟩ := A.out
    go_wp2_with fail
    refine (T0.out _ B.out).mono ?_
    rintro e w2 ⟨aR, cR, rfl, o, q⟩
    clear ka0 ka1 ka2 ka3
    have z2 : w1.heap.size ≤ w2.heap.size := Below.size q
    have A := Lib.hid (A.out.ext q)
    have B := Lib.hid (B.out.trans q)
    clear q
    have R := Lib.hid (((own_kids o).bound).zone (F' := fun b => w1.heap.size ≤ b ∧ b < w2.heap.size) (fun b hb => ⟨by simpa using hb.1, hb.2⟩))
    clear o
    go_wp2_with fail
    refine (specShiftTerm t0 n0 _ _ _ HE0.out.1 HE0.out.2 (own_at R.out HN0.out hl0)).mono ?_
    rintro e w3 ⟨aV, cV, rfl, r, q⟩
    have z3 : w2.heap.size ≤ w3.heap.size := Below.size q
    have A := Lib.hid (A.out.ext q)
    have B := Lib.hid (B.out.trans q)
    have R := Lib.hid (OwnS.ext R.out q)
    clear q
    have HRN : Hid ((shiftR t0 n0).name.size ≤ 1048576) := Lib.hid (own_iff.1 r).1
    have hrl : (shiftR t0 n0).kids.length ≤ 1048576 := (own_iff.1 r).2.1
    have V := Lib.hid (((own_kids r).bound).zone (F' := fun b => w2.heap.size ≤ b ∧ b < w3.heap.size) (fun b hb => ⟨by simpa using hb.1, hb.2⟩))
    clear r
    clear R
    obtain ⟨ka0, ka1, ka2, ka3, _, _, _, _⟩ := A.out
    have la := A.out.lt
    go_wp2_with fail
    refine (T0.out _ (B.out.trans (Ext.alloc _ _))).mono ?_
    rintro e w4 ⟨aP, cP, rfl, o, q⟩
    clear ka0 ka1 ka2 ka3
    clear la
    have XV := Lib.hid ((BoxT.new w3 (.int .i64 (shiftR t0 n0).kind) (.int .i64 (shiftR t0 n0).n) (.string (shiftR t0 n0).name) (.slice aV (shiftR t0 n0).kids.length cV) 29 rfl).ext q)
    replace q := (Ext.alloc _ _).trans q
    have z4 : w3.heap.size + 1 ≤ w4.heap.size := by have := Below.size q; have := block_lt_of_cell XV.out.1; simp only at this; omega
    have A := Lib.hid (A.out.ext q)
    have B := Lib.hid (B.out.trans q)
    have V := Lib.hid (OwnS.ext V.out q)
    clear q
    have P := Lib.hid (((own_kids o).bound).zone (F' := fun b => w3.heap.size + 1 ≤ b ∧ b < w4.heap.size) (fun b hb => ⟨by simpa using hb.1, hb.2⟩))
    clear o
    go_wp2_with fail
    refine (implShiftTerm t0 n0 _ _ _ HE0.out.1 HE0.out.2 (own_at (OwnS.ext P.out (Ext.alloc _ _)) HN0.out hl0)).mono ?_
    rintro e w5 ⟨aG, cG, rfl, r, q⟩
    have X := Lib.hid ((BoxT.new w4 (.int .i64 t0.kind) (.int .i64 t0.n) (.string t0.name) (.slice aP t0.kids.length cP) 29 rfl).ext q)
    replace q := (Ext.alloc _ _).trans q
    have z5 : w4.heap.size + 1 ≤ w5.heap.size := by have := Below.size q; have := block_lt_of_cell X.out.1; simp only at this; omega
    have A := Lib.hid (A.out.ext q)
    have B := Lib.hid (B.out.trans q)
    have V := Lib.hid (OwnS.ext V.out q)
    have XV := Lib.hid (XV.out.ext q)
    have P := Lib.hid (OwnS.ext P.out q)
    clear q
    have G := Lib.hid (((own_kids r).bound).zone (F' := fun b => w4.heap.size + 1 ≤ b ∧ b < w5.heap.size) (fun b hb => ⟨by simpa using hb.1, hb.2⟩))
    clear r
    obtain ⟨kxv0, kxv1, kxv2, kxv3, _, _, _, _⟩ := XV.out
    have lxv := XV.out.lt
    go_wp2_with fail
    refine (lawseqTerm_any _ _ _ _ _ _ _ (own_at (OwnS.ext G.out (Ext.alloc _ _)) HRN.out hrl) (own_at (OwnS.ext V.out (Ext.alloc _ _)) HRN.out hrl)).mono ?_
    rw [same_refl]
    rintro e w6 ⟨rfl, q⟩
    clear kxv0 kxv1 kxv2 kxv3
    clear lxv
    have XG := Lib.hid ((BoxT.new w5 (.int .i64 (shiftR t0 n0).kind) (.int .i64 (shiftR t0 n0).n) (.string (shiftR t0 n0).name) (.slice aG (shiftR t0 n0).kids.length cG) 29 rfl).ext q)
    replace q := (Ext.alloc _ _).trans q
    have z6 : w5.heap.size + 1 ≤ w6.heap.size := by have := Below.size q; have := block_lt_of_cell XG.out.1; simp only at this; omega
    have A := Lib.hid (A.out.ext q)
    have B := Lib.hid (B.out.trans q)
    have V := Lib.hid (OwnS.ext V.out q)
    have XV := Lib.hid (XV.out.ext q)
    have P := Lib.hid (OwnS.ext P.out q)
    have X := Lib.hid (X.out.ext q)
    have G := Lib.hid (OwnS.ext G.out q)
    clear q
    obtain ⟨ka0, ka1, ka2, ka3, _, _, _, _⟩ := A.out
    obtain ⟨kx0, kx1, kx2, kx3, _, _, _, _⟩ := X.out
    go_wp2_with fail
    go_region_held3 (fun w' => Ext w6 w' ∧ w'.cell? ⟨w.heap.size, 0, none⟩ = some (.int .i64 t0.kind) ∧ w'.cell? ⟨w.heap.size, 1, none⟩ = some (.int .i64 t0.n) ∧ w'.cell? ⟨w.heap.size, 2, none⟩ = some (.string t0.name) ∧ w'.cell? ⟨w.heap.size, 3, none⟩ = some (.slice x0 t0.kids.length y0) ∧
        w'.cell? ⟨w4.heap.size, 0, none⟩ = some (.int .i64 t0.kind) ∧ w'.cell? ⟨w4.heap.size, 1, none⟩ = some (.int .i64 t0.n) ∧ w'.cell? ⟨w4.heap.size, 2, none⟩ = some (.string t0.name) ∧ w'.cell? ⟨w4.heap.size, 3, none⟩ = some (.slice aP t0.kids.length cP))
      ((refine ⟨?_, ?_, ?_, ?_, ?_, ?_, ?_, ?_, ?_⟩ <;> first | with_reducible assumption | with_reducible exact Ext.drew _ | exact Ext.drew _ | (with_reducible (apply Ext.cell; assumption; assumption)) | (with_reducible (apply Ext.trans'; assumption; assumption)) | (with_reducible (apply Ext.cell; apply Ext.trans'; assumption; assumption; assumption)) | (with_reducible (apply Ext.trans'; assumption; apply Ext.trans'; assumption; assumption)) | (with_reducible (apply Ext.cell; apply Ext.trans'; assumption; apply Ext.trans'; assumption; assumption; assumption)) | assumption))
      (first
        | (go_at_call 17; refine (T0.out _ ?_).mono ?_; (exact B.out.trans (And.left (by assumption))); rintro e wt ⟨at1, ct1, rfl, ot1, et1⟩; try replace et1 := Ext.undrew et1)
        | (go_at_call 19; refine (lawseqTerm_any t0 t0 _ _ _ _ _ (Tm.at_ext et1 (own_at P.out HN0.out hl0)) (own_flat _ _ _ ot1)).mono ?_; rw [same_refl]; rintro e wu ⟨rfl, et2⟩; try replace et2 := Ext.undrew et2))
    have q := et1.trans et2
    clear ot1 et1 et2
    clear ka0 ka1 ka2 ka3
    clear kx0 kx1 kx2 kx3
    have zu : w6.heap.size ≤ wu.heap.size := Below.size q
    have A := Lib.hid (A.out.ext q)
    have B := Lib.hid (B.out.trans q)
    have V := Lib.hid (OwnS.ext V.out q)
    have XV := Lib.hid (XV.out.ext q)
    have P := Lib.hid (OwnS.ext P.out q)
    have X := Lib.hid (X.out.ext q)
    have G := Lib.hid (OwnS.ext G.out q)
    have XG := Lib.hid (XG.out.ext q)
    clear q
    obtain ⟨kx0, kx1, kx2, kx3, _, _, _, _⟩ := X.out
    go_wp2_with fail
    refine (lawsmarkTerm t0 _ _ _ _ 1 HS0.out P.out).mono ?_
    rintro e w7 ⟨rfl, _, q⟩
    clear kx0 kx1 kx2 kx3
    have z7 : wu.heap.size ≤ w7.heap.size := q.size
    have A := Lib.hid (A.out.fr q (fun h => by omega))
    have B := Lib.hid (((Fr.of_ext B.out).trans q).toExt (fun k hk h => by omega))
    have V := Lib.hid (OwnS.mono V.out (fun _ h => h) q (fun b hb h => by omega))
    have XV := Lib.hid (XV.out.fr q (fun h => by omega))
    have X := Lib.hid (X.out.fr q (fun h => by omega))
    have G := Lib.hid (OwnS.mono G.out (fun _ h => h) q (fun b hb h => by omega))
    have XG := Lib.hid (XG.out.fr q (fun h => by omega))
    clear q
    clear P X
    obtain ⟨kxg0, kxg1, kxg2, kxg3, _, _, _, _⟩ := XG.out
    obtain ⟨kxv0, kxv1, kxv2, kxv3, _, _, _, _⟩ := XV.out
    go_wp2_with fail
    refine (lawseqTerm_any _ _ _ _ _ _ _ (own_at G.out HRN.out hrl) (own_at V.out HRN.out hrl)).mono ?_
    rw [same_refl]
    rintro e w8 ⟨rfl, q⟩
    clear kxg0 kxg1 kxg2 kxg3
    clear kxv0 kxv1 kxv2 kxv3
    have z8 : w7.heap.size ≤ w8.heap.size := Below.size q
    have A := Lib.hid (A.out.ext q)
    have B := Lib.hid (B.out.trans q)
    have V := Lib.hid (OwnS.ext V.out q)
    have XV := Lib.hid (XV.out.ext q)
    have G := Lib.hid (OwnS.ext G.out q)
    have XG := Lib.hid (XG.out.ext q)
    clear q
    have HM : Hid (1 + 3 * Tm.szL (shiftR t0 n0).kids < 9000000) := Lib.hid (by have h1 := shiftR_sz t0 n0; omega)
    obtain ⟨kxg0, kxg1, kxg2, kxg3, _, _, _, _⟩ := XG.out
    go_wp2_with fail
    refine (lawsmarkTerm (shiftR t0 n0) _ _ _ _ 1 HM.out G.out).mono ?_
    rintro e w9 ⟨rfl, m, q⟩
    clear kxg0 kxg1 kxg2 kxg3
    have z9 : w8.heap.size ≤ w9.heap.size := q.size
    have A := Lib.hid (A.out.fr q (fun h => by omega))
    have B := Lib.hid (((Fr.of_ext B.out).trans q).toExt (fun k hk h => by omega))
    have V := Lib.hid (OwnS.mono V.out (fun _ h => h) q (fun b hb h => by omega))
    have XV := Lib.hid (XV.out.fr q (fun h => by omega))
    have XG := Lib.hid (XG.out.fr q (fun h => by omega))
    clear q
    have G := Lib.hid m
    clear m
    obtain ⟨kxg0, kxg1, kxg2, kxg3, _, _, _, _⟩ := XG.out
    go_wp2_with fail
    refine (lawsheldTerm (shiftR t0 n0) _ _ _ _ 1 HM.out hrl G.out).mono ?_
    rintro e w10 ⟨rfl, q⟩
    clear kxg0 kxg1 kxg2 kxg3
    have z10 : w9.heap.size ≤ w10.heap.size := Below.size q
    have A := Lib.hid (A.out.ext q)
    have B := Lib.hid (B.out.trans q)
    have V := Lib.hid (OwnS.ext V.out q)
    have XV := Lib.hid (XV.out.ext q)
    have XG := Lib.hid (XG.out.ext q)
    have G := Lib.hid (OwnS.ext G.out q)
    clear q
    obtain ⟨ka0, ka1, ka2, ka3, _, _, _, _⟩ := A.out
    go_wp2_with fail
    refine (T0.out _ B.out).mono ?_
    rintro e w11 ⟨aQ, cQ, rfl, o, q⟩
    clear ka0 ka1 ka2 ka3
    have z11 : w10.heap.size ≤ w11.heap.size := Below.size q
    have A := Lib.hid (A.out.ext q)
    have B := Lib.hid (B.out.trans q)
    have V := Lib.hid (OwnS.ext V.out q)
    have XV := Lib.hid (XV.out.ext q)
    have XG := Lib.hid (XG.out.ext q)
    have G := Lib.hid (OwnS.ext G.out q)
    clear q
    have Q := Lib.hid (((own_kids o).bound).zone (F' := fun b => w10.heap.size ≤ b ∧ b < w11.heap.size) (fun b hb => ⟨by simpa using hb.1, hb.2⟩))
    clear o
    go_wp2_with fail
    refine (implShiftTerm t0 n0 _ _ _ HE0.out.1 HE0.out.2 (own_at Q.out HN0.out hl0)).mono ?_
    rintro e w12 ⟨aH, cH, rfl, r, q⟩
    have z12 : w11.heap.size ≤ w12.heap.size := Below.size q
    have A := Lib.hid (A.out.ext q)
    have B := Lib.hid (B.out.trans q)
    have V := Lib.hid (OwnS.ext V.out q)
    have XV := Lib.hid (XV.out.ext q)
    have XG := Lib.hid (XG.out.ext q)
    have G := Lib.hid (OwnS.ext G.out q)
    have Q := Lib.hid (OwnS.ext Q.out q)
    clear q
    have H := Lib.hid (((own_kids r).bound).zone (F' := fun b => w11.heap.size ≤ b ∧ b < w12.heap.size) (fun b hb => ⟨by simpa using hb.1, hb.2⟩))
    clear r
    clear Q
    obtain ⟨kxv0, kxv1, kxv2, kxv3, _, _, _, _⟩ := XV.out
    have lxv := XV.out.lt
    go_wp2_with fail
    refine (lawseqTerm_any _ _ _ _ _ _ _ (own_at (OwnS.ext H.out (Ext.alloc _ _)) HRN.out hrl) (own_at (OwnS.ext V.out (Ext.alloc _ _)) HRN.out hrl)).mono ?_
    rw [same_refl]
    rintro e w13 ⟨rfl, q⟩
    clear kxv0 kxv1 kxv2 kxv3
    clear lxv
    have XH := Lib.hid ((BoxT.new w12 (.int .i64 (shiftR t0 n0).kind) (.int .i64 (shiftR t0 n0).n) (.string (shiftR t0 n0).name) (.slice aH (shiftR t0 n0).kids.length cH) 29 rfl).ext q)
    replace q := (Ext.alloc _ _).trans q
    have z13 : w12.heap.size + 1 ≤ w13.heap.size := by have := Below.size q; have := block_lt_of_cell XH.out.1; simp only at this; omega
    have A := Lib.hid (A.out.ext q)
    have B := Lib.hid (B.out.trans q)
    have V := Lib.hid (OwnS.ext V.out q)
    have XV := Lib.hid (XV.out.ext q)
    have XG := Lib.hid (XG.out.ext q)
    have G := Lib.hid (OwnS.ext G.out q)
    have H := Lib.hid (OwnS.ext H.out q)
    clear q
    obtain ⟨kxg0, kxg1, kxg2, kxg3, _, _, _, _⟩ := XG.out
    go_wp2_with fail
    refine (lawsheldTerm (shiftR t0 n0) _ _ _ _ 1 HM.out hrl G.out).mono ?_
    rintro e w14 ⟨rfl, q⟩
    clear kxg0 kxg1 kxg2 kxg3
    have z14 : w13.heap.size ≤ w14.heap.size := Below.size q
    have A := Lib.hid (A.out.ext q)
    have B := Lib.hid (B.out.trans q)
    have V := Lib.hid (OwnS.ext V.out q)
    have XV := Lib.hid (XV.out.ext q)
    have XG := Lib.hid (XG.out.ext q)
    have G := Lib.hid (OwnS.ext G.out q)
    have H := Lib.hid (OwnS.ext H.out q)
    have XH := Lib.hid (XH.out.ext q)
    clear q
    go_wp2_with fail
    go_ret
    exact ⟨rfl, B.out⟩
  · have Y0 := Lib.hid (leftF_no l0)
    go_enter Try.func8, Try.ntmps8
    go_wp2_with fail
    refine (Z0.out 1048576 (Nat.le_refl _) _ (Ext.alloc _ _)).mono ?_
    rw [Y0.out]
    rintro e w1 ⟨rfl, e1⟩
    go_wp2_with fail
    go_ret
    exact ⟨rfl, (Ext.alloc _ _).trans e1⟩

set_option maxRecDepth 100000 in
theorem lifted (os : Os) (started : os.Started) (H : Type) (enc : TypeId × Value → H) :
    ReturnsInHanded {} Try.checked os 8 .any (Rows.fnExactShiftTermSpec.pre6 enc Try.prog Try.f8 Rows.fnExactShiftTermRow.domain false) (Rows.fnExactShiftTermSpec.post enc Try.prog Try.f8 false true false false) := by
  refine returnsInHanded_of_change (C := Try.checked) own started (by kernel_rfl) Try.func8
    (ChangeSpec.witness6 (enc := enc) (C := Try.checked) false ⟨#[], #[.agg #[.int .i64 0, .int .i64 0, .string ByteArray.empty, .slice none 0 0], .int .i64 0], []⟩ 8 (by kernel_rfl) (by kernel_rfl) (by kernel_rfl) (by kernel_rfl)) ?_
  intro W base args ds gs before hval0 hW hcnd _
  have hval : ∀ (j : Nat) t v, Try.f8.params[j]? = some t → args[j]? = some v → Value.okWide Try.prog W .any base t v := hval0
  have hW' := hW
  obtain ⟨p, q, hA0, hV, rfl, hfz, hnd⟩ := hW
  have hA : DataW.TrodAll enc Try.prog W 0 (fun _ => true) true Try.f8.params.toList args.toList ds p := hA0
  rw [Try.params8] at hA hval
  obtain ⟨v0, vs0, d0, ds0, p0, q0, hargs, rfl, rfl, h0, r0⟩ := trodAll_cons hA
  obtain ⟨v1, vs1, d1, ds1, p1, q1, rfl, rfl, rfl, h1, r1⟩ := trodAll_cons r0
  obtain ⟨rfl, rfl, rfl⟩ := trodAll_nil r1
  obtain rfl : args = #[v0, v1] := by cases args; simp_all
  obtain ⟨rfl, rfl⟩ := trodVars_none hV
  have k0 := h0
  have lt0 : ∀ x ∈ p0, x.block < W.heap.size := by obtain ⟨m, hm⟩ := k0; exact DataW.trod_lt m _ _ _ hm
  have w0 := lterm_of_trod (hval 0 24 v0 rfl rfl) h0
  have k1 := h1
  have lt1 : ∀ x ∈ p1, x.block < W.heap.size := by obtain ⟨m, hm⟩ := k1; exact DataW.trod_lt m _ _ _ hm
  obtain ⟨a1, rfl, _, _, w1⟩ := open_int Try.underlying3 (hval 1 3 v1 rfl rfl) h1
  clear hA0 hval0 hval
  refine (walk _ a1 W w0 w1).mono fun e W' ⟨he, bel⟩ => ?_
  subst he
  exact ⟨_, rfl, _, _, _, [], _, [], hW', trodAll_mk1 (shut_bool Try.underlying4 _), (trodAll_cons_mk (Below.trod laidOut (by kernel_rfl) (of_decide_eq_true (by kernel_rfl)) k0 bel lt0) (trodAll_cons_mk (Below.trod laidOut (by kernel_rfl) (of_decide_eq_true (by kernel_rfl)) k1 bel lt1) trodAll_mk0)), rfl, bel.frame _, fun h => by cases h⟩

set_option maxRecDepth 100000 in
theorem over : Rows.fnExactShiftTermRow.holds Try.pinned (OpenSpec.ofChange Rows.fnExactShiftTermSpec) :=
  OpenClaim.holds_of_wide 8 Try.f8 rfl rfl rfl rfl rfl rfl rfl ⟨rfl, rfl, rfl, rfl, rfl⟩ rfl rfl rfl rfl rfl (by kernel_rfl) Try.func8 (by kernel_rfl)
    (of_decide_eq_true (by kernel_rfl)) (by unfold Func.isWrapper; first | (rw [if_pos (by decide +kernel)]; kernel_rfl) | (rw [if_neg (by decide +kernel)]; exact ⟨rfl, rfl⟩))
    (fun os started H enc _ => lifted os started H enc)

/-- the statement -/
theorem proved : Rows.FnExactShiftTermSaid := over
end Go.Proofs.Ytmbapobjopbceaa.fnExactShiftTerm
