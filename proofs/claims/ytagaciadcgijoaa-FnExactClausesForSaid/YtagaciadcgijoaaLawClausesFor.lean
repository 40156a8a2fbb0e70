/-
  For every program and every term (of any size) FnExactClausesFor returns true: the program's ClausesFor and the reference's return the same, in memory of its own, and leave the arguments as they were.
-/
import Derived.Test.YtagaciadcgijoaaRows
import Derived.Test.YtagaciadcgijoaaClForS
import Derived.Test.YtagaciadcgijoaaClMark
import Derived.Test.YtagaciadcgijoaaClOpen
import Derived.Test.YtagaciadcgijoaaMarkI
import Derived.Test.YtagaciadcgijoaaMarkT
import Derived.Deep.RegionHeld3
import Derived.ProofKit
import Derived.OpenShut
import Derived.ShutString
namespace Go.Proofs.Ytagaciadcgijoaa.fnExactClausesFor
open Go.ChangeShapes Go.WideShapes Go.ChangeAt Go.RowKit
open Go.ChangeMaps (open_string shut_string)
set_option linter.unusedVariables false

theorem own : ownKnob Try.prog.godebug = none := by kernel_rfl
theorem laidOut : laidOutB Try.prog = true := by kernel_rfl

set_option maxRecDepth 100000 in
set_option maxHeartbeats 8000000 in
theorem walk (a0 a1 : Value) (w : World) (h0 : ∃ x, Lc.sl (fun _ => True) w x a0) (h1 : ∃ t, Lt.at (fun _ => True) w t a1) :
    Calls Try.prog 14 #[a0, a1] w fun e w' => e = .returned (.bool true) ∧ Below w.heap.size w w' := by
  obtain ⟨cs, h0⟩ := h0
  obtain ⟨t1, h1⟩ := h1
  have Z0 := Lib.hid (fun (l : Nat) (hl : l ≤ 1048576) w' (e' : Ext w w') => lawszClauseS cs _ l _ w' hl (Lc.sl_ext e' h0))
  have Z1 := Lib.hid (fun (l : Nat) (hl : l ≤ 1048576) w' (e' : Ext w w') => lawszTerm_any t1 a1 l _ w' hl (Lt.at_ext e' h1))
  have T0 := Lib.hid (fun (hl : cs.length + Cl.wtL cs ≤ 1048576) w' (e' : Ext w w') => toClauseSO cs _ _ w' hl (Lc.sl_ext e' h0))
  have T1 := Lib.hid (fun (hl : Tm.wt t1 ≤ 1048576) w' (e' : Ext w w') => toTermO_any t1 a1 _ w' hl (Lt.at_ext e' h1))
  obtain ⟨x0, y0, rfl, _⟩ := h0
  obtain ⟨_, sv1, rfl, x1, y1, rfl, _⟩ := Lt.at_iff.1 h1
  clear h1
  by_cases l0 : cs.length + Cl.wtL cs ≤ 1048576
  · have Y0 := Lib.hid (leftF_yes l0)
    by_cases l1 : Tm.wt t1 ≤ 1048576 - (cs.length + Cl.wtL cs)
    · have Y1 := Lib.hid (leftF_yes l1)
      have t0' := T0.out l0
      have T0 := Lib.hid t0'
      clear t0'
      have t1' := T1.out (by omega)
      have T1 := Lib.hid t1'
      clear t1'
      have hk1 := kids_wt t1
      have hn1 := ndL_wt cs
      have HWL : Hid (cs.length + Cl.wtL cs ≤ 1048576) := Lib.hid l0
      have HN1 : Hid (t1.name.size ≤ 1048576) := Lib.hid (by have := name_wt t1; omega)
      have hl1 : t1.kids.length ≤ 1048576 := by omega
      have HM0 : Hid (1 + 3 * Cl.ndL cs < 9000000) := Lib.hid (by omega)
      have HM1 : Hid (1 + 3 * Cl.ndL cs + 3 * Tm.szL t1.kids < 9000000) := Lib.hid (by omega)
      clear hk1 hn1
      go_enter Try.func14, Try.ntmps14
      go_wp2_with fail
      refine (Z0.out 1048576 (Nat.le_refl _) _ (Ext.alloc _ _)).mono ?_
      rw [Y0.out]
      rintro e w1 ⟨rfl, q⟩
      have A := Lib.hid ((BoxT.new w (.int .i64 t1.kind) (.int .i64 t1.n) (.string t1.name) (.slice x1 t1.kids.length y1) 39 rfl).ext q)
      have B := Lib.hid ((Ext.alloc _ _).trans q)
      have z1 : w.heap.size + 1 ≤ w1.heap.size := by have := Below.size q; simpa using this
      clear q
      obtain ⟨ka0, ka1, ka2, ka3, _, _, _, _⟩ := A.out
      go_wp2_with fail
      refine (Z1.out (1048576 - (cs.length + Cl.wtL cs)) (by omega) _ B.out).mono ?_
      rw [Y1.out]
      rintro e w2 ⟨rfl, q⟩
      clear ka0 ka1 ka2 ka3
      have z2 : w1.heap.size ≤ w2.heap.size := Below.size q
      have A := Lib.hid (A.out.ext q)
      have B := Lib.hid (B.out.trans q)
      clear q
      clear Z0 Z1 Y0 Y1
      obtain ⟨ka0, ka1, ka2, ka3, _, _, _, _⟩ := A.out
      go_wp2_with fail
      go_region_held3 (fun w' => Ext w2 w' ∧ w'.cell? ⟨w.heap.size, 0, none⟩ = some (.int .i64 t1.kind) ∧ w'.cell? ⟨w.heap.size, 1, none⟩ = some (.int .i64 t1.n) ∧ w'.cell? ⟨w.heap.size, 2, none⟩ = some (.string t1.name) ∧ w'.cell? ⟨w.heap.size, 3, none⟩ = some (.slice x1 t1.kids.length y1))
        ((refine ⟨?_, ?_, ?_, ?_, ?_⟩ <;> first | with_reducible assumption | with_reducible exact Ext.drew _ | exact Ext.drew _ | (with_reducible (apply Ext.cell; assumption; assumption)) | (with_reducible (apply Ext.trans'; assumption; assumption)) | (with_reducible (apply Ext.cell; apply Ext.trans'; assumption; assumption; assumption)) | (with_reducible (apply Ext.trans'; assumption; apply Ext.trans'; assumption; assumption)) | (with_reducible (apply Ext.cell; apply Ext.trans'; assumption; apply Ext.trans'; assumption; assumption; assumption)) | assumption))
        (first
          | (go_at_call 39; refine (T0.out _ ?_).mono ?_; (exact B.out.trans (And.left (by assumption))); rintro e wa ⟨aa, rfl, oa, ea⟩; try replace ea := Ext.undrew ea)
          | (go_at_call 44; refine (T1.out _ ?_).mono ?_; (exact B.out.trans (And.left (by assumption))); rintro e wb ⟨ab, cb, rfl, ob, eb⟩; try replace eb := Ext.undrew eb)
          | (go_at_call 55; refine (specClausesFor cs t1 _ _ _ _ _ (Cl.sl_ext eb (OwnC.sl oa HWL.out)) (own_flat _ _ _ ob)).mono ?_; rintro e ws ⟨vV, rfl, r, ec⟩; try replace ec := Ext.undrew ec))
      obtain ⟨aV, cV, rfl⟩ := r.form
      have q := (ea.trans eb).trans ec
      have sa := Below.size ea
      have sb := Below.size eb
      have V := Lib.hid ((r.bound).zone (Z' := fun b => w2.heap.size ≤ b ∧ b < ws.heap.size) (fun b hb => ⟨by have := hb.1; (try simp at this); omega, hb.2⟩))
      clear r ea eb ec oa ob sa sb
      clear ka0 ka1 ka2 ka3
      have zs : w2.heap.size ≤ ws.heap.size := Below.size q
      have A := Lib.hid (A.out.ext q)
      have B := Lib.hid (B.out.trans q)
      clear q
      go_wp2_with fail
      refine (T0.out _ B.out).mono ?_
      rintro e w3 ⟨aP, rfl, o, q⟩
      have z3 : ws.heap.size ≤ w3.heap.size := Below.size q
      have A := Lib.hid (A.out.ext q)
      have B := Lib.hid (B.out.trans q)
      have V := Lib.hid (IntI.ext V.out q)
      clear q
      have P := Lib.hid o
      clear o
      obtain ⟨ka0, ka1, ka2, ka3, _, _, _, _⟩ := A.out
      go_wp2_with fail
      refine (T1.out _ B.out).mono ?_
      rintro e w4 ⟨aX, cX, rfl, o, q⟩
      clear ka0 ka1 ka2 ka3
      have z4 : w3.heap.size ≤ w4.heap.size := Below.size q
      have P := Lib.hid (OwnC.mono (M := fun _ => False) P.out (Fr.of_ext q) (fun _ h => h.elim))
      have A := Lib.hid (A.out.ext q)
      have B := Lib.hid (B.out.trans q)
      have V := Lib.hid (IntI.ext V.out q)
      clear q
      have K := Lib.hid (((own_kids o).bound).zone (F' := fun b => w3.heap.size ≤ b ∧ b < w4.heap.size) (fun b hb => ⟨by simpa using hb.1, hb.2⟩))
      clear o
      go_wp2_with fail
      refine (implClausesFor cs t1 _ _ _ _ _ (OwnC.sl (OwnC.mono (M := fun _ => False) P.out (Fr.of_ext (Ext.alloc _ _)) (fun _ h => h.elim)) HWL.out) (own_at (OwnS.ext K.out (Ext.alloc _ _)) HN1.out hl1)).mono ?_
      rintro e w5 ⟨vG, rfl, r, q⟩
      have X := Lib.hid ((BoxT.new w4 (.int .i64 t1.kind) (.int .i64 t1.n) (.string t1.name) (.slice aX t1.kids.length cX) 25 rfl).ext q)
      replace q := (Ext.alloc _ _).trans q
      have z5 : w4.heap.size + 1 ≤ w5.heap.size := by have := Below.size q; have := block_lt_of_cell X.out.1; simp only at this; omega
      have P := Lib.hid (OwnC.mono (M := fun _ => False) P.out (Fr.of_ext q) (fun _ h => h.elim))
      have A := Lib.hid (A.out.ext q)
      have B := Lib.hid (B.out.trans q)
      have V := Lib.hid (IntI.ext V.out q)
      have K := Lib.hid (OwnS.ext K.out q)
      clear q
      obtain ⟨aG, cG, rfl⟩ := r.form
      have G := Lib.hid ((r.bound).zone (Z' := fun b => w4.heap.size + 1 ≤ b ∧ b < w5.heap.size) (fun b hb => ⟨by simpa using hb.1, hb.2⟩))
      clear r
      go_wp2_with fail
      refine (lawseqIntS _ _ _ _ _ (IntI.ints G.out) (IntI.ints V.out)).mono ?_
      rw [eqI_refl]
      rintro e w6 ⟨rfl, q⟩
      have z6 : w5.heap.size ≤ w6.heap.size := Below.size q
      have P := Lib.hid (OwnC.mono (M := fun _ => False) P.out (Fr.of_ext q) (fun _ h => h.elim))
      have A := Lib.hid (A.out.ext q)
      have B := Lib.hid (B.out.trans q)
      have V := Lib.hid (IntI.ext V.out q)
      have K := Lib.hid (OwnS.ext K.out q)
      have X := Lib.hid (X.out.ext q)
      have G := Lib.hid (IntI.ext G.out q)
      clear q
      go_wp2_with fail
      refine (T0.out _ B.out).mono ?_
      rintro e w7 ⟨aC, rfl, o, q⟩
      have z7 : w6.heap.size ≤ w7.heap.size := Below.size q
      have P := Lib.hid (OwnC.mono (M := fun _ => False) P.out (Fr.of_ext q) (fun _ h => h.elim))
      have A := Lib.hid (A.out.ext q)
      have B := Lib.hid (B.out.trans q)
      have V := Lib.hid (IntI.ext V.out q)
      have K := Lib.hid (OwnS.ext K.out q)
      have X := Lib.hid (X.out.ext q)
      have G := Lib.hid (IntI.ext G.out q)
      clear q
      have C := Lib.hid o
      clear o
      go_wp2_with fail
      refine (lawseqClauseS cs cs _ _ _ _ _ rfl (OwnC.sl P.out HWL.out) (OwnC.sl C.out HWL.out)).mono ?_
      rintro e w8 ⟨rfl, q⟩
      have z8 : w7.heap.size ≤ w8.heap.size := Below.size q
      have P := Lib.hid (OwnC.mono (M := fun _ => False) P.out (Fr.of_ext q) (fun _ h => h.elim))
      have C := Lib.hid (OwnC.mono (M := fun _ => False) C.out (Fr.of_ext q) (fun _ h => h.elim))
      have A := Lib.hid (A.out.ext q)
      have B := Lib.hid (B.out.trans q)
      have V := Lib.hid (IntI.ext V.out q)
      have K := Lib.hid (OwnS.ext K.out q)
      have X := Lib.hid (X.out.ext q)
      have G := Lib.hid (IntI.ext G.out q)
      clear q
      clear C
      obtain ⟨ka0, ka1, ka2, ka3, _, _, _, _⟩ := A.out
      obtain ⟨kx0, kx1, kx2, kx3, _, _, _, _⟩ := X.out
      go_wp2_with fail
      go_region_held3 (fun w' => Ext w8 w' ∧ w'.cell? ⟨w.heap.size, 0, none⟩ = some (.int .i64 t1.kind) ∧ w'.cell? ⟨w.heap.size, 1, none⟩ = some (.int .i64 t1.n) ∧ w'.cell? ⟨w.heap.size, 2, none⟩ = some (.string t1.name) ∧ w'.cell? ⟨w.heap.size, 3, none⟩ = some (.slice x1 t1.kids.length y1) ∧
          w'.cell? ⟨w4.heap.size, 0, none⟩ = some (.int .i64 t1.kind) ∧ w'.cell? ⟨w4.heap.size, 1, none⟩ = some (.int .i64 t1.n) ∧ w'.cell? ⟨w4.heap.size, 2, none⟩ = some (.string t1.name) ∧ w'.cell? ⟨w4.heap.size, 3, none⟩ = some (.slice aX t1.kids.length cX))
        ((refine ⟨?_, ?_, ?_, ?_, ?_, ?_, ?_, ?_, ?_⟩ <;> first | with_reducible assumption | with_reducible exact Ext.drew _ | exact Ext.drew _ | (with_reducible (apply Ext.cell; assumption; assumption)) | (with_reducible (apply Ext.trans'; assumption; assumption)) | (with_reducible (apply Ext.cell; apply Ext.trans'; assumption; assumption; assumption)) | (with_reducible (apply Ext.trans'; assumption; apply Ext.trans'; assumption; assumption)) | (with_reducible (apply Ext.cell; apply Ext.trans'; assumption; apply Ext.trans'; assumption; assumption; assumption)) | assumption))
        (first
          | (go_at_call 44; refine (T1.out _ ?_).mono ?_; (exact B.out.trans (And.left (by assumption))); rintro e wt ⟨at1, ct1, rfl, ot1, et1⟩; try replace et1 := Ext.undrew et1)
          | (go_at_call 46; refine (lawseqTerm_any t1 t1 _ _ _ _ _ (Tm.at_ext et1 (own_at K.out HN1.out hl1)) (own_flat _ _ _ ot1)).mono ?_; rw [same_refl]; rintro e wu ⟨rfl, et2⟩; try replace et2 := Ext.undrew et2))
      have q := et1.trans et2
      clear ot1 et1 et2
      clear ka0 ka1 ka2 ka3
      clear kx0 kx1 kx2 kx3
      have zu : w8.heap.size ≤ wu.heap.size := Below.size q
      have P := Lib.hid (OwnC.mono (M := fun _ => False) P.out (Fr.of_ext q) (fun _ h => h.elim))
      have A := Lib.hid (A.out.ext q)
      have B := Lib.hid (B.out.trans q)
      have V := Lib.hid (IntI.ext V.out q)
      have K := Lib.hid (OwnS.ext K.out q)
      have X := Lib.hid (X.out.ext q)
      have G := Lib.hid (IntI.ext G.out q)
      clear q
      go_wp2_with fail
      refine (lawsmarkClauseS cs _ _ 1 _ _ HM0.out P.out).mono ?_
      rintro e w9 ⟨rfl, q⟩
      have z9 : wu.heap.size ≤ w9.heap.size := q.size
      have A := Lib.hid (A.out.fr q (fun h => by omega))
      have B := Lib.hid (((Fr.of_ext B.out).trans q).toExt (fun k hk h => by omega))
      have V := Lib.hid (IntI.keep V.out q (fun k _ h hz => by omega))
      have K := Lib.hid (OwnS.mono K.out (fun _ h => h) q (fun b hb h => by omega))
      have X := Lib.hid (X.out.fr q (fun h => by omega))
      have G := Lib.hid (IntI.keep G.out q (fun k _ h hz => by omega))
      clear q
      clear P
      obtain ⟨kx0, kx1, kx2, kx3, _, _, _, _⟩ := X.out
      go_wp2_with fail
      refine (lawsmarkTerm t1 _ _ _ _ (1 + 3 * Cl.ndL cs) HM1.out K.out).mono ?_
      rintro e w10 ⟨rfl, _, q⟩
      clear kx0 kx1 kx2 kx3
      have z10 : w9.heap.size ≤ w10.heap.size := q.size
      have A := Lib.hid (A.out.fr q (fun h => by omega))
      have B := Lib.hid (((Fr.of_ext B.out).trans q).toExt (fun k hk h => by omega))
      have V := Lib.hid (IntI.keep V.out q (fun k _ h hz => by omega))
      have X := Lib.hid (X.out.fr q (fun h => by omega))
      have G := Lib.hid (IntI.keep G.out q (fun k _ h hz => by omega))
      clear q
      clear K X
      go_wp2_with fail
      refine (lawseqIntS _ _ _ _ _ (IntI.ints G.out) (IntI.ints V.out)).mono ?_
      rw [eqI_refl]
      rintro e w11 ⟨rfl, q⟩
      have z11 : w10.heap.size ≤ w11.heap.size := Below.size q
      have A := Lib.hid (A.out.ext q)
      have B := Lib.hid (B.out.trans q)
      have V := Lib.hid (IntI.ext V.out q)
      have G := Lib.hid (IntI.ext G.out q)
      clear q
      have HMI : Hid (1 + (cforF cs t1).length < 9000000) := Lib.hid (by have := G.out.2.2; omega)
      go_wp2_with fail
      refine (lawsmarkIntS _ _ _ _ 1 HMI.out G.out).mono ?_
      rintro e w12 ⟨rfl, m, q⟩
      have z12 : w11.heap.size ≤ w12.heap.size := q.size
      have A := Lib.hid (A.out.fr q (fun h => by omega))
      have B := Lib.hid (((Fr.of_ext B.out).trans q).toExt (fun k hk h => by omega))
      have V := Lib.hid (IntI.keep V.out q (fun k _ h hz => by omega))
      clear q
      have G := Lib.hid m
      clear m
      go_wp2_with fail
      refine (lawsheldIntS _ _ _ 1 HMI.out (IntI.ints G.out)).mono ?_
      rintro e w13 ⟨rfl, q⟩
      have z13 : w12.heap.size ≤ w13.heap.size := Below.size q
      have A := Lib.hid (A.out.ext q)
      have B := Lib.hid (B.out.trans q)
      have V := Lib.hid (IntI.ext V.out q)
      have G := Lib.hid (IntI.ext G.out q)
      clear q
      obtain ⟨ka0, ka1, ka2, ka3, _, _, _, _⟩ := A.out
      go_wp2_with fail
      go_region_held3 (fun w' => Ext w13 w' ∧ w'.cell? ⟨w.heap.size, 0, none⟩ = some (.int .i64 t1.kind) ∧ w'.cell? ⟨w.heap.size, 1, none⟩ = some (.int .i64 t1.n) ∧ w'.cell? ⟨w.heap.size, 2, none⟩ = some (.string t1.name) ∧ w'.cell? ⟨w.heap.size, 3, none⟩ = some (.slice x1 t1.kids.length y1))
        ((refine ⟨?_, ?_, ?_, ?_, ?_⟩ <;> first | with_reducible assumption | with_reducible exact Ext.drew _ | exact Ext.drew _ | (with_reducible (apply Ext.cell; assumption; assumption)) | (with_reducible (apply Ext.trans'; assumption; assumption)) | (with_reducible (apply Ext.cell; apply Ext.trans'; assumption; assumption; assumption)) | (with_reducible (apply Ext.trans'; assumption; apply Ext.trans'; assumption; assumption)) | (with_reducible (apply Ext.cell; apply Ext.trans'; assumption; apply Ext.trans'; assumption; assumption; assumption)) | assumption))
        (first
          | (go_at_call 39; refine (T0.out _ ?_).mono ?_; (exact B.out.trans (And.left (by assumption))); rintro e wa ⟨aa, rfl, oa, ea⟩; try replace ea := Ext.undrew ea)
          | (go_at_call 44; refine (T1.out _ ?_).mono ?_; (exact B.out.trans (And.left (by assumption))); rintro e wb ⟨ab, cb, rfl, ob, eb⟩; try replace eb := Ext.undrew eb)
          | (go_at_call 56; refine (implClausesFor cs t1 _ _ _ _ _ (Cl.sl_ext eb (OwnC.sl oa HWL.out)) (own_flat _ _ _ ob)).mono ?_; rintro e wx ⟨vH, rfl, r, ec⟩; try replace ec := Ext.undrew ec))
      obtain ⟨aH, cH, rfl⟩ := r.form
      have q := (ea.trans eb).trans ec
      have sa := Below.size ea
      have sb := Below.size eb
      have H := Lib.hid ((r.bound).zone (Z' := fun b => w13.heap.size ≤ b ∧ b < wx.heap.size) (fun b hb => ⟨by have := hb.1; (try simp at this); omega, hb.2⟩))
      clear r ea eb ec oa ob sa sb
      clear ka0 ka1 ka2 ka3
      have zx : w13.heap.size ≤ wx.heap.size := Below.size q
      have A := Lib.hid (A.out.ext q)
      have B := Lib.hid (B.out.trans q)
      have V := Lib.hid (IntI.ext V.out q)
      have G := Lib.hid (IntI.ext G.out q)
      clear q
      go_wp2_with fail
      refine (lawseqIntS _ _ _ _ _ (IntI.ints H.out) (IntI.ints V.out)).mono ?_
      rw [eqI_refl]
      rintro e w14 ⟨rfl, q⟩
      have z14 : wx.heap.size ≤ w14.heap.size := Below.size q
      have A := Lib.hid (A.out.ext q)
      have B := Lib.hid (B.out.trans q)
      have V := Lib.hid (IntI.ext V.out q)
      have G := Lib.hid (IntI.ext G.out q)
      have H := Lib.hid (IntI.ext H.out q)
      clear q
      go_wp2_with fail
      refine (lawsheldIntS _ _ _ 1 HMI.out (IntI.ints G.out)).mono ?_
      rintro e w15 ⟨rfl, q⟩
      have z15 : w14.heap.size ≤ w15.heap.size := Below.size q
      have A := Lib.hid (A.out.ext q)
      have B := Lib.hid (B.out.trans q)
      have V := Lib.hid (IntI.ext V.out q)
      have G := Lib.hid (IntI.ext G.out q)
      have H := Lib.hid (IntI.ext H.out q)
      clear q
      go_wp2_with fail
      go_ret
      exact ⟨rfl, B.out⟩
    · have Y1 := Lib.hid (leftF_no l1)
      go_enter Try.func14, Try.ntmps14
      go_wp2_with fail
      refine (Z0.out 1048576 (Nat.le_refl _) _ (Ext.alloc _ _)).mono ?_
      rw [Y0.out]
      rintro e w1 ⟨rfl, q⟩
      have A := Lib.hid ((BoxT.new w (.int .i64 t1.kind) (.int .i64 t1.n) (.string t1.name) (.slice x1 t1.kids.length y1) 39 rfl).ext q)
      have B := Lib.hid ((Ext.alloc _ _).trans q)
      have z1 : w.heap.size + 1 ≤ w1.heap.size := by have := Below.size q; simpa using this
      clear q
      obtain ⟨ka0, ka1, ka2, ka3, _, _, _, _⟩ := A.out
      go_wp2_with fail
      refine (Z1.out (1048576 - (cs.length + Cl.wtL cs)) (by omega) _ B.out).mono ?_
      rw [Y1.out]
      rintro e w2 ⟨rfl, q⟩
      clear ka0 ka1 ka2 ka3
      have z2 : w1.heap.size ≤ w2.heap.size := Below.size q
      have A := Lib.hid (A.out.ext q)
      have B := Lib.hid (B.out.trans q)
      clear q
      go_wp2_with fail
      go_ret
      exact ⟨rfl, B.out⟩
  · have Y0 := Lib.hid (leftF_no l0)
    go_enter Try.func14, Try.ntmps14
    go_wp2_with fail
    refine (Z0.out 1048576 (Nat.le_refl _) _ (Ext.alloc _ _)).mono ?_
    rw [Y0.out]
    rintro e w1 ⟨rfl, q⟩
    have A := Lib.hid ((BoxT.new w (.int .i64 t1.kind) (.int .i64 t1.n) (.string t1.name) (.slice x1 t1.kids.length y1) 39 rfl).ext q)
    have B := Lib.hid ((Ext.alloc _ _).trans q)
    have z1 : w.heap.size + 1 ≤ w1.heap.size := by have := Below.size q; simpa using this
    clear q
    go_wp2_with fail
    go_ret
    exact ⟨rfl, B.out⟩

set_option maxRecDepth 100000 in
theorem lifted (os : Os) (started : os.Started) (H : Type) (enc : TypeId × Value → H) :
    ReturnsInHanded {} Try.checked os 14 .any (Rows.fnExactClausesForSpec.pre6 enc Try.prog Try.f14 Rows.fnExactClausesForRow.domain false) (Rows.fnExactClausesForSpec.post enc Try.prog Try.f14 false true false false) := by
  refine returnsInHanded_of_change (C := Try.checked) own started (by kernel_rfl) Try.func14
    (ChangeSpec.witness6 (enc := enc) (C := Try.checked) false ⟨#[], #[.slice none 0 0, .agg #[.int .i64 0, .int .i64 0, .string ByteArray.empty, .slice none 0 0]], []⟩ 8 (by kernel_rfl) (by kernel_rfl) (by kernel_rfl) (by kernel_rfl)) ?_
  intro W base args ds gs before hval0 hW hcnd _
  have hval : ∀ (j : Nat) t v, Try.f14.params[j]? = some t → args[j]? = some v → Value.okWide Try.prog W .any base t v := hval0
  have hW' := hW
  obtain ⟨p, q, hA0, hV, rfl, hfz, hnd⟩ := hW
  have hA : DataW.TrodAll enc Try.prog W 0 (fun _ => true) true Try.f14.params.toList args.toList ds p := hA0
  rw [Try.params14] at hA hval
  obtain ⟨v0, vs0, d0, ds0, p0, q0, hargs, rfl, rfl, h0, r0⟩ := trodAll_cons hA
  obtain ⟨v1, vs1, d1, ds1, p1, q1, rfl, rfl, rfl, h1, r1⟩ := trodAll_cons r0
  obtain ⟨rfl, rfl, rfl⟩ := trodAll_nil r1
  obtain rfl : args = #[v0, v1] := by cases args; simp_all
  obtain ⟨rfl, rfl⟩ := trodVars_none hV
  have k0 := h0
  have lt0 : ∀ x ∈ p0, x.block < W.heap.size := by obtain ⟨m, hm⟩ := k0; exact DataW.trod_lt m _ _ _ hm
  have w0 := lclauses_arg (hval 0 56 v0 rfl rfl) h0
  have k1 := h1
  have lt1 : ∀ x ∈ p1, x.block < W.heap.size := by obtain ⟨m, hm⟩ := k1; exact DataW.trod_lt m _ _ _ hm
  have w1 := lterm_of_trod (hval 1 39 v1 rfl rfl) h1
  clear hA0 hval0 hval
  refine (walk _ _ W w0 w1).mono fun e W' ⟨he, bel⟩ => ?_
  subst he
  exact ⟨_, rfl, _, _, _, [], _, [], hW', trodAll_mk1 (shut_bool Try.underlying4 _), (trodAll_cons_mk (Below.trod laidOut (by kernel_rfl) (of_decide_eq_true (by kernel_rfl)) k0 bel lt0) (trodAll_cons_mk (Below.trod laidOut (by kernel_rfl) (of_decide_eq_true (by kernel_rfl)) k1 bel lt1) trodAll_mk0)), rfl, bel.frame _, fun h => by cases h⟩

set_option maxRecDepth 100000 in
theorem over : Rows.fnExactClausesForRow.holds Try.pinned (OpenSpec.ofChange Rows.fnExactClausesForSpec) :=
  OpenClaim.holds_of_wide 14 Try.f14 rfl rfl rfl rfl rfl rfl rfl ⟨rfl, rfl, rfl, rfl, rfl⟩ rfl rfl rfl rfl rfl (by kernel_rfl) Try.func14 (by kernel_rfl)
    (of_decide_eq_true (by kernel_rfl)) (by unfold Func.isWrapper; first | (rw [if_pos (by decide +kernel)]; kernel_rfl) | (rw [if_neg (by decide +kernel)]; exact ⟨rfl, rfl⟩))
    (fun os started H enc _ => lifted os started H enc)

/-- the statement -/
theorem proved : Rows.FnExactClausesForSaid := over
end Go.Proofs.Ytagaciadcgijoaa.fnExactClausesFor
