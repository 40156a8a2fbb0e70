/-
  For every two terms (of any size) FnExactUnifyTerms returns true: the program's UnifyTerms and the reference's return the same bindings, in memory of their own, and leave the terms as they were.
-/
import Derived.Test.YtdelhgodhkbjdaaRows
import Derived.Deep.RegionHeld3
import Derived.ProofKit
import Derived.OpenShut
import Derived.ShutString
import Derived.Test.YtdelhgodhkbjdaaMu45
import Derived.Test.YtdelhgodhkbjdaaMu39
import Derived.Test.YtdelhgodhkbjdaaMu49
import Derived.Test.YtdelhgodhkbjdaaMu42
import Derived.Test.YtdelhgodhkbjdaaMu43
namespace Go.Proofs.Ytdelhgodhkbjdaa.fnExactUnifyTerms
open Go.ChangeShapes Go.WideShapes Go.ChangeAt Go.RowKit
open Go.ChangeMaps (open_string shut_string)
set_option linter.unusedVariables false

theorem own : ownKnob Try.prog.godebug = none := by kernel_rfl
theorem laidOut : laidOutB Try.prog = true := by kernel_rfl

set_option maxRecDepth 100000 in
set_option maxHeartbeats 16000000 in
theorem walk (a0 a1 : Value) (w : World) (h0 : ∃ t, Lt.at (fun _ => True) w t a0) (h1 : ∃ t, Lt.at (fun _ => True) w t a1) :
    Calls Try.prog 8 #[a0, a1] w fun e w' => e = .returned (.bool true) ∧ Below w.heap.size w w' := by
  obtain ⟨t0, h0⟩ := h0
  obtain ⟨t1, h1⟩ := h1
  have Z0 := Lib.hid (fun (l : Nat) (hl : l ≤ 1048576) w' (e' : Ext w w') => lawszTerm_any t0 a0 l _ w' hl (Lt.at_ext e' h0))
  have Z1 := Lib.hid (fun (l : Nat) (hl : l ≤ 1048576) w' (e' : Ext w w') => lawszTerm_any t1 a1 l _ w' hl (Lt.at_ext e' h1))
  have T0 := Lib.hid (fun (hl : Tm.wt t0 ≤ 1048576) w' (e' : Ext w w') => toTermO_any t0 a0 _ w' hl (Lt.at_ext e' h0))
  have T1 := Lib.hid (fun (hl : Tm.wt t1 ≤ 1048576) w' (e' : Ext w w') => toTermO_any t1 a1 _ w' hl (Lt.at_ext e' h1))
  obtain ⟨_, sv0, rfl, x0, y0, rfl, _⟩ := Lt.at_iff.1 h0
  obtain ⟨_, sv1, rfl, x1, y1, rfl, _⟩ := Lt.at_iff.1 h1
  clear h0 h1
  by_cases l0 : Tm.wt t0 ≤ 1048576
  · have Y0 := Lib.hid (leftF_yes l0)
    by_cases l1 : Tm.wt t1 ≤ 1048576 - Tm.wt t0
    · have Y1 := Lib.hid (leftF_yes l1)
      have t0' := T0.out l0
      have T0 := Lib.hid t0'
      clear t0'
      have t1' := T1.out (by omega)
      have T1 := Lib.hid t1'
      clear t1'
      have hk0 := kids_wt t0
      have hk1 := kids_wt t1
      have HN0 : Hid (t0.name.size ≤ 1048576) := Lib.hid (by have := name_wt t0; omega)
      have HN1 : Hid (t1.name.size ≤ 1048576) := Lib.hid (by have := name_wt t1; omega)
      have hl0 : t0.kids.length ≤ 1048576 := by omega
      have hl1 : t1.kids.length ≤ 1048576 := by omega
      have HM0 : Hid (1 + 3 * Tm.szL t0.kids < 9000000) := Lib.hid (by omega)
      have HM1 : Hid (1 + 3 * Tm.szL t0.kids + 3 * Tm.szL t1.kids < 9000000) := Lib.hid (by omega)
      have hbz := ut_sz t0 t1
      clear hk0 hk1
      obtain ⟨bs, hbs⟩ : ∃ r, utR t0 t1 = r := ⟨_, rfl⟩
      obtain ⟨yy, hyy⟩ : ∃ b, utB t0 t1 = b := ⟨_, rfl⟩
      rw [hbs] at hbz
      have HM : Hid (1 + szB bs < 9000000) := Lib.hid (by omega)
      have HRL : Hid (bs.length ≤ 1048576) := Lib.hid (by omega)
      have SPEC := Lib.hid (fun v v' S w' (h1 : Tm.at S w' t0 v) (h2 : Tm.at S w' t1 v') => (by have h := specUnifyTerms t0 t1 v v' S w' h1 h2; rw [hbs, hyy] at h; exact h : Calls Try.prog 27 #[v, v'] w' (BdBO bs (.bool yy) w')))
      have IMPL := Lib.hid (fun v v' S w' (h1 : Tm.at S w' t0 v) (h2 : Tm.at S w' t1 v') => (by have h := implUnifyTerms t0 t1 v v' S w' h1 h2; rw [hbs, hyy] at h; exact h : Calls Try.prog 26 #[v, v'] w' (BdBO bs (.bool yy) w')))
      have hyn : (yy != yy) = false := by simp
      clear hbs hyy hbz
      go_enter Try.func8, Try.ntmps8
      go_wp2_with fail
      refine (Z0.out 1048576 (Nat.le_refl _) _ ((Ext.alloc _ _).trans (Ext.alloc _ _))).mono ?_
      rw [Y0.out]
      rintro e w1 ⟨rfl, q⟩
      have A := Lib.hid (show BoxT w1 w.heap.size (.int .i64 t0.kind) (.int .i64 t0.n) (.string t0.name) (.slice x0 t0.kids.length y0) from BoxT.ext (by refine ⟨?_, ?_, ?_, ?_, ?_, ?_, ?_, ?_⟩ <;> go_simp) q)
      have C := Lib.hid (show BoxT w1 (w.heap.size + 1) (.int .i64 t1.kind) (.int .i64 t1.n) (.string t1.name) (.slice x1 t1.kids.length y1) from BoxT.ext (by refine ⟨?_, ?_, ?_, ?_, ?_, ?_, ?_, ?_⟩ <;> go_simp) q)
      have B := Lib.hid (((Ext.alloc _ _).trans (Ext.alloc _ _)).trans q)
      have z1 : w.heap.size + 2 ≤ w1.heap.size := by have := Below.size q; simpa using this
      clear q
      obtain ⟨kc0, kc1, kc2, kc3, _, _, _, _⟩ := C.out
      go_wp2_with fail
      refine (Z1.out (1048576 - Tm.wt t0) (by omega) _ B.out).mono ?_
      rw [Y1.out]
      rintro e w2 ⟨rfl, q⟩
      clear kc0 kc1 kc2 kc3
      have z2 : w1.heap.size ≤ w2.heap.size := Below.size q
      have A := Lib.hid (A.out.ext q)
      have C := Lib.hid (C.out.ext q)
      have B := Lib.hid (B.out.trans q)
      clear q
      clear Z0 Z1 Y0 Y1
      obtain ⟨ka0, ka1, ka2, ka3, _, _, _, _⟩ := A.out
      obtain ⟨kc0, kc1, kc2, kc3, _, _, _, _⟩ := C.out
      have hbx := A.out.lt
      have hcx := C.out.lt
      go_wp2_with fail
      refine wp_region_reliesQ (by kernel_rfl) (by kernel_rfl) (by kernel_rfl) (fun _ _ w' => Ext w2 w') (BX2 t0 t1 x0 x1 y0 y1 bs (.bool yy) w2) (Ext.drew _) ?hsV ?heV
      case hsV =>
        intro Q0
        refine .cons ?h0 (.cons ?h1 (.cons ?h2 (.cons ?h3 (.cons ?h4 (.cons ?h5 (.cons ?h6 (.cons ?h7 (.cons ?h8 (.cons ?h9 .nil)))))))))
        case h0 =>
          intro A D vs w5 old dep hnd hcl hlt hG K hK
          have s2 := old 2 (by kernel_rfl)
          simp only [List.getElem?_toArray, List.getElem?_cons_succ, List.getElem?_cons_zero] at s2
          have q0 := hG.cell ka0
          have q1 := hG.cell ka1
          have q2 := hG.cell ka2
          have q3 := hG.cell ka3
          go_simp
          exact hK _ _ hG (fun _ _ _ h => h) rfl
        case h1 =>
          intro A D vs w5 old dep hnd hcl hlt hG K hK
          obtain ⟨_, e0, j0⟩ := dep 0 (by kernel_rfl)
          replace j0 := j0 28 (by kernel_rfl) (by simp)
          replace e0 : vs 0 = val4 t0 x0 y0 := e0
          rw [e0] at j0
          unfold val4 at j0
          go_simp
          go_at_call 29
          refine (T0.out _ (B.out.trans hG)).mono ?_
          rintro e w6 ⟨a3, c3, rfl, ho, e6⟩
          exact hK _ _ (hG.trans e6) (fun j u hd h => BX2.ext h e6) ⟨a3, c3, rfl, own_zone ho (fun b hb => Nat.le_trans (Below.size hG) hb)⟩
        case h2 =>
          intro A D vs w5 old dep hnd hcl hlt hG K hK
          have s3 := old 3 (by kernel_rfl)
          simp only [List.getElem?_toArray, List.getElem?_cons_succ, List.getElem?_cons_zero] at s3
          have q0 := hG.cell kc0
          have q1 := hG.cell kc1
          have q2 := hG.cell kc2
          have q3 := hG.cell kc3
          go_simp
          exact hK _ _ hG (fun _ _ _ h => h) rfl
        case h3 =>
          intro A D vs w5 old dep hnd hcl hlt hG K hK
          obtain ⟨_, e2, j2⟩ := dep 2 (by kernel_rfl)
          replace j2 := j2 30 (by kernel_rfl) (by simp)
          replace e2 : vs 2 = val4 t1 x1 y1 := e2
          rw [e2] at j2
          unfold val4 at j2
          go_simp
          go_at_call 29
          refine (T1.out _ (B.out.trans hG)).mono ?_
          rintro e w6 ⟨a3, c3, rfl, ho, e6⟩
          exact hK _ _ (hG.trans e6) (fun j u hd h => BX2.ext h e6) ⟨a3, c3, rfl, own_zone ho (fun b hb => Nat.le_trans (Below.size hG) hb)⟩
        case h4 =>
          intro A D vs w5 old dep hnd hcl hlt hG K hK
          obtain ⟨_, e1, j1⟩ := dep 1 (by kernel_rfl)
          replace j1 := j1 29 (by kernel_rfl) (by simp)
          obtain ⟨_, e3, j3⟩ := dep 3 (by kernel_rfl)
          replace j3 := j3 31 (by kernel_rfl) (by simp)
          obtain ⟨a3, c3, e5, o3⟩ := e1
          obtain ⟨a4, c4, e4, o4⟩ := e3
          rw [e5] at j1
          rw [e4] at j3
          unfold val4 at j1 j3
          go_simp
          go_at_call 27
          refine (SPEC.out _ _ (fun _ => True) _ (Tm.at_mono (fun _ _ => trivial) (Agree.refl _) (own_flat _ _ _ o3)) (Tm.at_mono (fun _ _ => trivial) (Agree.refl _) (own_flat _ _ _ o4))).mono ?_
          rintro e w6 ⟨a5, c5, rfl, ho, e6⟩
          exact hK _ _ (hG.trans e6) (fun j u hd h => BX2.ext h e6) ⟨_, rfl, a5, c5, rfl, ho.zone (fun b hb => Nat.le_trans (Below.size hG) hb)⟩
        case h5 =>
          intro A D vs w5 old dep hnd hcl hlt hG K hK
          obtain ⟨_, e4, j4⟩ := dep 4 (by kernel_rfl)
          replace j4 := j4 32 (by kernel_rfl) (by simp)
          obtain ⟨u4, e4, h4⟩ := e4
          rw [e4] at j4
          go_simp
          exact hK _ _ hG (fun _ _ _ h => h) ⟨u4, rfl, h4⟩
        case h6 =>
          intro A D vs w5 old dep hnd hcl hlt hG K hK
          obtain ⟨_, e5, j5⟩ := dep 5 (by kernel_rfl)
          replace j5 := j5 27 (by kernel_rfl) (by simp)
          obtain ⟨u4, e4, h4⟩ := e5
          rw [e4] at j5
          go_simp
          exact hK _ _ hG (fun _ _ _ h => h) h4
        case h7 =>
          intro A D vs w5 old dep hnd hcl hlt hG K hK
          obtain ⟨_, e5, j5⟩ := dep 5 (by kernel_rfl)
          replace j5 := j5 27 (by kernel_rfl) (by simp)
          obtain ⟨u4, e4, h4⟩ := e5
          rw [e4] at j5
          go_simp
          exact hK _ _ hG (fun _ _ _ h => h) rfl
        case h8 =>
          intro A D vs w5 old dep hnd hcl hlt hG K hK
          obtain ⟨_, e6, j6⟩ := dep 6 (by kernel_rfl)
          replace j6 := j6 33 (by kernel_rfl) (by simp)
          go_simp
          exact hK _ _ hG (fun _ _ _ h => h) (show BX2 t0 t1 x0 x1 y0 y1 bs _ _ 8 _ _ from e6)
        case h9 =>
          intro A D vs w5 old dep hnd hcl hlt hG K hK
          obtain ⟨_, e7, j7⟩ := dep 7 (by kernel_rfl)
          replace j7 := j7 34 (by kernel_rfl) (by simp)
          replace e7 : vs 7 = .bool yy := e7
          rw [e7] at j7
          go_simp
          exact hK _ _ hG (fun _ _ _ h => h) rfl
      case heV =>
        intro D vs ws hD q hφ
        obtain ⟨aV, cV, hv8, ho9⟩ : BdW bs (vs 8) w2 ws := hφ 8 (by show 8 < 10; decide)
        have hv9 : vs 9 = .bool yy := hφ 9 (by show 9 < 10; decide)
        rw [hv8] at ho9
        have V := Lib.hid ((ho9.bound).zone (F' := fun b => w2.heap.size ≤ b ∧ b < ws.heap.size) (fun b hb => hb))
        clear ho9 hbx hcx hφ hD
        clear ka0 ka1 ka2 ka3
        clear kc0 kc1 kc2 kc3
        simp only [putO, Act.put, List.setIfInBounds_toArray, List.set_cons_zero, List.set_cons_succ]
        rw [hv8, hv9]
        clear hv8 hv9
        have zs : w2.heap.size ≤ ws.heap.size := Below.size q
        have A := Lib.hid (A.out.ext q)
        have C := Lib.hid (C.out.ext q)
        have B := Lib.hid (B.out.trans q)
        clear q
        obtain ⟨ka0, ka1, ka2, ka3, _, _, _, _⟩ := A.out
        go_wp2_with fail
        refine (T0.out _ B.out).mono ?_
        rintro e w3 ⟨aP, cP, rfl, o, q⟩
        clear ka0 ka1 ka2 ka3
        have z3 : ws.heap.size ≤ w3.heap.size := Below.size q
        have A := Lib.hid (A.out.ext q)
        have C := Lib.hid (C.out.ext q)
        have B := Lib.hid (B.out.trans q)
        have V := Lib.hid (OwnB.ext V.out q)
        clear q
        have P := Lib.hid (((own_kids o).bound).zone (F' := fun b => ws.heap.size ≤ b ∧ b < w3.heap.size) (fun b hb => ⟨by simpa using hb.1, hb.2⟩))
        clear o
        obtain ⟨kc0, kc1, kc2, kc3, _, _, _, _⟩ := C.out
        have lc := C.out.lt
        go_wp2_with fail
        refine (T1.out _ (B.out.trans (Ext.alloc _ _))).mono ?_
        rintro e w4 ⟨aK, cK, rfl, o, q⟩
        clear kc0 kc1 kc2 kc3
        clear lc
        have X := Lib.hid ((BoxT.new w3 (.int .i64 t0.kind) (.int .i64 t0.n) (.string t0.name) (.slice aP t0.kids.length cP) 25 rfl).ext q)
        replace q := (Ext.alloc _ _).trans q
        have z4 : w3.heap.size + 1 ≤ w4.heap.size := by have := Below.size q; have := block_lt_of_cell X.out.1; simp only at this; omega
        have A := Lib.hid (A.out.ext q)
        have C := Lib.hid (C.out.ext q)
        have B := Lib.hid (B.out.trans q)
        have P := Lib.hid (OwnS.ext P.out q)
        have V := Lib.hid (OwnB.ext V.out q)
        clear q
        have K := Lib.hid (((own_kids o).bound).zone (F' := fun b => w3.heap.size + 1 ≤ b ∧ b < w4.heap.size) (fun b hb => ⟨by simpa using hb.1, hb.2⟩))
        clear o
        obtain ⟨kx0, kx1, kx2, kx3, _, _, _, _⟩ := X.out
        have lx := X.out.lt
        go_wp2_with fail
        refine (IMPL.out _ _ (fun _ => True) _ (Tm.at_mono (fun _ _ => trivial) (Agree.refl _) (own_at (OwnS.ext P.out (Ext.alloc _ _)) HN0.out hl0)) (Tm.at_mono (fun _ _ => trivial) (Agree.refl _) (own_at (OwnS.ext K.out (Ext.alloc _ _)) HN1.out hl1))).mono ?_
        rintro e w5 ⟨aG, cG, rfl, ro, q⟩
        clear kx0 kx1 kx2 kx3
        clear lx
        have XK := Lib.hid ((BoxT.new w4 (.int .i64 t1.kind) (.int .i64 t1.n) (.string t1.name) (.slice aK t1.kids.length cK) 25 rfl).ext q)
        replace q := (Ext.alloc _ _).trans q
        have z5 : w4.heap.size + 1 ≤ w5.heap.size := by have := Below.size q; have := block_lt_of_cell XK.out.1; simp only at this; omega
        have A := Lib.hid (A.out.ext q)
        have C := Lib.hid (C.out.ext q)
        have B := Lib.hid (B.out.trans q)
        have P := Lib.hid (OwnS.ext P.out q)
        have X := Lib.hid (X.out.ext q)
        have K := Lib.hid (OwnS.ext K.out q)
        have V := Lib.hid (OwnB.ext V.out q)
        clear q
        have G := Lib.hid (ro.bound.zone (F' := fun b => w4.heap.size + 1 ≤ b ∧ b < w5.heap.size) (fun b hb => ⟨by simpa using hb.1, hb.2⟩))
        clear ro
        go_wp2_with fail
        refine (lawseqBindS bs _ _ _ _ _ (OwnB.sl G.out HRL.out) (OwnB.sl V.out HRL.out)).mono ?_
        rintro e w6 ⟨rfl, q⟩
        have z6 : w5.heap.size ≤ w6.heap.size := Below.size q
        have A := Lib.hid (A.out.ext q)
        have C := Lib.hid (C.out.ext q)
        have B := Lib.hid (B.out.trans q)
        have P := Lib.hid (OwnS.ext P.out q)
        have X := Lib.hid (X.out.ext q)
        have K := Lib.hid (OwnS.ext K.out q)
        have XK := Lib.hid (XK.out.ext q)
        have V := Lib.hid (OwnB.ext V.out q)
        have G := Lib.hid (OwnB.ext G.out q)
        clear q
        obtain ⟨ka0, ka1, ka2, ka3, _, _, _, _⟩ := A.out
        obtain ⟨kx0, kx1, kx2, kx3, _, _, _, _⟩ := X.out
        go_wp2_with fail
        go_region_held3 (fun w' => Ext w6 w' ∧ w'.cell? ⟨w.heap.size, 0, none⟩ = some (.int .i64 t0.kind) ∧ w'.cell? ⟨w.heap.size, 1, none⟩ = some (.int .i64 t0.n) ∧ w'.cell? ⟨w.heap.size, 2, none⟩ = some (.string t0.name) ∧ w'.cell? ⟨w.heap.size, 3, none⟩ = some (.slice x0 t0.kids.length y0) ∧
            w'.cell? ⟨w3.heap.size, 0, none⟩ = some (.int .i64 t0.kind) ∧ w'.cell? ⟨w3.heap.size, 1, none⟩ = some (.int .i64 t0.n) ∧ w'.cell? ⟨w3.heap.size, 2, none⟩ = some (.string t0.name) ∧ w'.cell? ⟨w3.heap.size, 3, none⟩ = some (.slice aP t0.kids.length cP))
          ((refine ⟨?_, ?_, ?_, ?_, ?_, ?_, ?_, ?_, ?_⟩ <;> first | with_reducible assumption | with_reducible exact Ext.drew _ | exact Ext.drew _ | (with_reducible (apply Ext.cell; assumption; assumption)) | (with_reducible (apply Ext.trans'; assumption; assumption)) | (with_reducible (apply Ext.cell; apply Ext.trans'; assumption; assumption; assumption)) | (with_reducible (apply Ext.trans'; assumption; apply Ext.trans'; assumption; assumption)) | (with_reducible (apply Ext.cell; apply Ext.trans'; assumption; apply Ext.trans'; assumption; assumption; assumption)) | assumption))
          (first
            | (go_at_call 29; refine (T0.out _ ?_).mono ?_; (exact B.out.trans (And.left (by assumption))); rintro e wt0 ⟨at1, ct1, rfl, ot1, et1⟩; try replace et1 := Ext.undrew et1)
            | (go_at_call 31; refine (lawseqTerm_any t0 t0 _ _ _ _ _ (Tm.at_ext et1 (own_at P.out HN0.out hl0)) (own_flat _ _ _ ot1)).mono ?_; rw [same_refl]; rintro e wu0 ⟨rfl, et2⟩; try replace et2 := Ext.undrew et2))
        have q := et1.trans et2
        clear ot1 et1 et2
        clear ka0 ka1 ka2 ka3
        clear kx0 kx1 kx2 kx3
        have zu0 : w6.heap.size ≤ wu0.heap.size := Below.size q
        have A := Lib.hid (A.out.ext q)
        have C := Lib.hid (C.out.ext q)
        have B := Lib.hid (B.out.trans q)
        have P := Lib.hid (OwnS.ext P.out q)
        have X := Lib.hid (X.out.ext q)
        have K := Lib.hid (OwnS.ext K.out q)
        have XK := Lib.hid (XK.out.ext q)
        have V := Lib.hid (OwnB.ext V.out q)
        have G := Lib.hid (OwnB.ext G.out q)
        clear q
        obtain ⟨kc0, kc1, kc2, kc3, _, _, _, _⟩ := C.out
        obtain ⟨kxk0, kxk1, kxk2, kxk3, _, _, _, _⟩ := XK.out
        go_wp2_with fail
        go_region_held3 (fun w' => Ext wu0 w' ∧ w'.cell? ⟨(w.heap.size + 1), 0, none⟩ = some (.int .i64 t1.kind) ∧ w'.cell? ⟨(w.heap.size + 1), 1, none⟩ = some (.int .i64 t1.n) ∧ w'.cell? ⟨(w.heap.size + 1), 2, none⟩ = some (.string t1.name) ∧ w'.cell? ⟨(w.heap.size + 1), 3, none⟩ = some (.slice x1 t1.kids.length y1) ∧
            w'.cell? ⟨w4.heap.size, 0, none⟩ = some (.int .i64 t1.kind) ∧ w'.cell? ⟨w4.heap.size, 1, none⟩ = some (.int .i64 t1.n) ∧ w'.cell? ⟨w4.heap.size, 2, none⟩ = some (.string t1.name) ∧ w'.cell? ⟨w4.heap.size, 3, none⟩ = some (.slice aK t1.kids.length cK))
          ((refine ⟨?_, ?_, ?_, ?_, ?_, ?_, ?_, ?_, ?_⟩ <;> first | with_reducible assumption | with_reducible exact Ext.drew _ | exact Ext.drew _ | (with_reducible (apply Ext.cell; assumption; assumption)) | (with_reducible (apply Ext.trans'; assumption; assumption)) | (with_reducible (apply Ext.cell; apply Ext.trans'; assumption; assumption; assumption)) | (with_reducible (apply Ext.trans'; assumption; apply Ext.trans'; assumption; assumption)) | (with_reducible (apply Ext.cell; apply Ext.trans'; assumption; apply Ext.trans'; assumption; assumption; assumption)) | assumption))
          (first
            | (go_at_call 29; refine (T1.out _ ?_).mono ?_; (exact B.out.trans (And.left (by assumption))); rintro e wt1 ⟨at1, ct1, rfl, ot1, et1⟩; try replace et1 := Ext.undrew et1)
            | (go_at_call 31; refine (lawseqTerm_any t1 t1 _ _ _ _ _ (Tm.at_ext et1 (own_at K.out HN1.out hl1)) (own_flat _ _ _ ot1)).mono ?_; rw [same_refl]; rintro e wu1 ⟨rfl, et2⟩; try replace et2 := Ext.undrew et2))
        have q := et1.trans et2
        clear ot1 et1 et2
        clear kc0 kc1 kc2 kc3
        clear kxk0 kxk1 kxk2 kxk3
        have zu1 : wu0.heap.size ≤ wu1.heap.size := Below.size q
        have A := Lib.hid (A.out.ext q)
        have C := Lib.hid (C.out.ext q)
        have B := Lib.hid (B.out.trans q)
        have P := Lib.hid (OwnS.ext P.out q)
        have X := Lib.hid (X.out.ext q)
        have K := Lib.hid (OwnS.ext K.out q)
        have XK := Lib.hid (XK.out.ext q)
        have V := Lib.hid (OwnB.ext V.out q)
        have G := Lib.hid (OwnB.ext G.out q)
        clear q
        obtain ⟨kx0, kx1, kx2, kx3, _, _, _, _⟩ := X.out
        go_wp2_with fail
        refine (lawsmarkTerm t0 _ _ _ _ 1 HM0.out P.out).mono ?_
        rintro e w7 ⟨rfl, _, q⟩
        clear kx0 kx1 kx2 kx3
        have z7 : wu1.heap.size ≤ w7.heap.size := q.size
        have A := Lib.hid (A.out.fr q (fun h => by omega))
        have C := Lib.hid (C.out.fr q (fun h => by omega))
        have B := Lib.hid (((Fr.of_ext B.out).trans q).toExt (fun k hk h => by omega))
        have X := Lib.hid (X.out.fr q (fun h => by omega))
        have K := Lib.hid (OwnS.mono K.out (fun _ h => h) q (fun b hb h => by omega))
        have XK := Lib.hid (XK.out.fr q (fun h => by omega))
        have V := Lib.hid (OwnB.mono V.out (fun _ h => h) q (fun b hb h => by omega))
        have G := Lib.hid (OwnB.mono G.out (fun _ h => h) q (fun b hb h => by omega))
        clear q
        clear P X
        obtain ⟨kxk0, kxk1, kxk2, kxk3, _, _, _, _⟩ := XK.out
        go_wp2_with fail
        refine (lawsmarkTerm t1 _ _ _ _ (1 + 3 * Tm.szL t0.kids) HM1.out K.out).mono ?_
        rintro e w8 ⟨rfl, _, q⟩
        clear kxk0 kxk1 kxk2 kxk3
        have z8 : w7.heap.size ≤ w8.heap.size := q.size
        have A := Lib.hid (A.out.fr q (fun h => by omega))
        have C := Lib.hid (C.out.fr q (fun h => by omega))
        have B := Lib.hid (((Fr.of_ext B.out).trans q).toExt (fun k hk h => by omega))
        have XK := Lib.hid (XK.out.fr q (fun h => by omega))
        have V := Lib.hid (OwnB.mono V.out (fun _ h => h) q (fun b hb h => by omega))
        have G := Lib.hid (OwnB.mono G.out (fun _ h => h) q (fun b hb h => by omega))
        clear q
        clear K XK
        go_wp2_with fail
        refine (lawseqBindS bs _ _ _ _ _ (OwnB.sl G.out HRL.out) (OwnB.sl V.out HRL.out)).mono ?_
        rintro e w9 ⟨rfl, q⟩
        have z9 : w8.heap.size ≤ w9.heap.size := Below.size q
        have A := Lib.hid (A.out.ext q)
        have C := Lib.hid (C.out.ext q)
        have B := Lib.hid (B.out.trans q)
        have V := Lib.hid (OwnB.ext V.out q)
        have G := Lib.hid (OwnB.ext G.out q)
        clear q
        go_wp2_with fail
        refine (lawsmarkBindS bs _ _ _ 1 HM.out G.out).mono ?_
        rintro e w10 ⟨rfl, m, q⟩
        have z10 : w9.heap.size ≤ w10.heap.size := q.size
        have A := Lib.hid (A.out.fr q (fun h => by omega))
        have C := Lib.hid (C.out.fr q (fun h => by omega))
        have B := Lib.hid (((Fr.of_ext B.out).trans q).toExt (fun k hk h => by omega))
        have V := Lib.hid (OwnB.mono V.out (fun _ h => h) q (fun b hb h => by omega))
        clear q
        have G := Lib.hid m
        clear m
        go_wp2_with fail
        refine (lawsheldBindS bs _ _ _ 1 HM.out (OwnB.sl G.out (by rw [mkBL_len]; exact HRL.out))).mono ?_
        rintro e w11 ⟨rfl, q⟩
        have z11 : w10.heap.size ≤ w11.heap.size := Below.size q
        have A := Lib.hid (A.out.ext q)
        have C := Lib.hid (C.out.ext q)
        have B := Lib.hid (B.out.trans q)
        have V := Lib.hid (OwnB.ext V.out q)
        have G := Lib.hid (OwnB.ext G.out q)
        clear q
        obtain ⟨ka0, ka1, ka2, ka3, _, _, _, _⟩ := A.out
        obtain ⟨kc0, kc1, kc2, kc3, _, _, _, _⟩ := C.out
        have hbx := A.out.lt
        have hcx := C.out.lt
        go_wp2_with fail
        refine wp_region_reliesQ (by kernel_rfl) (by kernel_rfl) (by kernel_rfl) (fun _ _ w' => Ext w11 w') (BX2 t0 t1 x0 x1 y0 y1 bs (.bool yy) w11) (Ext.drew _) ?hsH ?heH
        case hsH =>
          intro Q0
          refine .cons ?h0 (.cons ?h1 (.cons ?h2 (.cons ?h3 (.cons ?h4 (.cons ?h5 (.cons ?h6 (.cons ?h7 (.cons ?h8 (.cons ?h9 .nil)))))))))
          case h0 =>
            intro A D vs w5 old dep hnd hcl hlt hG K hK
            have s2 := old 2 (by kernel_rfl)
            simp only [List.getElem?_toArray, List.getElem?_cons_succ, List.getElem?_cons_zero] at s2
            have q0 := hG.cell ka0
            have q1 := hG.cell ka1
            have q2 := hG.cell ka2
            have q3 := hG.cell ka3
            go_simp
            exact hK _ _ hG (fun _ _ _ h => h) rfl
          case h1 =>
            intro A D vs w5 old dep hnd hcl hlt hG K hK
            obtain ⟨_, e0, j0⟩ := dep 0 (by kernel_rfl)
            replace j0 := j0 95 (by kernel_rfl) (by simp)
            replace e0 : vs 0 = val4 t0 x0 y0 := e0
            rw [e0] at j0
            unfold val4 at j0
            go_simp
            go_at_call 29
            refine (T0.out _ (B.out.trans hG)).mono ?_
            rintro e w6 ⟨a3, c3, rfl, ho, e6⟩
            exact hK _ _ (hG.trans e6) (fun j u hd h => BX2.ext h e6) ⟨a3, c3, rfl, own_zone ho (fun b hb => Nat.le_trans (Below.size hG) hb)⟩
          case h2 =>
            intro A D vs w5 old dep hnd hcl hlt hG K hK
            have s3 := old 3 (by kernel_rfl)
            simp only [List.getElem?_toArray, List.getElem?_cons_succ, List.getElem?_cons_zero] at s3
            have q0 := hG.cell kc0
            have q1 := hG.cell kc1
            have q2 := hG.cell kc2
            have q3 := hG.cell kc3
            go_simp
            exact hK _ _ hG (fun _ _ _ h => h) rfl
          case h3 =>
            intro A D vs w5 old dep hnd hcl hlt hG K hK
            obtain ⟨_, e2, j2⟩ := dep 2 (by kernel_rfl)
            replace j2 := j2 97 (by kernel_rfl) (by simp)
            replace e2 : vs 2 = val4 t1 x1 y1 := e2
            rw [e2] at j2
            unfold val4 at j2
            go_simp
            go_at_call 29
            refine (T1.out _ (B.out.trans hG)).mono ?_
            rintro e w6 ⟨a3, c3, rfl, ho, e6⟩
            exact hK _ _ (hG.trans e6) (fun j u hd h => BX2.ext h e6) ⟨a3, c3, rfl, own_zone ho (fun b hb => Nat.le_trans (Below.size hG) hb)⟩
          case h4 =>
            intro A D vs w5 old dep hnd hcl hlt hG K hK
            obtain ⟨_, e1, j1⟩ := dep 1 (by kernel_rfl)
            replace j1 := j1 96 (by kernel_rfl) (by simp)
            obtain ⟨_, e3, j3⟩ := dep 3 (by kernel_rfl)
            replace j3 := j3 98 (by kernel_rfl) (by simp)
            obtain ⟨a3, c3, e5, o3⟩ := e1
            obtain ⟨a4, c4, e4, o4⟩ := e3
            rw [e5] at j1
            rw [e4] at j3
            unfold val4 at j1 j3
            go_simp
            go_at_call 26
            refine (IMPL.out _ _ (fun _ => True) _ (Tm.at_mono (fun _ _ => trivial) (Agree.refl _) (own_flat _ _ _ o3)) (Tm.at_mono (fun _ _ => trivial) (Agree.refl _) (own_flat _ _ _ o4))).mono ?_
            rintro e w6 ⟨a5, c5, rfl, ho, e6⟩
            exact hK _ _ (hG.trans e6) (fun j u hd h => BX2.ext h e6) ⟨_, rfl, a5, c5, rfl, ho.zone (fun b hb => Nat.le_trans (Below.size hG) hb)⟩
          case h5 =>
            intro A D vs w5 old dep hnd hcl hlt hG K hK
            obtain ⟨_, e4, j4⟩ := dep 4 (by kernel_rfl)
            replace j4 := j4 99 (by kernel_rfl) (by simp)
            obtain ⟨u4, e4, h4⟩ := e4
            rw [e4] at j4
            go_simp
            exact hK _ _ hG (fun _ _ _ h => h) ⟨u4, rfl, h4⟩
          case h6 =>
            intro A D vs w5 old dep hnd hcl hlt hG K hK
            obtain ⟨_, e5, j5⟩ := dep 5 (by kernel_rfl)
            replace j5 := j5 94 (by kernel_rfl) (by simp)
            obtain ⟨u4, e4, h4⟩ := e5
            rw [e4] at j5
            go_simp
            exact hK _ _ hG (fun _ _ _ h => h) h4
          case h7 =>
            intro A D vs w5 old dep hnd hcl hlt hG K hK
            obtain ⟨_, e5, j5⟩ := dep 5 (by kernel_rfl)
            replace j5 := j5 94 (by kernel_rfl) (by simp)
            obtain ⟨u4, e4, h4⟩ := e5
            rw [e4] at j5
            go_simp
            exact hK _ _ hG (fun _ _ _ h => h) rfl
          case h8 =>
            intro A D vs w5 old dep hnd hcl hlt hG K hK
            obtain ⟨_, e6, j6⟩ := dep 6 (by kernel_rfl)
            replace j6 := j6 100 (by kernel_rfl) (by simp)
            go_simp
            exact hK _ _ hG (fun _ _ _ h => h) (show BX2 t0 t1 x0 x1 y0 y1 bs _ _ 8 _ _ from e6)
          case h9 =>
            intro A D vs w5 old dep hnd hcl hlt hG K hK
            obtain ⟨_, e7, j7⟩ := dep 7 (by kernel_rfl)
            replace j7 := j7 101 (by kernel_rfl) (by simp)
            replace e7 : vs 7 = .bool yy := e7
            rw [e7] at j7
            go_simp
            exact hK _ _ hG (fun _ _ _ h => h) rfl
        case heH =>
          intro D vs wx hD q hφ
          obtain ⟨aH, cH, hv8, ho9⟩ : BdW bs (vs 8) w11 wx := hφ 8 (by show 8 < 10; decide)
          have hv9 : vs 9 = .bool yy := hφ 9 (by show 9 < 10; decide)
          rw [hv8] at ho9
          have H := Lib.hid ((ho9.bound).zone (F' := fun b => w11.heap.size ≤ b ∧ b < wx.heap.size) (fun b hb => hb))
          clear ho9 hbx hcx hφ hD
          clear ka0 ka1 ka2 ka3
          clear kc0 kc1 kc2 kc3
          simp only [putO, Act.put, List.setIfInBounds_toArray, List.set_cons_zero, List.set_cons_succ]
          rw [hv8, hv9]
          clear hv8 hv9
          have zx : w11.heap.size ≤ wx.heap.size := Below.size q
          have A := Lib.hid (A.out.ext q)
          have C := Lib.hid (C.out.ext q)
          have B := Lib.hid (B.out.trans q)
          have V := Lib.hid (OwnB.ext V.out q)
          have G := Lib.hid (OwnB.ext G.out q)
          clear q
          go_wp2_with fail
          refine (lawseqBindS bs _ _ _ _ _ (OwnB.sl H.out HRL.out) (OwnB.sl V.out HRL.out)).mono ?_
          rintro e w12 ⟨rfl, q⟩
          have z12 : wx.heap.size ≤ w12.heap.size := Below.size q
          have A := Lib.hid (A.out.ext q)
          have C := Lib.hid (C.out.ext q)
          have B := Lib.hid (B.out.trans q)
          have V := Lib.hid (OwnB.ext V.out q)
          have G := Lib.hid (OwnB.ext G.out q)
          have H := Lib.hid (OwnB.ext H.out q)
          clear q
          go_wp2_with fail
          refine (lawsheldBindS bs _ _ _ 1 HM.out (OwnB.sl G.out (by rw [mkBL_len]; exact HRL.out))).mono ?_
          rintro e w13 ⟨rfl, q⟩
          have z13 : w12.heap.size ≤ w13.heap.size := Below.size q
          have A := Lib.hid (A.out.ext q)
          have C := Lib.hid (C.out.ext q)
          have B := Lib.hid (B.out.trans q)
          have V := Lib.hid (OwnB.ext V.out q)
          have G := Lib.hid (OwnB.ext G.out q)
          have H := Lib.hid (OwnB.ext H.out q)
          clear q
          go_wp2_with fail
          go_ret
          exact ⟨rfl, B.out⟩
    · have Y1 := Lib.hid (leftF_no l1)
      go_enter Try.func8, Try.ntmps8
      go_wp2_with fail
      refine (Z0.out 1048576 (Nat.le_refl _) _ ((Ext.alloc _ _).trans (Ext.alloc _ _))).mono ?_
      rw [Y0.out]
      rintro e w1 ⟨rfl, q⟩
      have A := Lib.hid (show BoxT w1 w.heap.size (.int .i64 t0.kind) (.int .i64 t0.n) (.string t0.name) (.slice x0 t0.kids.length y0) from BoxT.ext (by refine ⟨?_, ?_, ?_, ?_, ?_, ?_, ?_, ?_⟩ <;> go_simp) q)
      have C := Lib.hid (show BoxT w1 (w.heap.size + 1) (.int .i64 t1.kind) (.int .i64 t1.n) (.string t1.name) (.slice x1 t1.kids.length y1) from BoxT.ext (by refine ⟨?_, ?_, ?_, ?_, ?_, ?_, ?_, ?_⟩ <;> go_simp) q)
      have B := Lib.hid (((Ext.alloc _ _).trans (Ext.alloc _ _)).trans q)
      have z1 : w.heap.size + 2 ≤ w1.heap.size := by have := Below.size q; simpa using this
      clear q
      obtain ⟨kc0, kc1, kc2, kc3, _, _, _, _⟩ := C.out
      go_wp2_with fail
      refine (Z1.out (1048576 - Tm.wt t0) (by omega) _ B.out).mono ?_
      rw [Y1.out]
      rintro e w2 ⟨rfl, q⟩
      clear kc0 kc1 kc2 kc3
      have z2 : w1.heap.size ≤ w2.heap.size := Below.size q
      have A := Lib.hid (A.out.ext q)
      have C := Lib.hid (C.out.ext q)
      have B := Lib.hid (B.out.trans q)
      clear q
      go_wp2_with fail
      go_ret
      exact ⟨rfl, B.out⟩
  · have Y0 := Lib.hid (leftF_no l0)
    go_enter Try.func8, Try.ntmps8
    go_wp2_with fail
    refine (Z0.out 1048576 (Nat.le_refl _) _ ((Ext.alloc _ _).trans (Ext.alloc _ _))).mono ?_
    rw [Y0.out]
    rintro e w1 ⟨rfl, q⟩
    have A := Lib.hid (show BoxT w1 w.heap.size (.int .i64 t0.kind) (.int .i64 t0.n) (.string t0.name) (.slice x0 t0.kids.length y0) from BoxT.ext (by refine ⟨?_, ?_, ?_, ?_, ?_, ?_, ?_, ?_⟩ <;> go_simp) q)
    have C := Lib.hid (show BoxT w1 (w.heap.size + 1) (.int .i64 t1.kind) (.int .i64 t1.n) (.string t1.name) (.slice x1 t1.kids.length y1) from BoxT.ext (by refine ⟨?_, ?_, ?_, ?_, ?_, ?_, ?_, ?_⟩ <;> go_simp) q)
    have B := Lib.hid (((Ext.alloc _ _).trans (Ext.alloc _ _)).trans q)
    have z1 : w.heap.size + 2 ≤ w1.heap.size := by have := Below.size q; simpa using this
    clear q
    go_wp2_with fail
    go_ret
    exact ⟨rfl, B.out⟩

set_option maxRecDepth 100000 in
theorem lifted (os : Os) (started : os.Started) (H : Type) (enc : TypeId × Value → H) :
    ReturnsInHanded {} Try.checked os 8 .any (Rows.fnExactUnifyTermsSpec.pre6 enc Try.prog Try.f8 Rows.fnExactUnifyTermsRow.domain false) (Rows.fnExactUnifyTermsSpec.post enc Try.prog Try.f8 false true false false) := by
  refine returnsInHanded_of_change (C := Try.checked) own started (by kernel_rfl) Try.func8
    (ChangeSpec.witness6 (enc := enc) (C := Try.checked) false ⟨#[], #[.agg #[.int .i64 0, .int .i64 0, .string ByteArray.empty, .slice none 0 0], .agg #[.int .i64 0, .int .i64 0, .string ByteArray.empty, .slice none 0 0]], []⟩ 8 (by kernel_rfl) (by kernel_rfl) (by kernel_rfl) (by kernel_rfl)) ?_
  intro W base args ds gs before hval0 hW hcnd _
  have hval : ∀ (j : Nat) t v, Try.f8.params[j]? = some t → args[j]? = some v → Value.okWide Try.prog W .any base t v := hval0
  have hW' := hW
  obtain ⟨p, q, hA0, hV, rfl, hfz, hnd⟩ := hW
  have hA : DataW.TrodAll enc Try.prog W 0 (fun _ => true) true Try.f8.params.toList args.toList ds p := hA0
  rw [Try.params8] at hA hval
  obtain ⟨v0, vs0, d0, ds0, p0, q0, hargs, rfl, rfl, h0, r0⟩ := trodAll_cons hA
  obtain ⟨v1, vs1, d1, ds1, p1, q1, rfl, rfl, rfl, h1, r1⟩ := trodAll_cons r0
  obtain ⟨rfl, rfl, rfl⟩ := trodAll_nil r1
  obtain rfl : args = #[v0, v1] := by cases args; simp_all
  obtain ⟨rfl, rfl⟩ := trodVars_none hV
  have k0 := h0
  have lt0 : ∀ x ∈ p0, x.block < W.heap.size := by obtain ⟨m, hm⟩ := k0; exact DataW.trod_lt m _ _ _ hm
  have w0 := lterm_of_trod (hval 0 49 v0 rfl rfl) h0
  have k1 := h1
  have lt1 : ∀ x ∈ p1, x.block < W.heap.size := by obtain ⟨m, hm⟩ := k1; exact DataW.trod_lt m _ _ _ hm
  have w1 := lterm_of_trod (hval 1 49 v1 rfl rfl) h1
  clear hA0 hval0 hval
  refine (walk _ _ W w0 w1).mono fun e W' ⟨he, bel⟩ => ?_
  subst he
  exact ⟨_, rfl, _, _, _, [], _, [], hW', trodAll_mk1 (shut_bool Try.underlying4 _), (trodAll_cons_mk (Below.trod laidOut (by kernel_rfl) (of_decide_eq_true (by kernel_rfl)) k0 bel lt0) (trodAll_cons_mk (Below.trod laidOut (by kernel_rfl) (of_decide_eq_true (by kernel_rfl)) k1 bel lt1) trodAll_mk0)), rfl, bel.frame _, fun h => by cases h⟩

set_option maxRecDepth 100000 in
theorem over : Rows.fnExactUnifyTermsRow.holds Try.pinned (OpenSpec.ofChange Rows.fnExactUnifyTermsSpec) :=
  OpenClaim.holds_of_wide 8 Try.f8 rfl rfl rfl rfl rfl rfl rfl ⟨rfl, rfl, rfl, rfl, rfl⟩ rfl rfl rfl rfl rfl (by kernel_rfl) Try.func8 (by kernel_rfl)
    (of_decide_eq_true (by kernel_rfl)) (by unfold Func.isWrapper; first | (rw [if_pos (by decide +kernel)]; kernel_rfl) | (rw [if_neg (by decide +kernel)]; exact ⟨rfl, rfl⟩))
    (fun os started H enc _ => lifted os started H enc)

/-- the statement -/
theorem proved : Rows.FnExactUnifyTermsSaid := over
end Go.Proofs.Ytdelhgodhkbjdaa.fnExactUnifyTerms
