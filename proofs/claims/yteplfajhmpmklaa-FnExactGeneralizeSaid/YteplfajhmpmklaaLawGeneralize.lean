/-
  For every two terms (of any size) FnExactGeneralize returns true: the program's Generalize and the reference's return the same, in memory of its own, and leave the terms as they were.
-/
import Derived.Test.YteplfajhmpmklaaRows
import Derived.Test.YteplfajhmpmklaaExR
import Derived.Test.YteplfajhmpmklaaGenI5
import Derived.Test.YteplfajhmpmklaaGenS3
import Derived.Test.YteplfajhmpmklaaMarkT
import Derived.Test.YteplfajhmpmklaaSame2
import Derived.Deep.RegionHeld3
import Derived.ProofKit
import Derived.OpenShut
import Derived.ShutString
namespace Go.Proofs.Yteplfajhmpmklaa.fnExactGeneralize
open Go.ChangeShapes Go.WideShapes Go.ChangeAt Go.RowKit
open Go.ChangeMaps (open_string shut_string)
set_option linter.unusedVariables false

theorem own : ownKnob Try.prog.godebug = none := by kernel_rfl
theorem laidOut : laidOutB Try.prog = true := by kernel_rfl

set_option maxRecDepth 100000 in
set_option maxHeartbeats 16000000 in
theorem walk (a0 a1 : Value) (w : World) (h0 : ∃ t, Lt.at (fun _ => True) w t a0) (h1 : ∃ t, Lt.at (fun _ => True) w t a1) :
    Calls Try.prog 5 #[a0, a1] w fun e w' => e = .returned (.bool true) ∧ Below w.heap.size w w' := by
  obtain ⟨t0, h0⟩ := h0
  obtain ⟨t1, h1⟩ := h1
  have Z0 := Lib.hid (fun (l : Nat) (hl : l ≤ 1048576) w' (e' : Ext w w') => lawszTerm_any t0 a0 l _ w' hl (Lt.at_ext e' h0))
  have Z1 := Lib.hid (fun (l : Nat) (hl : l ≤ 1048576) w' (e' : Ext w w') => lawszTerm_any t1 a1 l _ w' hl (Lt.at_ext e' h1))
  have T0 := Lib.hid (fun (hl : Tm.wt t0 ≤ 1048576) w' (e' : Ext w w') => toTermO_any t0 a0 _ w' hl (Lt.at_ext e' h0))
  have T1 := Lib.hid (fun (hl : Tm.wt t1 ≤ 1048576) w' (e' : Ext w w') => toTermO_any t1 a1 _ w' hl (Lt.at_ext e' h1))
  obtain ⟨_, sv0, rfl, x0, y0, rfl, _⟩ := Lt.at_iff.1 h0
  obtain ⟨_, sv1, rfl, x1, y1, rfl, _⟩ := Lt.at_iff.1 h1
  clear h0 h1
  by_cases l0 : Tm.wt t0 ≤ 1048576
  · have Y0 := Lib.hid (leftF_yes l0)
    by_cases l1 : Tm.wt t1 ≤ 1048576 - Tm.wt t0
    · have Y1 := Lib.hid (leftF_yes l1)
      have t0' := T0.out l0
      have T0 := Lib.hid t0'
      clear t0'
      have t1' := T1.out (by omega)
      have T1 := Lib.hid t1'
      clear t1'
      have hk0 := kids_wt t0
      have hk1 := kids_wt t1
      have HN0 : Hid (t0.name.size ≤ 1048576) := Lib.hid (by have := name_wt t0; omega)
      have HN1 : Hid (t1.name.size ≤ 1048576) := Lib.hid (by have := name_wt t1; omega)
      have hl0 : t0.kids.length ≤ 1048576 := by omega
      have hl1 : t1.kids.length ≤ 1048576 := by omega
      have HM0 : Hid (1 + 3 * Tm.szL t0.kids < 9000000) := Lib.hid (by omega)
      have HM1 : Hid (1 + 3 * Tm.szL t0.kids + 3 * Tm.szL t1.kids < 9000000) := Lib.hid (by omega)
      have HM : Hid (1 + 3 * Tm.szL (genR t0 t1).kids < 9000000) := Lib.hid (by have := genR_sz t0 t1; omega)
      clear hk0 hk1
      obtain ⟨r, hr⟩ : ∃ r, genR t0 t1 = r := ⟨_, rfl⟩
      obtain ⟨bb, hb⟩ : ∃ b, genB t0 t1 = b := ⟨_, rfl⟩
      rw [hr] at HM
      have SPEC := Lib.hid (fun v v' S w' (h1 : Tm.at S w' t0 v) (h2 : Tm.at S w' t1 v') => (by have h := specGeneralize t0 t1 v v' S w' h1 h2; rw [hr, hb] at h; exact h : Calls Try.prog 22 #[v, v'] w' (TmBO r bb w')))
      have IMPL := Lib.hid (fun v v' S w' (h1 : Tm.at S w' t0 v) (h2 : Tm.at S w' t1 v') => (by have h := implGeneralize t0 t1 v v' S w' h1 h2; rw [hr, hb] at h; exact h : Calls Try.prog 23 #[v, v'] w' (TmBO r bb w')))
      clear hr hb
      go_enter Try.func5, Try.ntmps5
      go_wp2_with fail
      refine (Z0.out 1048576 (Nat.le_refl _) _ ((Ext.alloc _ _).trans (Ext.alloc _ _))).mono ?_
      rw [Y0.out]
      rintro e w1 ⟨rfl, q⟩
      have A := Lib.hid (show BoxT w1 w.heap.size (.int .i64 t0.kind) (.int .i64 t0.n) (.string t0.name) (.slice x0 t0.kids.length y0) from BoxT.ext (by refine ⟨?_, ?_, ?_, ?_, ?_, ?_, ?_, ?_⟩ <;> go_simp) q)
      have C := Lib.hid (show BoxT w1 (w.heap.size + 1) (.int .i64 t1.kind) (.int .i64 t1.n) (.string t1.name) (.slice x1 t1.kids.length y1) from BoxT.ext (by refine ⟨?_, ?_, ?_, ?_, ?_, ?_, ?_, ?_⟩ <;> go_simp) q)
      have B := Lib.hid (((Ext.alloc _ _).trans (Ext.alloc _ _)).trans q)
      have z1 : w.heap.size + 2 ≤ w1.heap.size := by have := Below.size q; simpa using this
      clear q
      obtain ⟨kc0, kc1, kc2, kc3, _, _, _, _⟩ := C.out
      go_wp2_with fail
      refine (Z1.out (1048576 - Tm.wt t0) (by omega) _ B.out).mono ?_
      rw [Y1.out]
      rintro e w2 ⟨rfl, q⟩
      clear kc0 kc1 kc2 kc3
      have z2 : w1.heap.size ≤ w2.heap.size := Below.size q
      have A := Lib.hid (A.out.ext q)
      have C := Lib.hid (C.out.ext q)
      have B := Lib.hid (B.out.trans q)
      clear q
      clear Z0 Z1 Y0 Y1
      obtain ⟨ka0, ka1, ka2, ka3, _, _, _, _⟩ := A.out
      obtain ⟨kc0, kc1, kc2, kc3, _, _, _, _⟩ := C.out
      have hbx := A.out.lt
      have hcx := C.out.lt
      go_wp2_with fail
      refine wp_region_sepQ (by kernel_rfl) (by kernel_rfl) (by kernel_rfl) needX consX refsX (by kernel_rfl) (by kernel_rfl) O0 (RX t0 t1 x0 x1 y0 y1 r bb) (fun _ _ => True) (fun _ _ h => h.elim) (fun _ _ _ _ h => h.elim) (fun M i us E R w1 w2 h f hE hR _ _ => RX.fr M i us E R w1 w2 h f hE hR) (fun _ _ _ _ _ _ _ => trivial) (fun _ => trivial) ?hsV ?heV
      case hsV =>
        intro Q0
        refine .cons ?h0 (.cons ?h1 (.cons ?h2 (.cons ?h3 (.cons ?h4 (.cons ?h5 (.cons ?h6 (.cons ?h7 (.cons ?h8 (.cons ?h9 (.cons ?h10 .nil))))))))))
        case h0 =>
          intro A vs E R w5 old dep hbn hds hpre hfr K hK
          have s2 := old 2 (by kernel_rfl)
          simp only [List.getElem?_toArray, List.getElem?_cons_succ, List.getElem?_cons_zero] at s2
          have q0 := hfr.cell (by rintro ⟨_, h⟩; exact h) ka0
          have q1 := hfr.cell (by rintro ⟨_, h⟩; exact h) ka1
          have q2 := hfr.cell (by rintro ⟨_, h⟩; exact h) ka2
          have q3 := hfr.cell (by rintro ⟨_, h⟩; exact h) ka3
          go_simp
          exact hK _ (fun _ => False) (fun _ => False) _ (Fr.refl _ _) rfl (fun _ h => h.elim) (fun _ h => h.elim)
        case h1 =>
          intro A vs E R w5 old dep hbn hds hpre hfr K hK
          obtain ⟨e0, j0⟩ := dep 0 (by decide)
          replace j0 := j0 28 (by kernel_rfl) (by simp)
          replace e0 : vs 0 = val4 t0 x0 y0 := e0
          rw [e0] at j0
          unfold val4 at j0
          have ew := hfr.toExt (fun k _ => (by rintro ⟨_, h⟩; exact h))
          go_simp
          go_at_call 13
          refine (T0.out _ (B.out.trans ew)).mono ?_
          rintro e w6 ⟨a3, c3, rfl, ho, e6⟩
          exact hK _ (fun _ => False) (fun g => w5.heap.size ≤ g ∧ g < w6.heap.size) w6 (Fr.of_ext e6) ⟨a3, c3, rfl, own_zone (own_bound _ _ ho) (fun b hb => hb)⟩ (fun _ h => h.elim) (fun g h => .inr (.inr h))
        case h2 =>
          intro A vs E R w5 old dep hbn hds hpre hfr K hK
          have s3 := old 3 (by kernel_rfl)
          simp only [List.getElem?_toArray, List.getElem?_cons_succ, List.getElem?_cons_zero] at s3
          have q0 := hfr.cell (by rintro ⟨_, h⟩; exact h) kc0
          have q1 := hfr.cell (by rintro ⟨_, h⟩; exact h) kc1
          have q2 := hfr.cell (by rintro ⟨_, h⟩; exact h) kc2
          have q3 := hfr.cell (by rintro ⟨_, h⟩; exact h) kc3
          go_simp
          exact hK _ (fun _ => False) (fun _ => False) _ (Fr.refl _ _) rfl (fun _ h => h.elim) (fun _ h => h.elim)
        case h3 =>
          intro A vs E R w5 old dep hbn hds hpre hfr K hK
          obtain ⟨e2, j2⟩ := dep 2 (by decide)
          replace j2 := j2 30 (by kernel_rfl) (by simp)
          replace e2 : vs 2 = val4 t1 x1 y1 := e2
          rw [e2] at j2
          unfold val4 at j2
          have ew := hfr.toExt (fun k _ => (by rintro ⟨_, h⟩; exact h))
          go_simp
          go_at_call 13
          refine (T1.out _ (B.out.trans ew)).mono ?_
          rintro e w6 ⟨a3, c3, rfl, ho, e6⟩
          exact hK _ (fun _ => False) (fun g => w5.heap.size ≤ g ∧ g < w6.heap.size) w6 (Fr.of_ext e6) ⟨a3, c3, rfl, own_zone (own_bound _ _ ho) (fun b hb => hb)⟩ (fun _ h => h.elim) (fun g h => .inr (.inr h))
        case h4 =>
          intro A vs E R w5 old dep hbn hds hpre hfr K hK
          obtain ⟨e1, j1⟩ := dep 1 (by decide)
          replace j1 := j1 29 (by kernel_rfl) (by simp)
          obtain ⟨e3, j3⟩ := dep 3 (by decide)
          replace j3 := j3 31 (by kernel_rfl) (by simp)
          obtain ⟨a3, c3, e5, o3⟩ := e1
          obtain ⟨a4, c4, e4, o4⟩ := e3
          replace e5 : vs 1 = val4 t0 a3 c3 := e5
          replace e4 : vs 3 = val4 t1 a4 c4 := e4
          rw [e5] at j1
          rw [e4] at j3
          unfold val4 at j1 j3
          go_simp
          go_at_call 22
          refine (SPEC.out _ _ (fun _ => True) _ (Tm.at_mono (fun _ _ => trivial) (Agree.refl _) (own_flat _ _ _ o3)) (Tm.at_mono (fun _ _ => trivial) (Agree.refl _) (own_flat _ _ _ o4))).mono ?_
          rintro e w6 ⟨a5, c5, rfl, ho, e6⟩
          exact hK _ (fun _ => False) (fun g => w5.heap.size ≤ g ∧ g < w6.heap.size) w6 (Fr.of_ext e6) ⟨a5, c5, rfl, own_zone (own_bound _ _ ho) (fun b hb => hb)⟩ (fun _ h => h.elim) (fun g h => .inr (.inr h))
        case h5 =>
          intro A vs E R w5 old dep hbn hds hpre hfr K hK
          obtain ⟨e4, j4⟩ := dep 4 (by decide)
          replace j4 := j4 32 (by kernel_rfl) (by simp)
          obtain ⟨a3, c3, e3, _⟩ := e4
          replace e3 : vs 4 = tupB r bb a3 c3 := e3
          have e3' := e3
          unfold tupB val4 at e3'
          rw [e3'] at j4
          go_simp
          refine hK _ (fun _ => False) (fun _ => False) _ (Fr.refl _ _) ?_ (fun _ h => h.elim) (fun _ h => h.elim)
          exact ⟨a3, c3, congrArg (fun z => [tupB r bb a3 c3, z]) e3⟩
        case h6 =>
          intro A vs E R w5 old dep hbn hds hpre hfr K hK
          obtain ⟨e5, j5⟩ := dep 5 (by decide)
          replace j5 := j5 27 (by kernel_rfl) (by simp)
          obtain ⟨a3, c3, e3⟩ := e5
          replace e3 : [vs 5, vs 4] = [tupB r bb a3 c3, tupB r bb a3 c3] := e3
          simp only [List.cons.injEq, and_true] at e3
          obtain ⟨g1, g2⟩ := e3
          unfold tupB val4 at g1
          rw [g1] at j5
          go_simp
          refine hK _ (fun _ => False) (fun _ => False) _ (Fr.refl _ _) ?_ (fun _ h => h.elim) (fun _ h => h.elim)
          exact ⟨a3, c3, congrArg (fun z => [val4 r a3 c3, z]) g2⟩
        case h7 =>
          intro A vs E R w5 old dep hbn hds hpre hfr K hK
          obtain ⟨e5, j5⟩ := dep 5 (by decide)
          replace j5 := j5 27 (by kernel_rfl) (by simp)
          obtain ⟨a3, c3, e3⟩ := e5
          replace e3 : [vs 5, vs 4] = [tupB r bb a3 c3, tupB r bb a3 c3] := e3
          simp only [List.cons.injEq, and_true] at e3
          obtain ⟨g1, g2⟩ := e3
          unfold tupB val4 at g1
          rw [g1] at j5
          go_simp
          exact hK _ (fun _ => False) (fun _ => False) _ (Fr.refl _ _) rfl (fun _ h => h.elim) (fun _ h => h.elim)
        case h8 =>
          intro A vs E R w5 old dep hbn hds hpre hfr K hK
          go_simp
          exact hK _ (fun g => g = w5.heap.size) (fun _ => False) _ (Fr.alloc _ _) ⟨_, rfl, rfl, BoxT.new w5 _ _ _ _ _ rfl⟩ (fun g h => ⟨.inr ⟨by omega, by simp; omega⟩, fun h => h⟩) (fun _ h => h.elim)
        case h9 =>
          intro A vs E R w5 old dep hbn hds hpre hfr K hK
          obtain ⟨e8, j8⟩ := dep 8 (by decide)
          replace j8 := j8 6 (by kernel_rfl) (by simp)
          obtain ⟨e6, j6⟩ := dep 6 (by decide)
          replace j6 := j6 33 (by kernel_rfl) (by simp)
          obtain ⟨nb, e1, hE, hbx⟩ := e8
          obtain ⟨a3, c3, e3⟩ := e6
          replace e1 : vs 8 = .pointer (some ⟨nb, 0, none⟩) := e1
          replace hE : E 8 nb := hE
          replace e3 : [vs 6, vs 4] = [val4 r a3 c3, tupB r bb a3 c3] := e3
          simp only [List.cons.injEq, and_true] at e3
          obtain ⟨g1, g2⟩ := e3
          unfold val4 at g1
          rw [e1] at j8
          rw [g1] at j6
          have hbx' := hbx
          have lr := hbx.lt
          obtain ⟨r0, r1, r2, r3', z0, z1, z2, z3⟩ := hbx'
          go_simp
          refine hK undef (fun g => g = nb) (fun _ => False) _ (put4_fr _ _ _ _ _ (.inl ⟨8, by decide, hE⟩)) ?_ (fun g h => ⟨.inl ⟨8, by decide, h ▸ hE⟩, fun h => h⟩) (fun _ h => h.elim)
          exact ⟨vs 8, a3, c3, congrArg (fun z => [vs 8, z]) g2, nb, e1, rfl, BoxT.put4x hbx _ _ _ _⟩
        case h10 =>
          intro A vs E R w5 old dep hbn hds hpre hfr K hK
          obtain ⟨e7, j7⟩ := dep 7 (by decide)
          replace j7 := j7 34 (by kernel_rfl) (by simp)
          replace e7 : vs 7 = (.bool bb) := e7
          rw [e7] at j7
          go_simp
          exact hK _ (fun _ => False) (fun _ => False) _ (Fr.refl _ _) rfl (fun _ h => h.elim) (fun _ h => h.elim)
      case heV =>
        intro vs E R ws f9 hres hdis
        obtain ⟨nV, aV, cV, hv8, hv10, hbx9, ho9, hn9, hn9b, q⟩ := RX.fin rfl f9 hres hdis
        have HRN : Hid (r.name.size ≤ 1048576) := Lib.hid (own_iff.1 ho9).1
        have hrl : r.kids.length ≤ 1048576 := (own_iff.1 ho9).2.1
        have XV := Lib.hid hbx9
        have V := Lib.hid (own_kids ho9)
        clear f9 hres hdis hbx9 ho9 hbx hcx
        clear ka0 ka1 ka2 ka3
        clear kc0 kc1 kc2 kc3
        simp only [putO, Act.put, List.setIfInBounds_toArray, List.set_cons_zero, List.set_cons_succ]
        rw [hv8, hv10]
        clear hv8 hv10
        have zs : w2.heap.size ≤ ws.heap.size := Below.size q
        have A := Lib.hid (A.out.ext q)
        have C := Lib.hid (C.out.ext q)
        have B := Lib.hid (B.out.trans q)
        clear q
        have hnVa := hn9
        have hnVb := hn9b
        clear hn9 hn9b
        obtain ⟨ka0, ka1, ka2, ka3, _, _, _, _⟩ := A.out
        go_wp2_with fail
        refine (T0.out _ B.out).mono ?_
        rintro e w3 ⟨aP, cP, rfl, o, q⟩
        clear ka0 ka1 ka2 ka3
        have z3 : ws.heap.size ≤ w3.heap.size := Below.size q
        have A := Lib.hid (A.out.ext q)
        have C := Lib.hid (C.out.ext q)
        have B := Lib.hid (B.out.trans q)
        have V := Lib.hid (OwnS.ext V.out q)
        have XV := Lib.hid (XV.out.ext q)
        clear q
        have P := Lib.hid (((own_kids o).bound).zone (F' := fun b => ws.heap.size ≤ b ∧ b < w3.heap.size) (fun b hb => ⟨by simpa using hb.1, hb.2⟩))
        clear o
        obtain ⟨kc0, kc1, kc2, kc3, _, _, _, _⟩ := C.out
        have lc := C.out.lt
        go_wp2_with fail
        refine (T1.out _ (B.out.trans (Ext.alloc _ _))).mono ?_
        rintro e w4 ⟨aK, cK, rfl, o, q⟩
        clear kc0 kc1 kc2 kc3
        clear lc
        have X := Lib.hid ((BoxT.new w3 (.int .i64 t0.kind) (.int .i64 t0.n) (.string t0.name) (.slice aP t0.kids.length cP) 29 rfl).ext q)
        replace q := (Ext.alloc _ _).trans q
        have z4 : w3.heap.size + 1 ≤ w4.heap.size := by have := Below.size q; have := block_lt_of_cell X.out.1; simp only at this; omega
        have A := Lib.hid (A.out.ext q)
        have C := Lib.hid (C.out.ext q)
        have B := Lib.hid (B.out.trans q)
        have V := Lib.hid (OwnS.ext V.out q)
        have XV := Lib.hid (XV.out.ext q)
        have P := Lib.hid (OwnS.ext P.out q)
        clear q
        have K := Lib.hid (((own_kids o).bound).zone (F' := fun b => w3.heap.size + 1 ≤ b ∧ b < w4.heap.size) (fun b hb => ⟨by simpa using hb.1, hb.2⟩))
        clear o
        obtain ⟨kx0, kx1, kx2, kx3, _, _, _, _⟩ := X.out
        have lx := X.out.lt
        go_wp2_with fail
        refine (IMPL.out _ _ (fun _ => True) _ (Tm.at_mono (fun _ _ => trivial) (Agree.refl _) (own_at (OwnS.ext P.out (Ext.alloc _ _)) HN0.out hl0)) (Tm.at_mono (fun _ _ => trivial) (Agree.refl _) (own_at (OwnS.ext K.out (Ext.alloc _ _)) HN1.out hl1))).mono ?_
        rintro e w5 ⟨aG, cG, rfl, ro, q⟩
        clear kx0 kx1 kx2 kx3
        clear lx
        have XK := Lib.hid ((BoxT.new w4 (.int .i64 t1.kind) (.int .i64 t1.n) (.string t1.name) (.slice aK t1.kids.length cK) 29 rfl).ext q)
        replace q := (Ext.alloc _ _).trans q
        have z5 : w4.heap.size + 1 ≤ w5.heap.size := by have := Below.size q; have := block_lt_of_cell XK.out.1; simp only at this; omega
        have A := Lib.hid (A.out.ext q)
        have C := Lib.hid (C.out.ext q)
        have B := Lib.hid (B.out.trans q)
        have V := Lib.hid (OwnS.ext V.out q)
        have XV := Lib.hid (XV.out.ext q)
        have P := Lib.hid (OwnS.ext P.out q)
        have X := Lib.hid (X.out.ext q)
        have K := Lib.hid (OwnS.ext K.out q)
        clear q
        have G := Lib.hid (((own_kids ro).bound).zone (F' := fun b => w4.heap.size + 1 ≤ b ∧ b < w5.heap.size) (fun b hb => ⟨by simpa using hb.1, hb.2⟩))
        clear ro
        obtain ⟨kxv0, kxv1, kxv2, kxv3, _, _, _, _⟩ := XV.out
        have lxv := XV.out.lt
        go_wp2_with fail
        refine (lawseqTerm_any _ _ _ _ _ _ _ (own_at (OwnS.ext G.out (Ext.alloc _ _)) HRN.out hrl) (own_at (OwnS.ext V.out (Ext.alloc _ _)) HRN.out hrl)).mono ?_
        rw [same_refl]
        rintro e w6 ⟨rfl, q⟩
        clear kxv0 kxv1 kxv2 kxv3
        clear lxv
        have XG := Lib.hid ((BoxT.new w5 (.int .i64 r.kind) (.int .i64 r.n) (.string r.name) (.slice aG r.kids.length cG) 29 rfl).ext q)
        replace q := (Ext.alloc _ _).trans q
        have z6 : w5.heap.size + 1 ≤ w6.heap.size := by have := Below.size q; have := block_lt_of_cell XG.out.1; simp only at this; omega
        have A := Lib.hid (A.out.ext q)
        have C := Lib.hid (C.out.ext q)
        have B := Lib.hid (B.out.trans q)
        have V := Lib.hid (OwnS.ext V.out q)
        have XV := Lib.hid (XV.out.ext q)
        have P := Lib.hid (OwnS.ext P.out q)
        have X := Lib.hid (X.out.ext q)
        have K := Lib.hid (OwnS.ext K.out q)
        have XK := Lib.hid (XK.out.ext q)
        have G := Lib.hid (OwnS.ext G.out q)
        clear q
        obtain ⟨ka0, ka1, ka2, ka3, _, _, _, _⟩ := A.out
        obtain ⟨kx0, kx1, kx2, kx3, _, _, _, _⟩ := X.out
        go_wp2_with fail
        go_region_held3 (fun w' => Ext w6 w' ∧ w'.cell? ⟨w.heap.size, 0, none⟩ = some (.int .i64 t0.kind) ∧ w'.cell? ⟨w.heap.size, 1, none⟩ = some (.int .i64 t0.n) ∧ w'.cell? ⟨w.heap.size, 2, none⟩ = some (.string t0.name) ∧ w'.cell? ⟨w.heap.size, 3, none⟩ = some (.slice x0 t0.kids.length y0) ∧
            w'.cell? ⟨w3.heap.size, 0, none⟩ = some (.int .i64 t0.kind) ∧ w'.cell? ⟨w3.heap.size, 1, none⟩ = some (.int .i64 t0.n) ∧ w'.cell? ⟨w3.heap.size, 2, none⟩ = some (.string t0.name) ∧ w'.cell? ⟨w3.heap.size, 3, none⟩ = some (.slice aP t0.kids.length cP))
          ((refine ⟨?_, ?_, ?_, ?_, ?_, ?_, ?_, ?_, ?_⟩ <;> first | with_reducible assumption | with_reducible exact Ext.drew _ | exact Ext.drew _ | (with_reducible (apply Ext.cell; assumption; assumption)) | (with_reducible (apply Ext.trans'; assumption; assumption)) | (with_reducible (apply Ext.cell; apply Ext.trans'; assumption; assumption; assumption)) | (with_reducible (apply Ext.trans'; assumption; apply Ext.trans'; assumption; assumption)) | (with_reducible (apply Ext.cell; apply Ext.trans'; assumption; apply Ext.trans'; assumption; assumption; assumption)) | assumption))
          (first
            | (go_at_call 13; refine (T0.out _ ?_).mono ?_; (exact B.out.trans (And.left (by assumption))); rintro e wt0 ⟨at1, ct1, rfl, ot1, et1⟩; try replace et1 := Ext.undrew et1)
            | (go_at_call 15; refine (lawseqTerm_any t0 t0 _ _ _ _ _ (Tm.at_ext et1 (own_at P.out HN0.out hl0)) (own_flat _ _ _ ot1)).mono ?_; rw [same_refl]; rintro e wu0 ⟨rfl, et2⟩; try replace et2 := Ext.undrew et2))
        have q := et1.trans et2
        clear ot1 et1 et2
        clear ka0 ka1 ka2 ka3
        clear kx0 kx1 kx2 kx3
        have zu0 : w6.heap.size ≤ wu0.heap.size := Below.size q
        have A := Lib.hid (A.out.ext q)
        have C := Lib.hid (C.out.ext q)
        have B := Lib.hid (B.out.trans q)
        have V := Lib.hid (OwnS.ext V.out q)
        have XV := Lib.hid (XV.out.ext q)
        have P := Lib.hid (OwnS.ext P.out q)
        have X := Lib.hid (X.out.ext q)
        have K := Lib.hid (OwnS.ext K.out q)
        have XK := Lib.hid (XK.out.ext q)
        have G := Lib.hid (OwnS.ext G.out q)
        have XG := Lib.hid (XG.out.ext q)
        clear q
        obtain ⟨kc0, kc1, kc2, kc3, _, _, _, _⟩ := C.out
        obtain ⟨kxk0, kxk1, kxk2, kxk3, _, _, _, _⟩ := XK.out
        go_wp2_with fail
        go_region_held3 (fun w' => Ext wu0 w' ∧ w'.cell? ⟨(w.heap.size + 1), 0, none⟩ = some (.int .i64 t1.kind) ∧ w'.cell? ⟨(w.heap.size + 1), 1, none⟩ = some (.int .i64 t1.n) ∧ w'.cell? ⟨(w.heap.size + 1), 2, none⟩ = some (.string t1.name) ∧ w'.cell? ⟨(w.heap.size + 1), 3, none⟩ = some (.slice x1 t1.kids.length y1) ∧
            w'.cell? ⟨w4.heap.size, 0, none⟩ = some (.int .i64 t1.kind) ∧ w'.cell? ⟨w4.heap.size, 1, none⟩ = some (.int .i64 t1.n) ∧ w'.cell? ⟨w4.heap.size, 2, none⟩ = some (.string t1.name) ∧ w'.cell? ⟨w4.heap.size, 3, none⟩ = some (.slice aK t1.kids.length cK))
          ((refine ⟨?_, ?_, ?_, ?_, ?_, ?_, ?_, ?_, ?_⟩ <;> first | with_reducible assumption | with_reducible exact Ext.drew _ | exact Ext.drew _ | (with_reducible (apply Ext.cell; assumption; assumption)) | (with_reducible (apply Ext.trans'; assumption; assumption)) | (with_reducible (apply Ext.cell; apply Ext.trans'; assumption; assumption; assumption)) | (with_reducible (apply Ext.trans'; assumption; apply Ext.trans'; assumption; assumption)) | (with_reducible (apply Ext.cell; apply Ext.trans'; assumption; apply Ext.trans'; assumption; assumption; assumption)) | assumption))
          (first
            | (go_at_call 13; refine (T1.out _ ?_).mono ?_; (exact B.out.trans (And.left (by assumption))); rintro e wt1 ⟨at1, ct1, rfl, ot1, et1⟩; try replace et1 := Ext.undrew et1)
            | (go_at_call 15; refine (lawseqTerm_any t1 t1 _ _ _ _ _ (Tm.at_ext et1 (own_at K.out HN1.out hl1)) (own_flat _ _ _ ot1)).mono ?_; rw [same_refl]; rintro e wu1 ⟨rfl, et2⟩; try replace et2 := Ext.undrew et2))
        have q := et1.trans et2
        clear ot1 et1 et2
        clear kc0 kc1 kc2 kc3
        clear kxk0 kxk1 kxk2 kxk3
        have zu1 : wu0.heap.size ≤ wu1.heap.size := Below.size q
        have A := Lib.hid (A.out.ext q)
        have C := Lib.hid (C.out.ext q)
        have B := Lib.hid (B.out.trans q)
        have V := Lib.hid (OwnS.ext V.out q)
        have XV := Lib.hid (XV.out.ext q)
        have P := Lib.hid (OwnS.ext P.out q)
        have X := Lib.hid (X.out.ext q)
        have K := Lib.hid (OwnS.ext K.out q)
        have XK := Lib.hid (XK.out.ext q)
        have G := Lib.hid (OwnS.ext G.out q)
        have XG := Lib.hid (XG.out.ext q)
        clear q
        obtain ⟨kx0, kx1, kx2, kx3, _, _, _, _⟩ := X.out
        go_wp2_with fail
        refine (lawsmarkTerm t0 _ _ _ _ 1 HM0.out P.out).mono ?_
        rintro e w7 ⟨rfl, _, q⟩
        clear kx0 kx1 kx2 kx3
        have z7 : wu1.heap.size ≤ w7.heap.size := q.size
        have A := Lib.hid (A.out.fr q (fun h => by omega))
        have C := Lib.hid (C.out.fr q (fun h => by omega))
        have B := Lib.hid (((Fr.of_ext B.out).trans q).toExt (fun k hk h => by omega))
        have V := Lib.hid (OwnS.mono V.out (fun _ h => h) q (fun b hb h => by omega))
        have XV := Lib.hid (XV.out.fr q (fun h => by omega))
        have X := Lib.hid (X.out.fr q (fun h => by omega))
        have K := Lib.hid (OwnS.mono K.out (fun _ h => h) q (fun b hb h => by omega))
        have XK := Lib.hid (XK.out.fr q (fun h => by omega))
        have G := Lib.hid (OwnS.mono G.out (fun _ h => h) q (fun b hb h => by omega))
        have XG := Lib.hid (XG.out.fr q (fun h => by omega))
        clear q
        clear P X
        obtain ⟨kxk0, kxk1, kxk2, kxk3, _, _, _, _⟩ := XK.out
        go_wp2_with fail
        refine (lawsmarkTerm t1 _ _ _ _ (1 + 3 * Tm.szL t0.kids) HM1.out K.out).mono ?_
        rintro e w8 ⟨rfl, _, q⟩
        clear kxk0 kxk1 kxk2 kxk3
        have z8 : w7.heap.size ≤ w8.heap.size := q.size
        have A := Lib.hid (A.out.fr q (fun h => by omega))
        have C := Lib.hid (C.out.fr q (fun h => by omega))
        have B := Lib.hid (((Fr.of_ext B.out).trans q).toExt (fun k hk h => by omega))
        have V := Lib.hid (OwnS.mono V.out (fun _ h => h) q (fun b hb h => by omega))
        have XV := Lib.hid (XV.out.fr q (fun h => by omega))
        have XK := Lib.hid (XK.out.fr q (fun h => by omega))
        have G := Lib.hid (OwnS.mono G.out (fun _ h => h) q (fun b hb h => by omega))
        have XG := Lib.hid (XG.out.fr q (fun h => by omega))
        clear q
        clear K XK
        obtain ⟨kxg0, kxg1, kxg2, kxg3, _, _, _, _⟩ := XG.out
        obtain ⟨kxv0, kxv1, kxv2, kxv3, _, _, _, _⟩ := XV.out
        go_wp2_with fail
        refine (lawseqTerm_any _ _ _ _ _ _ _ (own_at G.out HRN.out hrl) (own_at V.out HRN.out hrl)).mono ?_
        rw [same_refl]
        rintro e w9 ⟨rfl, q⟩
        clear kxg0 kxg1 kxg2 kxg3
        clear kxv0 kxv1 kxv2 kxv3
        have z9 : w8.heap.size ≤ w9.heap.size := Below.size q
        have A := Lib.hid (A.out.ext q)
        have C := Lib.hid (C.out.ext q)
        have B := Lib.hid (B.out.trans q)
        have V := Lib.hid (OwnS.ext V.out q)
        have XV := Lib.hid (XV.out.ext q)
        have G := Lib.hid (OwnS.ext G.out q)
        have XG := Lib.hid (XG.out.ext q)
        clear q
        obtain ⟨kxg0, kxg1, kxg2, kxg3, _, _, _, _⟩ := XG.out
        go_wp2_with fail
        refine (lawsmarkTerm r _ _ _ _ 1 HM.out G.out).mono ?_
        rintro e w10 ⟨rfl, m, q⟩
        clear kxg0 kxg1 kxg2 kxg3
        have z10 : w9.heap.size ≤ w10.heap.size := q.size
        have A := Lib.hid (A.out.fr q (fun h => by omega))
        have C := Lib.hid (C.out.fr q (fun h => by omega))
        have B := Lib.hid (((Fr.of_ext B.out).trans q).toExt (fun k hk h => by omega))
        have V := Lib.hid (OwnS.mono V.out (fun _ h => h) q (fun b hb h => by omega))
        have XV := Lib.hid (XV.out.fr q (fun h => by omega))
        have XG := Lib.hid (XG.out.fr q (fun h => by omega))
        clear q
        have G := Lib.hid m
        clear m
        obtain ⟨kxg0, kxg1, kxg2, kxg3, _, _, _, _⟩ := XG.out
        go_wp2_with fail
        refine (lawsheldTerm r _ _ _ _ 1 HM.out hrl G.out).mono ?_
        rintro e w11 ⟨rfl, q⟩
        clear kxg0 kxg1 kxg2 kxg3
        have z11 : w10.heap.size ≤ w11.heap.size := Below.size q
        have A := Lib.hid (A.out.ext q)
        have C := Lib.hid (C.out.ext q)
        have B := Lib.hid (B.out.trans q)
        have V := Lib.hid (OwnS.ext V.out q)
        have XV := Lib.hid (XV.out.ext q)
        have XG := Lib.hid (XG.out.ext q)
        have G := Lib.hid (OwnS.ext G.out q)
        clear q
        obtain ⟨ka0, ka1, ka2, ka3, _, _, _, _⟩ := A.out
        obtain ⟨kc0, kc1, kc2, kc3, _, _, _, _⟩ := C.out
        have hbx := A.out.lt
        have hcx := C.out.lt
        go_wp2_with fail
        refine wp_region_sepQ (by kernel_rfl) (by kernel_rfl) (by kernel_rfl) needX consX refsX (by kernel_rfl) (by kernel_rfl) O0 (RX t0 t1 x0 x1 y0 y1 r bb) (fun _ _ => True) (fun _ _ h => h.elim) (fun _ _ _ _ h => h.elim) (fun M i us E R w1 w2 h f hE hR _ _ => RX.fr M i us E R w1 w2 h f hE hR) (fun _ _ _ _ _ _ _ => trivial) (fun _ => trivial) ?hsH ?heH
        case hsH =>
          intro Q0
          refine .cons ?h0 (.cons ?h1 (.cons ?h2 (.cons ?h3 (.cons ?h4 (.cons ?h5 (.cons ?h6 (.cons ?h7 (.cons ?h8 (.cons ?h9 (.cons ?h10 .nil))))))))))
          case h0 =>
            intro A vs E R w5 old dep hbn hds hpre hfr K hK
            have s2 := old 2 (by kernel_rfl)
            simp only [List.getElem?_toArray, List.getElem?_cons_succ, List.getElem?_cons_zero] at s2
            have q0 := hfr.cell (by rintro ⟨_, h⟩; exact h) ka0
            have q1 := hfr.cell (by rintro ⟨_, h⟩; exact h) ka1
            have q2 := hfr.cell (by rintro ⟨_, h⟩; exact h) ka2
            have q3 := hfr.cell (by rintro ⟨_, h⟩; exact h) ka3
            go_simp
            exact hK _ (fun _ => False) (fun _ => False) _ (Fr.refl _ _) rfl (fun _ h => h.elim) (fun _ h => h.elim)
          case h1 =>
            intro A vs E R w5 old dep hbn hds hpre hfr K hK
            obtain ⟨e0, j0⟩ := dep 0 (by decide)
            replace j0 := j0 95 (by kernel_rfl) (by simp)
            replace e0 : vs 0 = val4 t0 x0 y0 := e0
            rw [e0] at j0
            unfold val4 at j0
            have ew := hfr.toExt (fun k _ => (by rintro ⟨_, h⟩; exact h))
            go_simp
            go_at_call 13
            refine (T0.out _ (B.out.trans ew)).mono ?_
            rintro e w6 ⟨a3, c3, rfl, ho, e6⟩
            exact hK _ (fun _ => False) (fun g => w5.heap.size ≤ g ∧ g < w6.heap.size) w6 (Fr.of_ext e6) ⟨a3, c3, rfl, own_zone (own_bound _ _ ho) (fun b hb => hb)⟩ (fun _ h => h.elim) (fun g h => .inr (.inr h))
          case h2 =>
            intro A vs E R w5 old dep hbn hds hpre hfr K hK
            have s3 := old 3 (by kernel_rfl)
            simp only [List.getElem?_toArray, List.getElem?_cons_succ, List.getElem?_cons_zero] at s3
            have q0 := hfr.cell (by rintro ⟨_, h⟩; exact h) kc0
            have q1 := hfr.cell (by rintro ⟨_, h⟩; exact h) kc1
            have q2 := hfr.cell (by rintro ⟨_, h⟩; exact h) kc2
            have q3 := hfr.cell (by rintro ⟨_, h⟩; exact h) kc3
            go_simp
            exact hK _ (fun _ => False) (fun _ => False) _ (Fr.refl _ _) rfl (fun _ h => h.elim) (fun _ h => h.elim)
          case h3 =>
            intro A vs E R w5 old dep hbn hds hpre hfr K hK
            obtain ⟨e2, j2⟩ := dep 2 (by decide)
            replace j2 := j2 97 (by kernel_rfl) (by simp)
            replace e2 : vs 2 = val4 t1 x1 y1 := e2
            rw [e2] at j2
            unfold val4 at j2
            have ew := hfr.toExt (fun k _ => (by rintro ⟨_, h⟩; exact h))
            go_simp
            go_at_call 13
            refine (T1.out _ (B.out.trans ew)).mono ?_
            rintro e w6 ⟨a3, c3, rfl, ho, e6⟩
            exact hK _ (fun _ => False) (fun g => w5.heap.size ≤ g ∧ g < w6.heap.size) w6 (Fr.of_ext e6) ⟨a3, c3, rfl, own_zone (own_bound _ _ ho) (fun b hb => hb)⟩ (fun _ h => h.elim) (fun g h => .inr (.inr h))
          case h4 =>
            intro A vs E R w5 old dep hbn hds hpre hfr K hK
            obtain ⟨e1, j1⟩ := dep 1 (by decide)
            replace j1 := j1 96 (by kernel_rfl) (by simp)
            obtain ⟨e3, j3⟩ := dep 3 (by decide)
            replace j3 := j3 98 (by kernel_rfl) (by simp)
            obtain ⟨a3, c3, e5, o3⟩ := e1
            obtain ⟨a4, c4, e4, o4⟩ := e3
            replace e5 : vs 1 = val4 t0 a3 c3 := e5
            replace e4 : vs 3 = val4 t1 a4 c4 := e4
            rw [e5] at j1
            rw [e4] at j3
            unfold val4 at j1 j3
            go_simp
            go_at_call 23
            refine (IMPL.out _ _ (fun _ => True) _ (Tm.at_mono (fun _ _ => trivial) (Agree.refl _) (own_flat _ _ _ o3)) (Tm.at_mono (fun _ _ => trivial) (Agree.refl _) (own_flat _ _ _ o4))).mono ?_
            rintro e w6 ⟨a5, c5, rfl, ho, e6⟩
            exact hK _ (fun _ => False) (fun g => w5.heap.size ≤ g ∧ g < w6.heap.size) w6 (Fr.of_ext e6) ⟨a5, c5, rfl, own_zone (own_bound _ _ ho) (fun b hb => hb)⟩ (fun _ h => h.elim) (fun g h => .inr (.inr h))
          case h5 =>
            intro A vs E R w5 old dep hbn hds hpre hfr K hK
            obtain ⟨e4, j4⟩ := dep 4 (by decide)
            replace j4 := j4 99 (by kernel_rfl) (by simp)
            obtain ⟨a3, c3, e3, _⟩ := e4
            replace e3 : vs 4 = tupB r bb a3 c3 := e3
            have e3' := e3
            unfold tupB val4 at e3'
            rw [e3'] at j4
            go_simp
            refine hK _ (fun _ => False) (fun _ => False) _ (Fr.refl _ _) ?_ (fun _ h => h.elim) (fun _ h => h.elim)
            exact ⟨a3, c3, congrArg (fun z => [tupB r bb a3 c3, z]) e3⟩
          case h6 =>
            intro A vs E R w5 old dep hbn hds hpre hfr K hK
            obtain ⟨e5, j5⟩ := dep 5 (by decide)
            replace j5 := j5 94 (by kernel_rfl) (by simp)
            obtain ⟨a3, c3, e3⟩ := e5
            replace e3 : [vs 5, vs 4] = [tupB r bb a3 c3, tupB r bb a3 c3] := e3
            simp only [List.cons.injEq, and_true] at e3
            obtain ⟨g1, g2⟩ := e3
            unfold tupB val4 at g1
            rw [g1] at j5
            go_simp
            refine hK _ (fun _ => False) (fun _ => False) _ (Fr.refl _ _) ?_ (fun _ h => h.elim) (fun _ h => h.elim)
            exact ⟨a3, c3, congrArg (fun z => [val4 r a3 c3, z]) g2⟩
          case h7 =>
            intro A vs E R w5 old dep hbn hds hpre hfr K hK
            obtain ⟨e5, j5⟩ := dep 5 (by decide)
            replace j5 := j5 94 (by kernel_rfl) (by simp)
            obtain ⟨a3, c3, e3⟩ := e5
            replace e3 : [vs 5, vs 4] = [tupB r bb a3 c3, tupB r bb a3 c3] := e3
            simp only [List.cons.injEq, and_true] at e3
            obtain ⟨g1, g2⟩ := e3
            unfold tupB val4 at g1
            rw [g1] at j5
            go_simp
            exact hK _ (fun _ => False) (fun _ => False) _ (Fr.refl _ _) rfl (fun _ h => h.elim) (fun _ h => h.elim)
          case h8 =>
            intro A vs E R w5 old dep hbn hds hpre hfr K hK
            go_simp
            exact hK _ (fun g => g = w5.heap.size) (fun _ => False) _ (Fr.alloc _ _) ⟨_, rfl, rfl, BoxT.new w5 _ _ _ _ _ rfl⟩ (fun g h => ⟨.inr ⟨by omega, by simp; omega⟩, fun h => h⟩) (fun _ h => h.elim)
          case h9 =>
            intro A vs E R w5 old dep hbn hds hpre hfr K hK
            obtain ⟨e8, j8⟩ := dep 8 (by decide)
            replace j8 := j8 15 (by kernel_rfl) (by simp)
            obtain ⟨e6, j6⟩ := dep 6 (by decide)
            replace j6 := j6 100 (by kernel_rfl) (by simp)
            obtain ⟨nb, e1, hE, hbx⟩ := e8
            obtain ⟨a3, c3, e3⟩ := e6
            replace e1 : vs 8 = .pointer (some ⟨nb, 0, none⟩) := e1
            replace hE : E 8 nb := hE
            replace e3 : [vs 6, vs 4] = [val4 r a3 c3, tupB r bb a3 c3] := e3
            simp only [List.cons.injEq, and_true] at e3
            obtain ⟨g1, g2⟩ := e3
            unfold val4 at g1
            rw [e1] at j8
            rw [g1] at j6
            have hbx' := hbx
            have lr := hbx.lt
            obtain ⟨r0, r1, r2, r3', z0, z1, z2, z3⟩ := hbx'
            go_simp
            refine hK undef (fun g => g = nb) (fun _ => False) _ (put4_fr _ _ _ _ _ (.inl ⟨8, by decide, hE⟩)) ?_ (fun g h => ⟨.inl ⟨8, by decide, h ▸ hE⟩, fun h => h⟩) (fun _ h => h.elim)
            exact ⟨vs 8, a3, c3, congrArg (fun z => [vs 8, z]) g2, nb, e1, rfl, BoxT.put4x hbx _ _ _ _⟩
          case h10 =>
            intro A vs E R w5 old dep hbn hds hpre hfr K hK
            obtain ⟨e7, j7⟩ := dep 7 (by decide)
            replace j7 := j7 101 (by kernel_rfl) (by simp)
            replace e7 : vs 7 = (.bool bb) := e7
            rw [e7] at j7
            go_simp
            exact hK _ (fun _ => False) (fun _ => False) _ (Fr.refl _ _) rfl (fun _ h => h.elim) (fun _ h => h.elim)
        case heH =>
          intro vs E R wx f9 hres hdis
          obtain ⟨nH, aH, cH, hv8, hv10, hbx9, ho9, hn9, hn9b, q⟩ := RX.fin rfl f9 hres hdis
          have XH := Lib.hid hbx9
          have H := Lib.hid (own_kids ho9)
          clear f9 hres hdis hbx9 ho9 hbx hcx
          clear ka0 ka1 ka2 ka3
          clear kc0 kc1 kc2 kc3
          simp only [putO, Act.put, List.setIfInBounds_toArray, List.set_cons_zero, List.set_cons_succ]
          rw [hv8, hv10]
          clear hv8 hv10
          have zx : w11.heap.size ≤ wx.heap.size := Below.size q
          have A := Lib.hid (A.out.ext q)
          have C := Lib.hid (C.out.ext q)
          have B := Lib.hid (B.out.trans q)
          have V := Lib.hid (OwnS.ext V.out q)
          have XV := Lib.hid (XV.out.ext q)
          have XG := Lib.hid (XG.out.ext q)
          have G := Lib.hid (OwnS.ext G.out q)
          clear q
          have hnHa := hn9
          have hnHb := hn9b
          clear hn9 hn9b
          obtain ⟨kxh0, kxh1, kxh2, kxh3, _, _, _, _⟩ := XH.out
          obtain ⟨kxv0, kxv1, kxv2, kxv3, _, _, _, _⟩ := XV.out
          go_wp2_with fail
          refine (lawseqTerm_any _ _ _ _ _ _ _ (own_at H.out HRN.out hrl) (own_at V.out HRN.out hrl)).mono ?_
          rw [same_refl]
          rintro e w12 ⟨rfl, q⟩
          clear kxh0 kxh1 kxh2 kxh3
          clear kxv0 kxv1 kxv2 kxv3
          have z12 : wx.heap.size ≤ w12.heap.size := Below.size q
          have A := Lib.hid (A.out.ext q)
          have C := Lib.hid (C.out.ext q)
          have B := Lib.hid (B.out.trans q)
          have V := Lib.hid (OwnS.ext V.out q)
          have XV := Lib.hid (XV.out.ext q)
          have XG := Lib.hid (XG.out.ext q)
          have G := Lib.hid (OwnS.ext G.out q)
          have H := Lib.hid (OwnS.ext H.out q)
          have XH := Lib.hid (XH.out.ext q)
          clear q
          obtain ⟨kxg0, kxg1, kxg2, kxg3, _, _, _, _⟩ := XG.out
          go_wp2_with fail
          refine (lawsheldTerm r _ _ _ _ 1 HM.out hrl G.out).mono ?_
          rintro e w13 ⟨rfl, q⟩
          clear kxg0 kxg1 kxg2 kxg3
          have z13 : w12.heap.size ≤ w13.heap.size := Below.size q
          have A := Lib.hid (A.out.ext q)
          have C := Lib.hid (C.out.ext q)
          have B := Lib.hid (B.out.trans q)
          have V := Lib.hid (OwnS.ext V.out q)
          have XV := Lib.hid (XV.out.ext q)
          have XG := Lib.hid (XG.out.ext q)
          have G := Lib.hid (OwnS.ext G.out q)
          have H := Lib.hid (OwnS.ext H.out q)
          have XH := Lib.hid (XH.out.ext q)
          clear q
          go_wp2_with fail
          go_ret
          exact ⟨rfl, B.out⟩
    · have Y1 := Lib.hid (leftF_no l1)
      go_enter Try.func5, Try.ntmps5
      go_wp2_with fail
      refine (Z0.out 1048576 (Nat.le_refl _) _ ((Ext.alloc _ _).trans (Ext.alloc _ _))).mono ?_
      rw [Y0.out]
      rintro e w1 ⟨rfl, q⟩
      have A := Lib.hid (show BoxT w1 w.heap.size (.int .i64 t0.kind) (.int .i64 t0.n) (.string t0.name) (.slice x0 t0.kids.length y0) from BoxT.ext (by refine ⟨?_, ?_, ?_, ?_, ?_, ?_, ?_, ?_⟩ <;> go_simp) q)
      have C := Lib.hid (show BoxT w1 (w.heap.size + 1) (.int .i64 t1.kind) (.int .i64 t1.n) (.string t1.name) (.slice x1 t1.kids.length y1) from BoxT.ext (by refine ⟨?_, ?_, ?_, ?_, ?_, ?_, ?_, ?_⟩ <;> go_simp) q)
      have B := Lib.hid (((Ext.alloc _ _).trans (Ext.alloc _ _)).trans q)
      have z1 : w.heap.size + 2 ≤ w1.heap.size := by have := Below.size q; simpa using this
      clear q
      obtain ⟨kc0, kc1, kc2, kc3, _, _, _, _⟩ := C.out
      go_wp2_with fail
      refine (Z1.out (1048576 - Tm.wt t0) (by omega) _ B.out).mono ?_
      rw [Y1.out]
      rintro e w2 ⟨rfl, q⟩
      clear kc0 kc1 kc2 kc3
      have z2 : w1.heap.size ≤ w2.heap.size := Below.size q
      have A := Lib.hid (A.out.ext q)
      have C := Lib.hid (C.out.ext q)
      have B := Lib.hid (B.out.trans q)
      clear q
      go_wp2_with fail
      go_ret
      exact ⟨rfl, B.out⟩
  · have Y0 := Lib.hid (leftF_no l0)
    go_enter Try.func5, Try.ntmps5
    go_wp2_with fail
    refine (Z0.out 1048576 (Nat.le_refl _) _ ((Ext.alloc _ _).trans (Ext.alloc _ _))).mono ?_
    rw [Y0.out]
    rintro e w1 ⟨rfl, q⟩
    have A := Lib.hid (show BoxT w1 w.heap.size (.int .i64 t0.kind) (.int .i64 t0.n) (.string t0.name) (.slice x0 t0.kids.length y0) from BoxT.ext (by refine ⟨?_, ?_, ?_, ?_, ?_, ?_, ?_, ?_⟩ <;> go_simp) q)
    have C := Lib.hid (show BoxT w1 (w.heap.size + 1) (.int .i64 t1.kind) (.int .i64 t1.n) (.string t1.name) (.slice x1 t1.kids.length y1) from BoxT.ext (by refine ⟨?_, ?_, ?_, ?_, ?_, ?_, ?_, ?_⟩ <;> go_simp) q)
    have B := Lib.hid (((Ext.alloc _ _).trans (Ext.alloc _ _)).trans q)
    have z1 : w.heap.size + 2 ≤ w1.heap.size := by have := Below.size q; simpa using this
    clear q
    go_wp2_with fail
    go_ret
    exact ⟨rfl, B.out⟩

set_option maxRecDepth 100000 in
theorem lifted (os : Os) (started : os.Started) (H : Type) (enc : TypeId × Value → H) :
    ReturnsInHanded {} Try.checked os 5 .any (Rows.fnExactGeneralizeSpec.pre6 enc Try.prog Try.f5 Rows.fnExactGeneralizeRow.domain false) (Rows.fnExactGeneralizeSpec.post enc Try.prog Try.f5 false true false false) := by
  refine returnsInHanded_of_change (C := Try.checked) own started (by kernel_rfl) Try.func5
    (ChangeSpec.witness6 (enc := enc) (C := Try.checked) false ⟨#[], #[.agg #[.int .i64 0, .int .i64 0, .string ByteArray.empty, .slice none 0 0], .agg #[.int .i64 0, .int .i64 0, .string ByteArray.empty, .slice none 0 0]], []⟩ 8 (by kernel_rfl) (by kernel_rfl) (by kernel_rfl) (by kernel_rfl)) ?_
  intro W base args ds gs before hval0 hW hcnd _
  have hval : ∀ (j : Nat) t v, Try.f5.params[j]? = some t → args[j]? = some v → Value.okWide Try.prog W .any base t v := hval0
  have hW' := hW
  obtain ⟨p, q, hA0, hV, rfl, hfz, hnd⟩ := hW
  have hA : DataW.TrodAll enc Try.prog W 0 (fun _ => true) true Try.f5.params.toList args.toList ds p := hA0
  rw [Try.params5] at hA hval
  obtain ⟨v0, vs0, d0, ds0, p0, q0, hargs, rfl, rfl, h0, r0⟩ := trodAll_cons hA
  obtain ⟨v1, vs1, d1, ds1, p1, q1, rfl, rfl, rfl, h1, r1⟩ := trodAll_cons r0
  obtain ⟨rfl, rfl, rfl⟩ := trodAll_nil r1
  obtain rfl : args = #[v0, v1] := by cases args; simp_all
  obtain ⟨rfl, rfl⟩ := trodVars_none hV
  have k0 := h0
  have lt0 : ∀ x ∈ p0, x.block < W.heap.size := by obtain ⟨m, hm⟩ := k0; exact DataW.trod_lt m _ _ _ hm
  have w0 := lterm_of_trod (hval 0 24 v0 rfl rfl) h0
  have k1 := h1
  have lt1 : ∀ x ∈ p1, x.block < W.heap.size := by obtain ⟨m, hm⟩ := k1; exact DataW.trod_lt m _ _ _ hm
  have w1 := lterm_of_trod (hval 1 24 v1 rfl rfl) h1
  clear hA0 hval0 hval
  refine (walk _ _ W w0 w1).mono fun e W' ⟨he, bel⟩ => ?_
  subst he
  exact ⟨_, rfl, _, _, _, [], _, [], hW', trodAll_mk1 (shut_bool Try.underlying4 _), (trodAll_cons_mk (Below.trod laidOut (by kernel_rfl) (of_decide_eq_true (by kernel_rfl)) k0 bel lt0) (trodAll_cons_mk (Below.trod laidOut (by kernel_rfl) (of_decide_eq_true (by kernel_rfl)) k1 bel lt1) trodAll_mk0)), rfl, bel.frame _, fun h => by cases h⟩

set_option maxRecDepth 100000 in
theorem over : Rows.fnExactGeneralizeRow.holds Try.pinned (OpenSpec.ofChange Rows.fnExactGeneralizeSpec) :=
  OpenClaim.holds_of_wide 5 Try.f5 rfl rfl rfl rfl rfl rfl rfl ⟨rfl, rfl, rfl, rfl, rfl⟩ rfl rfl rfl rfl rfl (by kernel_rfl) Try.func5 (by kernel_rfl)
    (of_decide_eq_true (by kernel_rfl)) (by unfold Func.isWrapper; first | (rw [if_pos (by decide +kernel)]; kernel_rfl) | (rw [if_neg (by decide +kernel)]; exact ⟨rfl, rfl⟩))
    (fun os started H enc _ => lifted os started H enc)

/-- the statement -/
theorem proved : Rows.FnExactGeneralizeSaid := over
end Go.Proofs.Yteplfajhmpmklaa.fnExactGeneralize
