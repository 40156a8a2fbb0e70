/-
  For every code FnUnifySelf returns true: a term unifies with itself, a variable with any term in which it does not stand.
-/
import Derived.Test.YtdelhgodhkbjdaaRows
import Derived.Test.YtdelhgodhkbjdaaMg50
import Derived.Test.YtdelhgodhkbjdaaMg51
import Derived.Test.YtdelhgodhkbjdaaMg44
import Derived.Test.YtdelhgodhkbjdaaMg56
import Derived.Test.YtdelhgodhkbjdaaMg26
import Derived.Deep.RegionHeld3
import Derived.BigQuiet
import Derived.ProofKit
import Derived.OpenShut
import Derived.ShutString
namespace Go.Proofs.Ytdelhgodhkbjdaa.fnUnifySelf
open Go.ChangeShapes Go.WideShapes Go.ChangeAt Go.RowKit
open Go.ChangeMaps (open_string shut_string)
set_option linter.unusedVariables false

theorem own : ownKnob Try.prog.godebug = none := by kernel_rfl
theorem laidOut : laidOutB Try.prog = true := by kernel_rfl

/-- what the operations of the last region yield, where the variable stands in the term -/
def US3 (u : Tm) (a : Option Addr) (c : Nat) (j : Nat) (v : Value) (w : World) : Prop :=
  if j = 0 ∨ j = 4 then v = val4 u a c else if j = 5 then IntsAt w (tvarsF u) v else if j = 2 ∨ j = 3 then v = .bool false else if 9 ≤ j ∧ j ≤ 29 then v = undef else v = .bool true
theorem US3.ext {u : Tm} {a : Option Addr} {c j : Nat} {v : Value} {w w' : World} (h : US3 u a c j v w) (e : Ext w w') : US3 u a c j v w' := by
  unfold US3 at h ⊢
  split
  · rename_i h1; rw [if_pos h1] at h; exact h
  · rename_i h1
    rw [if_neg h1] at h
    split
    · rename_i h2; rw [if_pos h2] at h; exact IntsAt.ext h e
    · rename_i h2; rw [if_neg h2] at h; exact h

set_option maxRecDepth 100000 in
set_option maxHeartbeats 8000000 in
theorem walk (v0 : Value) (w : World) (hv0 : BytesAt w v0) :
    Calls Try.prog 7 #[v0] w fun e w' => e = .returned (.bool true) ∧ Below w.heap.size w w' := by
  have HV := Lib.hid hv0
  obtain ⟨a, len, cap, rfl, h1, h2, h3⟩ := hv0
  clear h3
  by_cases hl : len ≤ 1048576
  · go_enter Try.func7, Try.ntmps7
    go_wp2_with fail
    refine (drawUnifyTerms _ _ HV.out).mono ?_
    rintro e w1 ⟨t, u, v1, v2, rfl, hv1, hv2, q⟩
    obtain ⟨a1, c1, rfl⟩ := at_form hv1
    obtain ⟨a2, c2, rfl⟩ := at_form hv2
    have B := Lib.hid q
    have V := Lib.hid hv1
    have U := Lib.hid hv2
    clear hv1 hv2 q
    have e0 := Ext.alloc w1 (.cells #[.int .i64 t.kind, .int .i64 t.n, .string t.name, .slice a1 t.kids.length c1] 25)
    have e1 := Ext.alloc (w1.alloc (.cells #[.int .i64 t.kind, .int .i64 t.n, .string t.name, .slice a1 t.kids.length c1] 25)) (.cells #[.int .i64 u.kind, .int .i64 u.n, .string u.name, .slice a2 u.kids.length c2] 25)
    have y0 := ((BoxT.new w1 (.int .i64 t.kind) (.int .i64 t.n) (.string t.name) (.slice a1 t.kids.length c1) 25 (b := w1.heap.size) rfl).ext e1)
    have y1 := (BoxT.new (w1.alloc (.cells #[.int .i64 t.kind, .int .i64 t.n, .string t.name, .slice a1 t.kids.length c1] 25)) (.int .i64 u.kind) (.int .i64 u.n) (.string u.name) (.slice a2 u.kids.length c2) 25 (b := w1.heap.size + 1) (by simp))
    have q := (e0.trans e1)
    have B := Lib.hid (B.out.trans q)
    have V := Lib.hid (Tm.at_ext q V.out)
    have U := Lib.hid (Tm.at_ext q U.out)
    have X := Lib.hid y0
    have Y := Lib.hid y1
    clear q e0 e1 y0 y1
    obtain ⟨bt, hbt⟩ : ∃ b, validF t = b := ⟨_, rfl⟩
    have HBT := Lib.hid hbt
    clear hbt
    have hnn : (bt != bt) = false := by simp
    have UT := Lib.hid (ut_self t)
    obtain ⟨kx0, kx1, kx2, kx3, _, _, _, _⟩ := X.out
    go_wp2_with fail
    refine (calls_bd (implUnifyTerms t t _ _ _ _ V.out V.out) UT.out.2 (UT.out.1.trans HBT.out)).mono ?_
    rintro e w2 ⟨a3, c3, rfl, ho, q⟩
    clear kx0 kx1 kx2 kx3
    have B := Lib.hid (B.out.trans q)
    have V := Lib.hid (Tm.at_ext q V.out)
    have U := Lib.hid (Tm.at_ext q U.out)
    have X := Lib.hid (X.out.ext q)
    have Y := Lib.hid (Y.out.ext q)
    clear q
    have P1 := Lib.hid ho
    clear ho
    obtain ⟨kx0, kx1, kx2, kx3, _, _, _, _⟩ := X.out
    go_wp2_with fail
    refine (calls_bd (specUnifyTerms t t _ _ _ _ V.out V.out) UT.out.2 (UT.out.1.trans HBT.out)).mono ?_
    rintro e w3 ⟨a4, c4, rfl, ho, q⟩
    clear kx0 kx1 kx2 kx3
    have B := Lib.hid (B.out.trans q)
    have V := Lib.hid (Tm.at_ext q V.out)
    have U := Lib.hid (Tm.at_ext q U.out)
    have X := Lib.hid (X.out.ext q)
    have Y := Lib.hid (Y.out.ext q)
    have P1 := Lib.hid (OwnB.ext P1.out q)
    clear q
    have P2 := Lib.hid ho
    clear ho
    have e0 := Ext.alloc w3 (.cells #[.int .i64 1, .int .i64 25, .string ⟨#[]⟩, .slice none 0 0] 25)
    have y0 := (BoxT.new w3 (.int .i64 1) (.int .i64 25) (.string ⟨#[]⟩) (.slice none 0 0) 25 (b := w3.heap.size) rfl)
    have q := e0
    have B := Lib.hid (B.out.trans q)
    have V := Lib.hid (Tm.at_ext q V.out)
    have U := Lib.hid (Tm.at_ext q U.out)
    have X := Lib.hid (X.out.ext q)
    have Y := Lib.hid (Y.out.ext q)
    have P1 := Lib.hid (OwnB.ext P1.out q)
    have P2 := Lib.hid (OwnB.ext P2.out q)
    have Z := Lib.hid y0
    clear q e0 y0
    obtain ⟨r3, hr3⟩ : ∃ r, utR (varT 25) u = r := ⟨_, rfl⟩
    obtain ⟨b3, hb3⟩ : ∃ b, utB (varT 25) u = b := ⟨_, rfl⟩
    have HR3 := Lib.hid hr3
    have HB3 := Lib.hid hb3
    clear hr3 hb3
    obtain ⟨kx0, kx1, kx2, kx3, _, _, _, _⟩ := X.out
    obtain ⟨ky0, ky1, ky2, ky3, _, _, _, _⟩ := Y.out
    obtain ⟨kz0, kz1, kz2, kz3, _, _, _, _⟩ := Z.out
    go_wp2_with fail
    refine (calls_bd (implUnifyTerms (varT 25) u _ _ _ _ (var_at (S := fun _ => True) 25) (Tm.at_mono (fun _ _ => trivial) (Agree.refl _) U.out)) HR3.out HB3.out).mono ?_
    rintro e w4 ⟨a5, c5, rfl, ho, q⟩
    clear kx0 kx1 kx2 kx3
    clear ky0 ky1 ky2 ky3
    clear kz0 kz1 kz2 kz3
    have B := Lib.hid (B.out.trans q)
    have V := Lib.hid (Tm.at_ext q V.out)
    have U := Lib.hid (Tm.at_ext q U.out)
    have X := Lib.hid (X.out.ext q)
    have Y := Lib.hid (Y.out.ext q)
    have Z := Lib.hid (Z.out.ext q)
    have P1 := Lib.hid (OwnB.ext P1.out q)
    have P2 := Lib.hid (OwnB.ext P2.out q)
    clear q
    have P3 := Lib.hid ho
    clear ho
    obtain ⟨kx0, kx1, kx2, kx3, _, _, _, _⟩ := X.out
    obtain ⟨ky0, ky1, ky2, ky3, _, _, _, _⟩ := Y.out
    go_wp2_with fail
    refine (lawspgBinds [] _ _ _ _ _ (OwnB.sl P1.out (by simp)) (OwnB.sl P2.out (by simp))).mono ?_
    rintro e w5 ⟨rfl, q⟩
    clear kx0 kx1 kx2 kx3
    clear ky0 ky1 ky2 ky3
    have B := Lib.hid (B.out.trans q)
    have V := Lib.hid (Tm.at_ext q V.out)
    have U := Lib.hid (Tm.at_ext q U.out)
    have X := Lib.hid (X.out.ext q)
    have Y := Lib.hid (Y.out.ext q)
    have Z := Lib.hid (Z.out.ext q)
    have P1 := Lib.hid (OwnB.ext P1.out q)
    have P2 := Lib.hid (OwnB.ext P2.out q)
    have P3 := Lib.hid (OwnB.ext P3.out q)
    clear q
    obtain ⟨kx0, kx1, kx2, kx3, _, _, _, _⟩ := X.out
    obtain ⟨ky0, ky1, ky2, ky3, _, _, _, _⟩ := Y.out
    go_wp2_with fail
    refine (calls_bo (implTermValid t _ _ _ V.out) HBT.out).mono ?_
    rintro e w6 ⟨rfl, q⟩
    clear kx0 kx1 kx2 kx3
    clear ky0 ky1 ky2 ky3
    have B := Lib.hid (B.out.trans q)
    have V := Lib.hid (Tm.at_ext q V.out)
    have U := Lib.hid (Tm.at_ext q U.out)
    have X := Lib.hid (X.out.ext q)
    have Y := Lib.hid (Y.out.ext q)
    have Z := Lib.hid (Z.out.ext q)
    have P1 := Lib.hid (OwnB.ext P1.out q)
    have P2 := Lib.hid (OwnB.ext P2.out q)
    have P3 := Lib.hid (OwnB.ext P3.out q)
    clear q
    have HVT := Lib.hid (fun w' (e' : Ext w6 w') => implTermValid u _ _ w' (Tm.at_ext e' U.out))
    have HTV := Lib.hid (fun w' (e' : Ext w6 w') => implTermVars u _ _ w' (Tm.at_ext e' U.out))
    cases hu : validF u
    · have HU := Lib.hid hu
      clear hu
      obtain ⟨ky0, ky1, ky2, ky3, _, _, _, _⟩ := Y.out
      have cQ := quiet_call (w := w6) (fun w' e' => calls_bo (HVT.out w' e') HU.out)
      have k0 := cell_regrown ky0
      have k1 := cell_regrown ky1
      have k2 := cell_regrown ky2
      have k3 := cell_regrown ky3
      go_wp2_with fail
      refine region_ext (by kernel_rfl) (by kernel_rfl) ?_
      repeat (go_big_quiet_step (exact cQ _ _))
      refine wpQuiet_nil ?_
      intro wq eq
      go_wp2_with fail
      go_ret
      exact ⟨rfl, B.out.trans eq⟩
    · have HU := Lib.hid hu
      clear hu
      cases hn : hasI (tvarsF u) 25
      · have HN := Lib.hid hn
        have hq := ut_var HU.out hn
        clear hn
        obtain rfl : b3 = true := HB3.out.symm.trans hq.1
        obtain rfl : r3 = [⟨25, u⟩] := HR3.out.symm.trans hq.2
        clear hq
        obtain ⟨bb, off, ak, ck, rfl, d0, d1, d2, d3, d4, hc5, d5⟩ := one_at P3.out
        change _ = some (Value.int .i64 25) at d0
        change _ = some (Value.int .i64 u.kind) at d1
        change _ = some (Value.int .i64 u.n) at d2
        change _ = some (Value.string u.name) at d3
        change _ = some (Value.slice ak u.kids.length ck) at d4
        have HTS := Lib.hid (fun w' (e' : Ext w6 w') => calls_bo (implTermSame _ u u _ _ _ _ w' (Nat.le_refl _) (Tm.at_ext e' d5) (Tm.at_ext e' U.out)) (same_refl u))
        clear d5
        obtain ⟨ky0, ky1, ky2, ky3, _, _, _, _⟩ := Y.out
        go_wp2_with fail
        go_region_held3 (fun w' => Ext w6 w' ∧ w'.cell? ⟨w1.heap.size + 1, 0, none⟩ = some (.int .i64 u.kind) ∧ w'.cell? ⟨w1.heap.size + 1, 1, none⟩ = some (.int .i64 u.n) ∧ w'.cell? ⟨w1.heap.size + 1, 2, none⟩ = some (.string u.name) ∧ w'.cell? ⟨w1.heap.size + 1, 3, none⟩ = some (.slice a2 u.kids.length c2) ∧ w'.cell? ⟨bb, off, none⟩ = some (.int .i64 25) ∧ w'.cell? ⟨bb, off + 1, none⟩ = some (.int .i64 u.kind) ∧ w'.cell? ⟨bb, off + 2, none⟩ = some (.int .i64 u.n) ∧ w'.cell? ⟨bb, off + 3, none⟩ = some (.string u.name) ∧ w'.cell? ⟨bb, off + 4, none⟩ = some (.slice ak u.kids.length ck))
          ((refine ⟨?_, ?_, ?_, ?_, ?_, ?_, ?_, ?_, ?_, ?_⟩ <;> first | with_reducible assumption | with_reducible exact Ext.drew _ | exact Ext.drew _ | (with_reducible (apply Ext.cell; assumption; assumption)) | (with_reducible (apply Ext.trans'; assumption; assumption)) | (with_reducible (apply Ext.cell; apply Ext.trans'; assumption; assumption; assumption)) | (with_reducible (apply Ext.trans'; assumption; apply Ext.trans'; assumption; assumption)) | (with_reducible (apply Ext.cell; apply Ext.trans'; assumption; apply Ext.trans'; assumption; assumption; assumption)) | assumption))
          (first
            | (go_at_call 14; refine (calls_bo (HVT.out _ ?_) HU.out).mono ?_; (exact And.left (by assumption)); rintro e wa ⟨rfl, e1⟩; try replace e1 := Ext.undrew e1)
            | (go_at_call 23; refine (HTV.out _ ?_).mono ?_; (exact And.left (by assumption)); rintro e wb ⟨vb, rfl, hI, e2⟩; (try replace e2 := Ext.undrew e2); replace e2 := Ext.trans e1 e2)
            | (go_at_call 22; refine (calls_eqw (lawspgIn _ _ _ _ (by first | exact IntI.ints hI | exact IntI.ints (IntI.ext hI (Ext.drew _)))) HN.out).mono ?_; rintro e wc ⟨rfl, e3⟩; (try replace e3 := Ext.undrew e3); replace e3 := Ext.trans e2 e3)
            | (go_at_call 24; refine (HTS.out _ ?_).mono ?_; (exact And.left (by assumption)); rintro e wd ⟨rfl, e4⟩; (try replace e4 := Ext.undrew e4); replace e4 := Ext.trans e3 e4))
        go_wp2_with fail
        go_ret
        exact ⟨rfl, B.out.trans e4⟩
      · have HN := Lib.hid hn
        clear hn
        obtain ⟨ky0, ky1, ky2, ky3, _, _, _, _⟩ := Y.out
        go_wp2_with fail
        refine wp_region_relies (by kernel_rfl) (by kernel_rfl) (by kernel_rfl) (fun _ _ w' => Ext w6 w') (US3 u a2 c2) (Ext.drew _) ?hs3 ?he3
        case hs3 =>
          refine .cons ?h0 (.cons ?h1 (.cons ?h2 (.cons ?h3 (.cons ?h4 (.cons ?h5 (.cons ?h6 (.cons ?h7 (.cons ?h8 (.cons ?h9 (.cons ?h10 (.cons ?h11 (.cons ?h12 (.cons ?h13 (.cons ?h14 (.cons ?h15 (.cons ?h16 (.cons ?h17 (.cons ?h18 (.cons ?h19 (.cons ?h20 (.cons ?h21 (.cons ?h22 (.cons ?h23 (.cons ?h24 (.cons ?h25 (.cons ?h26 (.cons ?h27 (.cons ?h28 (.cons ?h29 (.cons ?h30 (.cons ?h31 .nil)))))))))))))))))))))))))))))))
          case h0 =>
            intro A D vs w5 old dep hnd hcl hlt hG K hK
            have s4 := old 4 (by kernel_rfl)
            simp only [List.getElem?_toArray, List.getElem?_cons_succ, List.getElem?_cons_zero] at s4
            have q0 := hG.cell ky0
            have q1 := hG.cell ky1
            have q2 := hG.cell ky2
            have q3 := hG.cell ky3
            go_simp
            exact hK _ _ hG (fun _ _ _ h => h) rfl
          case h1 =>
            intro A D vs w5 old dep hnd hcl hlt hG K hK
            obtain ⟨_, e0, j0⟩ := dep 0 (by kernel_rfl)
            replace j0 := j0 59 (by kernel_rfl) (by simp)
            replace e0 : vs 0 = val4 u a2 c2 := e0
            rw [e0] at j0
            unfold val4 at j0
            go_simp
            go_at_call 14
            refine (calls_bo (HVT.out _ hG) HU.out).mono ?_
            rintro e w6 ⟨rfl, e6⟩
            exact hK _ _ (hG.trans e6) (fun j x _ h => US3.ext h e6) rfl
          case h2 =>
            intro A D vs w5 old dep hnd hcl hlt hG K hK
            obtain ⟨_, e1, j1⟩ := dep 1 (by kernel_rfl)
            replace j1 := j1 60 (by kernel_rfl) (by simp)
            replace e1 : vs 1 = .bool true := e1
            rw [e1] at j1
            go_simp
            exact hK _ _ hG (fun _ _ _ h => h) rfl
          case h3 =>
            intro A D vs w5 old dep hnd hcl hlt hG K hK
            obtain ⟨_, e2, j2⟩ := dep 2 (by kernel_rfl)
            replace j2 := j2 61 (by kernel_rfl) (by simp)
            replace e2 : vs 2 = .bool false := e2
            rw [e2] at j2
            go_simp
            exact hK _ _ hG (fun _ _ _ h => h) rfl
          case h4 =>
            intro A D vs w5 old dep hnd hcl hlt hG K hK
            obtain ⟨_, e3, j3⟩ := dep 3 (by kernel_rfl)
            replace j3 := j3 62 (by kernel_rfl) (by simp)
            replace e3 : vs 3 = .bool false := e3
            rw [e3] at j3
            have s4 := old 4 (by kernel_rfl)
            simp only [List.getElem?_toArray, List.getElem?_cons_succ, List.getElem?_cons_zero] at s4
            have q0 := hG.cell ky0
            have q1 := hG.cell ky1
            have q2 := hG.cell ky2
            have q3 := hG.cell ky3
            go_simp
            exact hK _ _ hG (fun _ _ _ h => h) rfl
          case h5 =>
            intro A D vs w5 old dep hnd hcl hlt hG K hK
            obtain ⟨_, e3, j3⟩ := dep 3 (by kernel_rfl)
            replace j3 := j3 62 (by kernel_rfl) (by simp)
            replace e3 : vs 3 = .bool false := e3
            rw [e3] at j3
            obtain ⟨_, e4, j4⟩ := dep 4 (by kernel_rfl)
            replace j4 := j4 63 (by kernel_rfl) (by simp)
            replace e4 : vs 4 = val4 u a2 c2 := e4
            rw [e4] at j4
            unfold val4 at j4
            go_simp
            go_at_call 23
            refine (HTV.out _ hG).mono ?_
            rintro e w6 ⟨vb, rfl, hI, e6⟩
            exact hK _ _ (hG.trans e6) (fun j x _ h => US3.ext h e6) (IntI.ints hI)
          case h6 =>
            intro A D vs w5 old dep hnd hcl hlt hG K hK
            obtain ⟨_, e3, j3⟩ := dep 3 (by kernel_rfl)
            replace j3 := j3 62 (by kernel_rfl) (by simp)
            replace e3 : vs 3 = .bool false := e3
            rw [e3] at j3
            obtain ⟨_, e5, j5⟩ := dep 5 (by kernel_rfl)
            replace j5 := j5 64 (by kernel_rfl) (by simp)
            go_simp
            go_at_call 22
            refine (calls_eqw (lawspgIn _ _ _ _ e5) HN.out).mono ?_
            rintro e w6 ⟨rfl, e6⟩
            exact hK _ _ (hG.trans e6) (fun j x _ h => US3.ext h e6) rfl
          case h7 =>
            intro A D vs w5 old dep hnd hcl hlt hG K hK
            obtain ⟨_, e3, j3⟩ := dep 3 (by kernel_rfl)
            replace j3 := j3 62 (by kernel_rfl) (by simp)
            replace e3 : vs 3 = .bool false := e3
            rw [e3] at j3
            obtain ⟨_, e6, j6⟩ := dep 6 (by kernel_rfl)
            replace j6 := j6 65 (by kernel_rfl) (by simp)
            replace e6 : vs 6 = .bool true := e6
            rw [e6] at j6
            go_simp
            exact hK _ _ hG (fun _ _ _ h => h) rfl
          case h8 =>
            intro A D vs w5 old dep hnd hcl hlt hG K hK
            obtain ⟨_, e7, j7⟩ := dep 7 (by kernel_rfl)
            replace j7 := j7 66 (by kernel_rfl) (by simp)
            replace e7 : vs 7 = .bool true := e7
            rw [e7] at j7
            go_simp
            exact hK _ _ hG (fun _ _ _ h => h) rfl
          case h9 =>
            intro A D vs w5 old dep hnd hcl hlt hG K hK
            obtain ⟨_, e8, j8⟩ := dep 8 (by kernel_rfl)
            replace j8 := j8 67 (by kernel_rfl) (by simp)
            replace e8 : vs 8 = .bool true := e8
            rw [e8] at j8
            go_simp
            exact hK _ _ hG (fun _ _ _ h => h) rfl
          case h10 =>
            intro A D vs w5 old dep hnd hcl hlt hG K hK
            obtain ⟨_, e8, j8⟩ := dep 8 (by kernel_rfl)
            replace j8 := j8 67 (by kernel_rfl) (by simp)
            replace e8 : vs 8 = .bool true := e8
            rw [e8] at j8
            go_simp
            exact hK _ _ hG (fun _ _ _ h => h) rfl
          case h11 =>
            intro A D vs w5 old dep hnd hcl hlt hG K hK
            obtain ⟨_, e10, j10⟩ := dep 10 (by kernel_rfl)
            replace j10 := j10 69 (by kernel_rfl) (by simp)
            replace e10 : vs 10 = undef := e10
            rw [e10] at j10
            go_simp
            exact hK _ _ hG (fun _ _ _ h => h) rfl
          case h12 =>
            intro A D vs w5 old dep hnd hcl hlt hG K hK
            obtain ⟨_, e10, j10⟩ := dep 10 (by kernel_rfl)
            replace j10 := j10 69 (by kernel_rfl) (by simp)
            replace e10 : vs 10 = undef := e10
            rw [e10] at j10
            go_simp
            exact hK _ _ hG (fun _ _ _ h => h) rfl
          case h13 =>
            intro A D vs w5 old dep hnd hcl hlt hG K hK
            obtain ⟨_, e10, j10⟩ := dep 10 (by kernel_rfl)
            replace j10 := j10 69 (by kernel_rfl) (by simp)
            replace e10 : vs 10 = undef := e10
            rw [e10] at j10
            go_simp
            exact hK _ _ hG (fun _ _ _ h => h) rfl
          case h14 =>
            intro A D vs w5 old dep hnd hcl hlt hG K hK
            obtain ⟨_, e8, j8⟩ := dep 8 (by kernel_rfl)
            replace j8 := j8 67 (by kernel_rfl) (by simp)
            replace e8 : vs 8 = .bool true := e8
            rw [e8] at j8
            go_simp
            exact hK _ _ hG (fun _ _ _ h => h) rfl
          case h15 =>
            intro A D vs w5 old dep hnd hcl hlt hG K hK
            obtain ⟨_, e8, j8⟩ := dep 8 (by kernel_rfl)
            replace j8 := j8 67 (by kernel_rfl) (by simp)
            replace e8 : vs 8 = .bool true := e8
            rw [e8] at j8
            go_simp
            exact hK _ _ hG (fun _ _ _ h => h) rfl
          case h16 =>
            intro A D vs w5 old dep hnd hcl hlt hG K hK
            obtain ⟨_, e15, j15⟩ := dep 15 (by kernel_rfl)
            replace j15 := j15 74 (by kernel_rfl) (by simp)
            replace e15 : vs 15 = undef := e15
            rw [e15] at j15
            go_simp
            exact hK _ _ hG (fun _ _ _ h => h) rfl
          case h17 =>
            intro A D vs w5 old dep hnd hcl hlt hG K hK
            obtain ⟨_, e15, j15⟩ := dep 15 (by kernel_rfl)
            replace j15 := j15 74 (by kernel_rfl) (by simp)
            replace e15 : vs 15 = undef := e15
            rw [e15] at j15
            go_simp
            exact hK _ _ hG (fun _ _ _ h => h) rfl
          case h18 =>
            intro A D vs w5 old dep hnd hcl hlt hG K hK
            obtain ⟨_, e15, j15⟩ := dep 15 (by kernel_rfl)
            replace j15 := j15 74 (by kernel_rfl) (by simp)
            replace e15 : vs 15 = undef := e15
            rw [e15] at j15
            go_simp
            exact hK _ _ hG (fun _ _ _ h => h) rfl
          case h19 =>
            intro A D vs w5 old dep hnd hcl hlt hG K hK
            obtain ⟨_, e15, j15⟩ := dep 15 (by kernel_rfl)
            replace j15 := j15 74 (by kernel_rfl) (by simp)
            replace e15 : vs 15 = undef := e15
            rw [e15] at j15
            go_simp
            exact hK _ _ hG (fun _ _ _ h => h) rfl
          case h20 =>
            intro A D vs w5 old dep hnd hcl hlt hG K hK
            obtain ⟨_, e15, j15⟩ := dep 15 (by kernel_rfl)
            replace j15 := j15 74 (by kernel_rfl) (by simp)
            replace e15 : vs 15 = undef := e15
            rw [e15] at j15
            go_simp
            exact hK _ _ hG (fun _ _ _ h => h) rfl
          case h21 =>
            intro A D vs w5 old dep hnd hcl hlt hG K hK
            obtain ⟨_, e8, j8⟩ := dep 8 (by kernel_rfl)
            replace j8 := j8 67 (by kernel_rfl) (by simp)
            replace e8 : vs 8 = .bool true := e8
            rw [e8] at j8
            go_simp
            exact hK _ _ hG (fun _ _ _ h => h) rfl
          case h22 =>
            intro A D vs w5 old dep hnd hcl hlt hG K hK
            obtain ⟨_, e8, j8⟩ := dep 8 (by kernel_rfl)
            replace j8 := j8 67 (by kernel_rfl) (by simp)
            replace e8 : vs 8 = .bool true := e8
            rw [e8] at j8
            go_simp
            exact hK _ _ hG (fun _ _ _ h => h) rfl
          case h23 =>
            intro A D vs w5 old dep hnd hcl hlt hG K hK
            obtain ⟨_, e22, j22⟩ := dep 22 (by kernel_rfl)
            replace j22 := j22 81 (by kernel_rfl) (by simp)
            replace e22 : vs 22 = undef := e22
            rw [e22] at j22
            go_simp
            exact hK _ _ hG (fun _ _ _ h => h) rfl
          case h24 =>
            intro A D vs w5 old dep hnd hcl hlt hG K hK
            obtain ⟨_, e22, j22⟩ := dep 22 (by kernel_rfl)
            replace j22 := j22 81 (by kernel_rfl) (by simp)
            replace e22 : vs 22 = undef := e22
            rw [e22] at j22
            go_simp
            exact hK _ _ hG (fun _ _ _ h => h) rfl
          case h25 =>
            intro A D vs w5 old dep hnd hcl hlt hG K hK
            obtain ⟨_, e22, j22⟩ := dep 22 (by kernel_rfl)
            replace j22 := j22 81 (by kernel_rfl) (by simp)
            replace e22 : vs 22 = undef := e22
            rw [e22] at j22
            go_simp
            exact hK _ _ hG (fun _ _ _ h => h) rfl
          case h26 =>
            intro A D vs w5 old dep hnd hcl hlt hG K hK
            obtain ⟨_, e22, j22⟩ := dep 22 (by kernel_rfl)
            replace j22 := j22 81 (by kernel_rfl) (by simp)
            replace e22 : vs 22 = undef := e22
            rw [e22] at j22
            go_simp
            exact hK _ _ hG (fun _ _ _ h => h) rfl
          case h27 =>
            intro A D vs w5 old dep hnd hcl hlt hG K hK
            obtain ⟨_, e22, j22⟩ := dep 22 (by kernel_rfl)
            replace j22 := j22 81 (by kernel_rfl) (by simp)
            replace e22 : vs 22 = undef := e22
            rw [e22] at j22
            go_simp
            exact hK _ _ hG (fun _ _ _ h => h) rfl
          case h28 =>
            intro A D vs w5 old dep hnd hcl hlt hG K hK
            obtain ⟨_, e22, j22⟩ := dep 22 (by kernel_rfl)
            replace j22 := j22 81 (by kernel_rfl) (by simp)
            replace e22 : vs 22 = undef := e22
            rw [e22] at j22
            go_simp
            exact hK _ _ hG (fun _ _ _ h => h) rfl
          case h29 =>
            intro A D vs w5 old dep hnd hcl hlt hG K hK
            obtain ⟨_, e8, j8⟩ := dep 8 (by kernel_rfl)
            replace j8 := j8 67 (by kernel_rfl) (by simp)
            replace e8 : vs 8 = .bool true := e8
            rw [e8] at j8
            go_simp
            exact hK _ _ hG (fun _ _ _ h => h) rfl
          case h30 =>
            intro A D vs w5 old dep hnd hcl hlt hG K hK
            obtain ⟨_, e8, j8⟩ := dep 8 (by kernel_rfl)
            replace j8 := j8 67 (by kernel_rfl) (by simp)
            replace e8 : vs 8 = .bool true := e8
            rw [e8] at j8
            obtain ⟨_, e29, j29⟩ := dep 29 (by kernel_rfl)
            replace j29 := j29 88 (by kernel_rfl) (by simp)
            replace e29 : vs 29 = undef := e29
            rw [e29] at j29
            go_simp
            exact hK _ _ hG (fun _ _ _ h => h) rfl
          case h31 =>
            intro A D vs w5 old dep hnd hcl hlt hG K hK
            obtain ⟨_, e30, j30⟩ := dep 30 (by kernel_rfl)
            replace j30 := j30 89 (by kernel_rfl) (by simp)
            replace e30 : vs 30 = .bool true := e30
            rw [e30] at j30
            go_simp
            exact hK _ _ hG (fun _ _ _ h => h) rfl
        case he3 =>
          intro D vs wz hD q hφ
          have h31 : vs 31 = .bool true := hφ 31 (by show 31 < 32; decide)
          simp only [putO, Act.put, List.setIfInBounds_toArray, List.set_cons_zero, List.set_cons_succ]
          rw [h31]
          clear hφ hD
          go_wp2_with fail
          go_ret
          exact ⟨rfl, B.out.trans q⟩
  · go_enter Try.func7, Try.ntmps7
    go_wp2_with fail
    go_ret
    exact ⟨rfl, Below.refl _ _⟩


set_option maxRecDepth 100000 in
theorem lifted (os : Os) (started : os.Started) (H : Type) (enc : TypeId × Value → H) :
    ReturnsInHanded {} Try.checked os 7 .any (Rows.fnUnifySelfSpec.pre6 enc Try.prog Try.f7 Rows.fnUnifySelfRow.domain false) (Rows.fnUnifySelfSpec.post enc Try.prog Try.f7 false true false false) := by
  refine returnsInHanded_of_change (C := Try.checked) own started (by kernel_rfl) Try.func7
    (ChangeSpec.witness6 (enc := enc) (C := Try.checked) false ⟨#[], #[.slice none 0 0], []⟩ 8 (by kernel_rfl) (by kernel_rfl) (by kernel_rfl) (by kernel_rfl)) ?_
  intro W base args ds gs before hval0 hW hcnd _
  have hval : ∀ (j : Nat) t v, Try.f7.params[j]? = some t → args[j]? = some v → Value.okWide Try.prog W .any base t v := hval0
  have hW' := hW
  obtain ⟨p, q, hA0, hV, rfl, hfz, hnd⟩ := hW
  have hA : DataW.TrodAll enc Try.prog W 0 (fun _ => true) true Try.f7.params.toList args.toList ds p := hA0
  rw [Try.params7] at hA hval
  obtain ⟨v0, vs0, d0, ds0, p0, q0, hargs, rfl, rfl, h0, r0⟩ := trodAll_cons hA
  obtain ⟨rfl, rfl, rfl⟩ := trodAll_nil r0
  obtain rfl : args = #[v0] := by cases args; simp_all
  obtain ⟨rfl, rfl⟩ := trodVars_none hV
  have k0 := h0
  have lt0 : ∀ x ∈ p0, x.block < W.heap.size := by obtain ⟨m, hm⟩ := k0; exact DataW.trod_lt m _ _ _ hm
  obtain ⟨a0, len0, cap0, rfl⟩ := okWide_slice Try.underlying22 (hval 0 22 v0 rfl rfl)
  have w0 := bytes_of_trod h0
  clear hA0 hval0 hval
  refine (walk _ W w0).mono fun e W' ⟨he, bel⟩ => ?_
  subst he
  exact ⟨_, rfl, _, _, _, [], _, [], hW', trodAll_mk1 (shut_bool Try.underlying4 _), (trodAll_cons_mk (Below.trod laidOut (by kernel_rfl) (of_decide_eq_true (by kernel_rfl)) k0 bel lt0) trodAll_mk0), rfl, bel.frame _, fun h => by cases h⟩

set_option maxRecDepth 100000 in
theorem over : Rows.fnUnifySelfRow.holds Try.pinned (OpenSpec.ofChange Rows.fnUnifySelfSpec) :=
  OpenClaim.holds_of_wide 7 Try.f7 rfl rfl rfl rfl rfl rfl rfl ⟨rfl, rfl, rfl, rfl, rfl⟩ rfl rfl rfl rfl rfl (by kernel_rfl) Try.func7 (by kernel_rfl)
    (of_decide_eq_true (by kernel_rfl)) (by unfold Func.isWrapper; first | (rw [if_pos (by decide +kernel)]; kernel_rfl) | (rw [if_neg (by decide +kernel)]; exact ⟨rfl, rfl⟩))
    (fun os started H enc _ => lifted os started H enc)

/-- the statement -/
theorem proved : Rows.FnUnifySelfSaid := over
end Go.Proofs.Ytdelhgodhkbjdaa.fnUnifySelf
