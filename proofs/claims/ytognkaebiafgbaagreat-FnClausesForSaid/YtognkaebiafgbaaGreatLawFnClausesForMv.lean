/-
  For every code FnClausesFor returns true: the program and the reference find the same clauses for a goal; a clause whose head unifies with a goal is found, and what is found bears the goal's name.
-/
import Derived.Test.YtognkaebiafgbaaGreatRows
import Derived.Deep.RegionHeld3
import Derived.BigQuiet
import Derived.ProofKit
import Derived.OpenShut
import Derived.Test.YtognkaebiafgbaaGreatMv42
import Derived.Test.YtognkaebiafgbaaGreatMv51
import Derived.Test.YtognkaebiafgbaaGreatMv14
namespace Go.Proofs.YtognkaebiafgbaaGreat.fnClausesFor
open Go.ChangeShapes Go.WideShapes Go.ChangeAt Go.RowKit
open Go.ChangeMaps (open_string shut_string)
set_option linter.unusedVariables false
theorem own : ownKnob Tryz.prog.godebug = none := by kernel_rfl
theorem laidOut : laidOutB Tryz.prog = true := by kernel_rfl
theorem pg_ext {P : Program} {f : FuncId} {args : Array Value} {w : World} {zs : List Int} {x : Int} {m : Bool} (h : Calls P f args w fun e w' => e = .returned (.bool (hasI zs x)) ∧ w = w') (hm : hasI zs x = m) : Calls P f args w fun e w' => e = .returned (.bool m) ∧ Ext w w' :=
  h.mono fun e w' ⟨h1, h2⟩ => ⟨by rw [h1, hm], h2 ▸ Ext.refl _⟩
theorem eqI_self (zs : List Int) : eqI zs zs = true := by unfold eqI; simp
set_option maxRecDepth 100000 in
set_option maxHeartbeats 8000000 in
theorem walk (v0 : Value) (w : World) (hv0 : BytesAt w v0) :
    Calls Tryz.prog 3 #[v0] w fun e w' => e = .returned (.bool true) ∧ Below w.heap.size w w' := by
  have HV0 := Lib.hid hv0
  obtain ⟨a, len, cap, rfl, h1, h2, h3⟩ := hv0
  clear h3
  by_cases hl : len ≤ 1048576
  · go_enter Tryz.func3, Tryz.ntmps3
    go_wp2_with fail
    refine (drawClausesFor _ _ HV0.out).mono ?_
    rintro e w1 ⟨ds, g, o, c, t, u, rfl, hd, hsl, hat, e1⟩
    obtain ⟨ag, cg, rfl⟩ := at_form hat
    have ea := Ext.alloc w1 (.cells #[.int .i64 t.kind, .int .i64 t.n, .string t.name, .slice ag t.kids.length cg] 26)
    have XG := Lib.hid (BoxT.new w1 (.int .i64 t.kind) (.int .i64 t.n) (.string t.name) (.slice ag t.kids.length cg) 26 rfl)
    have D := Lib.hid (Cl.sl_ext ea hsl)
    have G := Lib.hid (Tm.at_ext ea hat)
    have B := Lib.hid (e1.trans ea)
    clear e1 ea hat hsl
    go_wp2_with fail
    refine (implClausesFor ds t _ _ _ _ _ D.out G.out).mono ?_
    rintro e w2 ⟨vl, rfl, hI, e2⟩
    have D := Lib.hid (Cl.sl_ext e2 D.out)
    have G := Lib.hid (Tm.at_ext e2 G.out)
    have XG := Lib.hid (XG.out.ext e2)
    have B := Lib.hid (B.out.trans e2)
    have L := Lib.hid (IntI.ints hI)
    clear hI e2
    obtain ⟨al, cl, rfl, hl1, hl2, hl3, _⟩ := L.out
    obtain ⟨b0, b1, b2, b3, _, _, _, _⟩ := XG.out
    go_wp2_with fail
    refine (specClausesFor ds t _ _ _ _ _ D.out G.out).mono ?_
    rintro e w3 ⟨v3, rfl, hI3, e3⟩
    have L3 := Lib.hid (IntI.ints hI3)
    have D := Lib.hid (Cl.sl_ext e3 D.out)
    have G := Lib.hid (Tm.at_ext e3 G.out)
    have XG := Lib.hid (XG.out.ext e3)
    have B := Lib.hid (B.out.trans e3)
    have L := Lib.hid (IntsAt.ext L.out e3)
    clear e3 hI3 b0 b1 b2 b3
    obtain ⟨b0, b1, b2, b3, _, _, _, _⟩ := XG.out
    go_wp2_with fail
    refine (lawspgInts _ _ _ _ _ L.out L3.out).mono ?_
    rw [eqI_self]
    rintro e w4 ⟨rfl, e4⟩
    have D := Lib.hid (Cl.sl_ext e4 D.out)
    have G := Lib.hid (Tm.at_ext e4 G.out)
    have XG := Lib.hid (XG.out.ext e4)
    have B := Lib.hid (B.out.trans e4)
    have L := Lib.hid (IntsAt.ext L.out e4)
    clear e4 b0 b1 b2 b3 L3
    obtain ⟨b0, b1, b2, b3, _, _, _, _⟩ := XG.out
    obtain ⟨bp, hbp⟩ : ∃ b, prValidF ds = b := ⟨_, rfl⟩
    go_wp2_with fail
    refine (implProgramValid ds _ _ _ D.out).mono ?_
    rw [hbp]
    rintro e w5 ⟨rfl, e5⟩
    have D := Lib.hid (Cl.sl_ext e5 D.out)
    have G := Lib.hid (Tm.at_ext e5 G.out)
    have XG := Lib.hid (XG.out.ext e5)
    have B := Lib.hid (B.out.trans e5)
    have L := Lib.hid (IntsAt.ext L.out e5)
    clear e5 b0 b1 b2 b3
    obtain ⟨b0, b1, b2, b3, _, _, _, _⟩ := XG.out
    cases bp
    · clear hbp
      go_wp2_with fail
      refine (specClausesFor ds t _ _ _ _ _ D.out G.out).mono ?_
      rintro e w7 ⟨v7, rfl, hI7, e7⟩
      have L := Lib.hid (IntsAt.ext L.out e7)
      have B := Lib.hid (B.out.trans e7)
      clear e7
      go_wp2_with fail
      refine (lawspgInts _ _ _ _ _ L.out (IntI.ints hI7)).mono ?_
      rw [eqI_self]
      rintro e w8 ⟨rfl, e8⟩
      clear b0 b1 b2 b3
      go_wp2_with fail
      go_ret
      exact ⟨rfl, B.out.trans e8⟩
    · obtain ⟨bg, hbg⟩ : ∃ b, goalF t = b := ⟨_, rfl⟩
      go_wp2_with fail
      refine (implGoalValid_t t _ _ _ G.out).mono ?_
      rw [hbg]
      rintro e w6 ⟨rfl, e6⟩
      have D := Lib.hid (Cl.sl_ext e6 D.out)
      have G := Lib.hid (Tm.at_ext e6 G.out)
      have XG := Lib.hid (XG.out.ext e6)
      have B := Lib.hid (B.out.trans e6)
      have L := Lib.hid (IntsAt.ext L.out e6)
      clear e6 b0 b1 b2 b3
      obtain ⟨b0, b1, b2, b3, _, _, _, _⟩ := XG.out
      cases bg
      · clear hbp hbg
        go_wp2_with fail
        refine (specClausesFor ds t _ _ _ _ _ D.out G.out).mono ?_
        rintro e w7 ⟨v7, rfl, hI7, e7⟩
        have L := Lib.hid (IntsAt.ext L.out e7)
        have B := Lib.hid (B.out.trans e7)
        clear e7
        go_wp2_with fail
        refine (lawspgInts _ _ _ _ _ L.out (IntI.ints hI7)).mono ?_
        rw [eqI_self]
        rintro e w8 ⟨rfl, e8⟩
        clear b0 b1 b2 b3
        go_wp2_with fail
        go_ret
        exact ⟨rfl, B.out.trans e8⟩
      · have HP := Lib.hid hbp
        have HG := Lib.hid hbg
        clear hbp hbg b0 b1 b2 b3
        have hdl : ds.length ≤ 1048576 := by omega
        go_wp2_with fail
        go_loopw [6, 7, 8] (fun iv lv bv wr => ∃ j : Nat, j ≤ ds.length ∧ iv = .int .i64 j ∧ Hid (Ext w6 wr)) (fun i _ _ _ => ds.length - (intOf i).toNat)
        case atStart => exact ⟨0, Nat.zero_le _, rfl, Lib.hid (Ext.refl _)⟩
        case round =>
          obtain ⟨j, hj, rfl, E⟩ := hrel
          by_cases hlt : j < ds.length
          · obtain ⟨ck, hck⟩ : ∃ x, ds[j]? = some x := ⟨_, List.getElem?_eq_getElem hlt⟩
            have hcr := Cl.sl_ext E.out D.out
            obtain ⟨_, _, hsl, _, _, _, h4⟩ := hcr
            simp only [Value.slice.injEq, true_and] at hsl
            obtain ⟨hsa, rfl⟩ := hsl
            obtain ⟨b, off, ak, ckk, al2, cl2, hbo, k0, k1, k2, k3, k4, hat, hbd⟩ := Cl.get h4 hck (Ext.refl _)
            rw [hbo] at hsa
            simp only [Option.some.injEq, Addr.mk.injEq, and_true] at hsa
            obtain ⟨rfl, rfl⟩ := hsa
            have HK := cf_key HP.out HG.out hck
            have UT := Lib.hid (fun w' (e : Ext wr w') => implUnifyTerms ck.head t _ _ _ w' (Tm.at_ext e hat) (Tm.at_ext (E.out.trans e) G.out))
            obtain ⟨y0, y1, y2, y3, _, _, _, _⟩ := XG.out.ext E.out
            have LJ := Lib.hid (IntsAt.ext L.out E.out)
            clear h4 hck hat hbd k4 hbo
            cases hm : hasI (cforF ds t) (j : Int)
            · have hb : utB ck.head t = false := by
                cases hb : utB ck.head t
                · rfl
                · exact absurd (HK.1 hb) (by rw [hm]; decide)
              rw [hb] at UT
              have HM := Lib.hid hm
              clear hm hb HK
              go_wp2_with fail
              go_region_held3 (fun w' => Ext wr w' ∧ w'.cell? ⟨g, o + j * 5, none⟩ = some (.int .i64 ck.head.kind) ∧ w'.cell? ⟨g, o + j * 5 + 1, none⟩ = some (.int .i64 ck.head.n) ∧ w'.cell? ⟨g, o + j * 5 + 2, none⟩ = some (.string ck.head.name) ∧ w'.cell? ⟨g, o + j * 5 + 3, none⟩ = some (.slice ak ck.head.kids.length ckk) ∧ w'.cell? ⟨w1.heap.size, 0, none⟩ = some (.int .i64 t.kind) ∧ w'.cell? ⟨w1.heap.size, 1, none⟩ = some (.int .i64 t.n) ∧ w'.cell? ⟨w1.heap.size, 2, none⟩ = some (.string t.name) ∧ w'.cell? ⟨w1.heap.size, 3, none⟩ = some (.slice ag t.kids.length cg))
                ((refine ⟨?_, ?_, ?_, ?_, ?_, ?_, ?_, ?_, ?_⟩ <;> first | with_reducible assumption | with_reducible exact Ext.drew _ | exact Ext.drew _ | (with_reducible (apply Ext.cell; assumption; assumption)) | (with_reducible (apply Ext.trans'; assumption; assumption)) | (with_reducible (apply Ext.cell; apply Ext.trans'; assumption; assumption; assumption)) | (with_reducible (apply Ext.trans'; assumption; apply Ext.trans'; assumption; assumption)) | (with_reducible (apply Ext.cell; apply Ext.trans'; assumption; apply Ext.trans'; assumption; assumption; assumption)) | assumption))
                (first | (go_at_call 10; refine (UT.out _ ?_).mono ?_; (exact And.left (by assumption)); rintro e wa ⟨au, cu, rfl, _, e1⟩; try replace e1 := Ext.undrew e1))
              all_goals
                have q0 := cell_regrown (e1.cell k0)
                have q1 := cell_regrown (e1.cell k1)
                have q2 := cell_regrown (e1.cell k2)
                have q3 := cell_regrown (e1.cell k3)
                have z0 := cell_regrown (e1.cell y0)
                have z1 := cell_regrown (e1.cell y1)
                have z2 := cell_regrown (e1.cell y2)
                have z3 := cell_regrown (e1.cell y3)
                have LQ := Lib.hid (IntsAt.ext LJ.out e1)
                have cN := quiet_call (w := wa) (fun w' e' => pg_ext (lawspgIn _ _ (j : Int) w' (IntsAt.ext LQ.out e')) HM.out)
                go_wp2_with fail
                refine region_ext (by kernel_rfl) (by kernel_rfl) ?_
                repeat (go_big_quiet_step (with_reducible exact cN _ _))
                refine wpQuiet_nil ?_
                intro wq eq
                have EQ := Lib.hid ((E.out.trans e1).trans eq)
                clear q0 q1 q2 q3 z0 z1 z2 z3 k0 k1 k2 k3 y0 y1 y2 y3 cN eq e1
                go_wp2_with fail
                exact ⟨⟨j + 1, by omega, by go_num, EQ⟩, by simp [intOf]; omega⟩
            · have hne : (ck.head.name.toList == t.name.toList) = true := by simp [HK.2 hm]
              have HM := Lib.hid hm
              clear hm HK
              cases hb : utB ck.head t
              · rw [hb] at UT
                clear hb
                go_wp2_with fail
                go_region_held3 (fun w' => Ext wr w' ∧ w'.cell? ⟨g, o + j * 5, none⟩ = some (.int .i64 ck.head.kind) ∧ w'.cell? ⟨g, o + j * 5 + 1, none⟩ = some (.int .i64 ck.head.n) ∧ w'.cell? ⟨g, o + j * 5 + 2, none⟩ = some (.string ck.head.name) ∧ w'.cell? ⟨g, o + j * 5 + 3, none⟩ = some (.slice ak ck.head.kids.length ckk) ∧ w'.cell? ⟨w1.heap.size, 0, none⟩ = some (.int .i64 t.kind) ∧ w'.cell? ⟨w1.heap.size, 1, none⟩ = some (.int .i64 t.n) ∧ w'.cell? ⟨w1.heap.size, 2, none⟩ = some (.string t.name) ∧ w'.cell? ⟨w1.heap.size, 3, none⟩ = some (.slice ag t.kids.length cg))
                  ((refine ⟨?_, ?_, ?_, ?_, ?_, ?_, ?_, ?_, ?_⟩ <;> first | with_reducible assumption | with_reducible exact Ext.drew _ | exact Ext.drew _ | (with_reducible (apply Ext.cell; assumption; assumption)) | (with_reducible (apply Ext.trans'; assumption; assumption)) | (with_reducible (apply Ext.cell; apply Ext.trans'; assumption; assumption; assumption)) | (with_reducible (apply Ext.trans'; assumption; apply Ext.trans'; assumption; assumption)) | (with_reducible (apply Ext.cell; apply Ext.trans'; assumption; apply Ext.trans'; assumption; assumption; assumption)) | assumption))
                  (first | (go_at_call 10; refine (UT.out _ ?_).mono ?_; (exact And.left (by assumption)); rintro e wa ⟨au, cu, rfl, _, e1⟩; try replace e1 := Ext.undrew e1))
                all_goals
                  have q0 := cell_regrown (e1.cell k0)
                  have q1 := cell_regrown (e1.cell k1)
                  have q2 := cell_regrown (e1.cell k2)
                  have q3 := cell_regrown (e1.cell k3)
                  have z0 := cell_regrown (e1.cell y0)
                  have z1 := cell_regrown (e1.cell y1)
                  have z2 := cell_regrown (e1.cell y2)
                  have z3 := cell_regrown (e1.cell y3)
                  have LQ := Lib.hid (IntsAt.ext LJ.out e1)
                  have cN := quiet_call (w := wa) (fun w' e' => pg_ext (lawspgIn _ _ (j : Int) w' (IntsAt.ext LQ.out e')) HM.out)
                  go_wp2_with fail
                  refine region_ext (by kernel_rfl) (by kernel_rfl) ?_
                  repeat (go_big_quiet_step (with_reducible exact cN _ _))
                  refine wpQuiet_nil ?_
                  intro wq eq
                  have EQ := Lib.hid ((E.out.trans e1).trans eq)
                  clear q0 q1 q2 q3 z0 z1 z2 z3 k0 k1 k2 k3 y0 y1 y2 y3 cN eq e1
                  go_wp2_with fail
                  exact ⟨⟨j + 1, by omega, by go_num, EQ⟩, by simp [intOf]; omega⟩
              · rw [hb] at UT
                clear hb
                go_wp2_with fail
                go_region_held3 (fun w' => Ext wr w' ∧ w'.cell? ⟨g, o + j * 5, none⟩ = some (.int .i64 ck.head.kind) ∧ w'.cell? ⟨g, o + j * 5 + 1, none⟩ = some (.int .i64 ck.head.n) ∧ w'.cell? ⟨g, o + j * 5 + 2, none⟩ = some (.string ck.head.name) ∧ w'.cell? ⟨g, o + j * 5 + 3, none⟩ = some (.slice ak ck.head.kids.length ckk) ∧ w'.cell? ⟨w1.heap.size, 0, none⟩ = some (.int .i64 t.kind) ∧ w'.cell? ⟨w1.heap.size, 1, none⟩ = some (.int .i64 t.n) ∧ w'.cell? ⟨w1.heap.size, 2, none⟩ = some (.string t.name) ∧ w'.cell? ⟨w1.heap.size, 3, none⟩ = some (.slice ag t.kids.length cg))
                  ((refine ⟨?_, ?_, ?_, ?_, ?_, ?_, ?_, ?_, ?_⟩ <;> first | with_reducible assumption | with_reducible exact Ext.drew _ | exact Ext.drew _ | (with_reducible (apply Ext.cell; assumption; assumption)) | (with_reducible (apply Ext.trans'; assumption; assumption)) | (with_reducible (apply Ext.cell; apply Ext.trans'; assumption; assumption; assumption)) | (with_reducible (apply Ext.trans'; assumption; apply Ext.trans'; assumption; assumption)) | (with_reducible (apply Ext.cell; apply Ext.trans'; assumption; apply Ext.trans'; assumption; assumption; assumption)) | assumption))
                  (first | (go_at_call 10; refine (UT.out _ ?_).mono ?_; (exact And.left (by assumption)); rintro e wa ⟨au, cu, rfl, _, e1⟩; try replace e1 := Ext.undrew e1))
                all_goals
                  have q0 := cell_regrown (e1.cell k0)
                  have q1 := cell_regrown (e1.cell k1)
                  have q2 := cell_regrown (e1.cell k2)
                  have q3 := cell_regrown (e1.cell k3)
                  have z0 := cell_regrown (e1.cell y0)
                  have z1 := cell_regrown (e1.cell y1)
                  have z2 := cell_regrown (e1.cell y2)
                  have z3 := cell_regrown (e1.cell y3)
                  have LQ := Lib.hid (IntsAt.ext LJ.out e1)
                  have cN := quiet_call (w := wa) (fun w' e' => pg_ext (lawspgIn _ _ (j : Int) w' (IntsAt.ext LQ.out e')) HM.out)
                  go_wp2_with fail
                  refine region_ext (by kernel_rfl) (by kernel_rfl) ?_
                  repeat (go_big_quiet_step (with_reducible exact cN _ _))
                  refine wpQuiet_nil ?_
                  intro wq eq
                  have EQ := Lib.hid ((E.out.trans e1).trans eq)
                  clear q0 q1 q2 q3 z0 z1 z2 z3 k0 k1 k2 k3 y0 y1 y2 y3 cN eq e1
                  go_wp2_with fail
                  exact ⟨⟨j + 1, by omega, by go_num, EQ⟩, by simp [intOf]; omega⟩
          · obtain rfl : j = ds.length := by omega
            go_wp2_with fail
            go_ret
            exact ⟨rfl, B.out.trans E.out⟩
  · go_enter Tryz.func3, Tryz.ntmps3
    go_wp2_with fail
    go_ret
    exact ⟨rfl, Below.refl _ _⟩
set_option maxRecDepth 100000 in
theorem lifted (os : Os) (started : os.Started) (H : Type) (enc : TypeId × Value → H) :
    ReturnsInHanded {} Tryz.checked os 3 .any (Rows.fnClausesForSpec.pre6 enc Tryz.prog Tryz.f3 Rows.fnClausesForRow.domain false) (Rows.fnClausesForSpec.post enc Tryz.prog Tryz.f3 false true false false) := by
  refine returnsInHanded_of_change (C := Tryz.checked) own started (by kernel_rfl) Tryz.func3
    (ChangeSpec.witness6 (enc := enc) (C := Tryz.checked) false ⟨#[], #[.slice none 0 0], []⟩ 8 (by kernel_rfl) (by kernel_rfl) (by kernel_rfl) (by kernel_rfl)) ?_
  intro W base args ds gs before hval0 hW hcnd _
  have hval : ∀ (j : Nat) t v, Tryz.f3.params[j]? = some t → args[j]? = some v → Value.okWide Tryz.prog W .any base t v := hval0
  have hW' := hW
  obtain ⟨p, q, hA0, hV, rfl, hfz, hnd⟩ := hW
  have hA : DataW.TrodAll enc Tryz.prog W 0 (fun _ => true) true Tryz.f3.params.toList args.toList ds p := hA0
  rw [Tryz.params3] at hA hval
  obtain ⟨v0, vs0, d0, ds0, p0, q0, hargs, rfl, rfl, h0, r0⟩ := trodAll_cons hA
  obtain ⟨rfl, rfl, rfl⟩ := trodAll_nil r0
  obtain rfl : args = #[v0] := by cases args; simp_all
  obtain ⟨rfl, rfl⟩ := trodVars_none hV
  have k0 := h0
  have lt0 : ∀ x ∈ p0, x.block < W.heap.size := by obtain ⟨m, hm⟩ := k0; exact DataW.trod_lt m _ _ _ hm
  obtain ⟨a0, len0, cap0, rfl⟩ := okWide_slice Tryz.underlying22 (hval 0 22 v0 rfl rfl)
  have w0 := bytes_of_trod h0
  clear hA0 hval0 hval
  refine (walk _ W w0).mono fun e W' ⟨he, bel⟩ => ?_
  subst he
  exact ⟨_, rfl, _, _, _, [], _, [], hW', trodAll_mk1 (shut_bool Tryz.underlying4 _), (trodAll_cons_mk (Below.trod laidOut (by kernel_rfl) (of_decide_eq_true (by kernel_rfl)) k0 bel lt0) trodAll_mk0), rfl, bel.frame _, fun h => by cases h⟩
set_option maxRecDepth 100000 in
theorem over : Rows.fnClausesForRow.holds Tryz.pinned (OpenSpec.ofChange Rows.fnClausesForSpec) :=
  OpenClaim.holds_of_wide 3 Tryz.f3 rfl rfl rfl rfl rfl rfl rfl ⟨rfl, rfl, rfl, rfl, rfl⟩ rfl rfl rfl rfl rfl (by kernel_rfl) Tryz.func3 (by kernel_rfl)
    (of_decide_eq_true (by kernel_rfl)) (by unfold Func.isWrapper; first | (rw [if_pos (by decide +kernel)]; kernel_rfl) | (rw [if_neg (by decide +kernel)]; exact ⟨rfl, rfl⟩))
    (fun os started H enc _ => lifted os started H enc)
theorem proved : Rows.FnClausesForSaid := over
end Go.Proofs.YtognkaebiafgbaaGreat.fnClausesFor
