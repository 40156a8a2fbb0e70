/-
  For every code FnTermVars returns true: the variables of a drawn term are different, and those of its arguments, and they are the reference's.
-/
import Derived.Test.YtkbnohfmdbmemaaRows
import Derived.Test.YtkbnohfmdbmemaaDraws
import Derived.Test.YtkbnohfmdbmemaaPlain1
import Derived.Test.YtkbnohfmdbmemaaBRep
import Derived.ProofKit
import Derived.OpenShut
import Derived.ShutString
namespace Go.Proofs.Ytkbnohfmdbmemaa.fnTermVars
open Go.ChangeShapes Go.WideShapes Go.ChangeAt Go.RowKit
open Go.ChangeMaps (open_string shut_string)
set_option linter.unusedVariables false

theorem own : ownKnob Try.prog.godebug = none := by kernel_rfl
theorem laidOut : laidOutB Try.prog = true := by kernel_rfl


set_option maxRecDepth 100000 in
set_option maxHeartbeats 2000000 in
theorem walk (v : Value) (w : World) (hv : BytesAt w v) :
    Calls Try.prog 10 #[v] w fun e w' => e = .returned (.bool true) ∧ Below w.heap.size w w' := by
  have HV := Lib.hid hv
  obtain ⟨a, len, cap, rfl, h1, h2, h3⟩ := hv
  clear h3
  by_cases hl : len ≤ 1048576
  · go_enter Try.func10, Try.ntmps10
    go_wp2_with fail
    refine (drawTermVars _ _ HV.out).mono ?_
    rintro e w1 ⟨t, v1, rfl, hv1, e1⟩
    obtain ⟨a1, c1, rfl⟩ := at_form hv1
    have ea := Ext.alloc w1 (.cells #[.int .i64 t.kind, .int .i64 t.n, .string t.name, .slice a1 t.kids.length c1] 25)
    have X := Lib.hid (BoxT.new w1 (.int .i64 t.kind) (.int .i64 t.n) (.string t.name) (.slice a1 t.kids.length c1) 25 rfl)
    have V := Lib.hid (Tm.at_ext ea hv1)
    have B := Lib.hid (e1.trans ea)
    clear e1 ea hv1
    go_wp2_with fail
    refine (implTermVars t _ _ _ V.out).mono ?_
    rintro e w2 ⟨v2, rfl, hI2, e2⟩
    obtain ⟨a2, c2, rfl⟩ := hI2.form
    have I := Lib.hid hI2.ints
    clear hI2
    have V := Lib.hid (Tm.at_ext e2 V.out)
    have X := Lib.hid (X.out.ext e2)
    have B := Lib.hid (B.out.trans e2)
    obtain ⟨b0, b1, b2, b3, _, _, _, _⟩ := X.out
    clear e2
    go_wp2_with fail
    refine (specTermVars t _ _ _ V.out).mono ?_
    rintro e w3 ⟨v3, rfl, hI3, e3⟩
    obtain ⟨a3, c3, rfl⟩ := hI3.form
    have I := Lib.hid (I.out.ext e3)
    have J := Lib.hid hI3.ints
    clear hI3 b0 b1 b2 b3
    have V := Lib.hid (Tm.at_ext e3 V.out)
    have X := Lib.hid (X.out.ext e3)
    have B := Lib.hid (B.out.trans e3)
    obtain ⟨b0, b1, b2, b3, _, _, _, _⟩ := X.out
    clear e3
    have HEQ := Lib.hid (show eqI (tvarsF t) (tvarsF t) = true by simp [eqI])
    go_wp2_with fail
    refine (lawspgInts _ _ _ _ _ I.out J.out).mono ?_
    rw [HEQ.out]
    rintro e w4 ⟨rfl, e4⟩
    have I := Lib.hid (I.out.ext e4)
    clear b0 b1 b2 b3 J HEQ
    have V := Lib.hid (Tm.at_ext e4 V.out)
    have X := Lib.hid (X.out.ext e4)
    have B := Lib.hid (B.out.trans e4)
    obtain ⟨b0, b1, b2, b3, _, _, _, _⟩ := X.out
    clear e4
    obtain ⟨zs, hzs⟩ : ∃ zs, zs = tvarsF t := ⟨_, rfl⟩
    rw [← hzs] at I ⊢
    have HZS := Lib.hid hzs
    clear hzs
    have ND := Lib.hid (show zs.Nodup by rw [HZS.out]; exact tvars_nodup t)
    obtain ⟨_, _, hx2, i1, i2, i3, i4⟩ := I.out
    cases hx2
    have I4 := Lib.hid i4
    clear i4
    go_wp2_with fail
    go_loopw [5] (fun i wr => ∃ (j : Nat), j ≤ zs.length ∧ i = .int .i64 j ∧ Hid (Ext w4 wr)) (fun i _ => zs.length - (intOf i).toNat)
    case atStart => exact ⟨0, Nat.zero_le _, rfl, Lib.hid (Ext.refl _)⟩
    case round =>
      obtain ⟨j, hj, rfl, HE⟩ := hrel
      have b0 := HE.out.cell b0
      have b1 := HE.out.cell b1
      have b2 := HE.out.cell b2
      have b3 := HE.out.cell b3
      by_cases hlt : j < zs.length
      · obtain ⟨z, hz⟩ : ∃ z, zs[j]? = some z := ⟨zs[j], by simp [hlt]⟩
        rcases I4.out with g4 | ⟨bb, off, rfl, g5⟩
        · subst g4; simp at hlt
        have c1' := cell_regrown (HE.out.cell (g5 j z hz))
        have HT := Lib.hid (nodup_take ND.out hz)
        have hpre : ∀ w', Ext wr w' → IntsAt w' (zs.take j) (.slice (some ⟨bb, off, none⟩) j c2) := by
          intro w' e'
          refine ⟨_, c2, by simp; omega, by simp; omega, i2, by simp; omega, .inr ⟨bb, off, rfl, fun i x hx => ?_⟩⟩
          refine (HE.out.trans e').cell (g5 i x ?_)
          rw [List.getElem?_take] at hx
          split at hx
          · exact hx
          · cases hx
        have cQ := quiet_call (w := wr) (P := Try.prog) (f := 39) (args := #[.slice (some ⟨bb, off, none⟩) j c2, .int .i64 z]) (v := .bool false) (fun w' e' => (lawspgIn (zs.take j) _ z w' (hpre w' e')).mono (by
          rintro e w'' ⟨h1, h2⟩
          rw [HT.out] at h1
          exact ⟨h1, h2 ▸ Ext.refl _⟩))
        have hjc : (j : Int) ≤ (c2 : Int) := by omega
        clear hz g5 hpre
        go_wp2_with fail
        refine region_ext (by kernel_rfl) (by kernel_rfl) ?_
        repeat (quiet_step (exact cQ _ _))
        refine wpQuiet_nil ?_
        intro wq eq
        go_wp2_with fail
        go_roundw
        case rel => exact ⟨j + 1, by omega, by go_num, Lib.hid (HE.out.trans eq)⟩
        case measure => simp [intOf]; omega
      · have B := Lib.hid (B.out.trans HE.out)
        have V := Lib.hid (Tm.at_ext HE.out V.out)
        have I := Lib.hid (I.out.ext HE.out)
        obtain ⟨_, sv1, hsv1, a5, c5, rfl, h1a, h1b, h1c, h1d⟩ := Tm.at_iff.1 V.out
        simp at hsv1
        obtain ⟨rfl, rfl⟩ := hsv1
        have H1 := Lib.hid h1d
        clear h1d HE
        obtain ⟨wa, rfl⟩ : ∃ wo : World, wo = wr := ⟨_, rfl⟩
        cases hval : validF t
        all_goals
          have HVAL := Lib.hid hval
          clear hval
          go_wp2_with fail
          go_loopw [6] (fun i wx => ∃ (j : Nat), j ≤ t.kids.length ∧ i = .int .i64 j ∧ Hid (Ext wa wx)) (fun i _ => t.kids.length - (intOf i).toNat)
          case atStart => exact ⟨0, Nat.zero_le _, rfl, Lib.hid (Ext.refl _)⟩
          case round =>
            obtain ⟨q, hq, rfl, HE⟩ := hrel
            have b0 := HE.out.cell b0
            have b1 := HE.out.cell b1
            have b2 := HE.out.cell b2
            have b3 := HE.out.cell b3
            by_cases hlt2 : q < t.kids.length
            · obtain ⟨wb, rfl⟩ : ∃ wo : World, wo = wr := ⟨_, rfl⟩
              go_wp2_with fail
              refine (implTermValid t _ _ _ (Tm.at_ext HE.out V.out)).mono ?_
              rw [HVAL.out]
              rintro e w5 ⟨rfl, e5⟩
              have HE := Lib.hid (HE.out.trans e5)
              have b0 := e5.cell b0
              have b1 := e5.cell b1
              have b2 := e5.cell b2
              have b3 := e5.cell b3
              clear e5
              first
                | (go_wp2_with fail
                   go_ret
                   exact ⟨rfl, B.out.trans HE.out⟩)
                | (obtain ⟨tk, htk⟩ := getk hlt2
                   obtain ⟨bb, off, ak, ck, rfl, hSb, k1, k2, k3, k4, hat⟩ := tget H1.out htk
                   have k1 := HE.out.cell k1
                   have k2 := HE.out.cell k2
                   have k3 := HE.out.cell k3
                   have k4 := HE.out.cell k4
                   have HW := Lib.hid (Tm.at_ext HE.out hat)
                   have HK := Lib.hid (fun x (hx : x ∈ tvarsF tk) => (show hasI zs x = true by rw [HZS.out]; exact tvars_kid HVAL.out (List.mem_of_getElem? htk) hx))
                   clear htk hSb hat
                   go_wp2_with fail
                   refine (implTermVars tk _ _ _ HW.out).mono ?_
                   rintro e w6 ⟨v6, rfl, hI6, e6⟩
                   obtain ⟨a6, c6, rfl⟩ := hI6.form
                   have I6 := Lib.hid hI6.ints
                   have HE := Lib.hid (HE.out.trans e6)
                   clear hI6 e6
                   obtain ⟨_, _, hx6, u1, u2, u3, u4⟩ := I6.out
                   cases hx6
                   have U4 := Lib.hid u4
                   clear u4
                   go_wp2_with fail
                   go_loopw [8] (fun i wx => ∃ (j : Nat), j ≤ (tvarsF tk).length ∧ i = .int .i64 j ∧ Hid (Ext w6 wx)) (fun i _ => (tvarsF tk).length - (intOf i).toNat)
                   case atStart => exact ⟨0, Nat.zero_le _, rfl, Lib.hid (Ext.refl _)⟩
                   case round =>
                     obtain ⟨m, hm, rfl, HE6⟩ := hrel
                     by_cases hlt3 : m < (tvarsF tk).length
                     · obtain ⟨z, hz⟩ : ∃ z, (tvarsF tk)[m]? = some z := ⟨(tvarsF tk)[m], by simp [hlt3]⟩
                       rcases U4.out with g4 | ⟨bu, ou, rfl, g5⟩
                       · rw [g4] at hlt3; simp at hlt3
                       have c1' := HE6.out.cell (g5 m z hz)
                       have HT := Lib.hid (HK.out z (List.mem_of_getElem? hz))
                       clear hz g5
                       go_wp2_with fail
                       refine (lawspgIn zs _ z _ (I.out.ext (HE.out.trans HE6.out))).mono ?_
                       rw [HT.out]
                       rintro e w7 ⟨rfl, rfl⟩
                       go_wp2_with fail
                       go_roundw
                       case rel => exact ⟨m + 1, by omega, by go_num, HE6⟩
                       case measure => simp [intOf]; omega
                     · go_wp2_with fail
                       go_roundw
                       case rel => exact ⟨q + 1, by omega, by go_num, Lib.hid (HE.out.trans HE6.out)⟩
                       case measure => simp [intOf]; omega)
            · go_wp2_with fail
              go_ret
              exact ⟨rfl, B.out.trans HE.out⟩
  · go_enter Try.func10, Try.ntmps10
    go_wp2_with fail
    go_ret
    exact ⟨rfl, Below.refl _ _⟩

set_option maxRecDepth 100000 in
theorem lifted (os : Os) (started : os.Started) (H : Type) (enc : TypeId × Value → H) :
    ReturnsInHanded {} Try.checked os 10 .any (Rows.fnTermVarsSpec.pre6 enc Try.prog Try.f10 Rows.fnTermVarsRow.domain false) (Rows.fnTermVarsSpec.post enc Try.prog Try.f10 false true false false) := by
  refine returnsInHanded_of_change (C := Try.checked) own started (by kernel_rfl) Try.func10
    (ChangeSpec.witness6 (enc := enc) (C := Try.checked) false ⟨#[], #[.slice none 0 0], []⟩ 8 (by kernel_rfl) (by kernel_rfl) (by kernel_rfl) (by kernel_rfl)) ?_
  intro W base args ds gs before hval0 hW hcnd _
  have hval : ∀ (j : Nat) t v, Try.f10.params[j]? = some t → args[j]? = some v → Value.okWide Try.prog W .any base t v := hval0
  have hW' := hW
  obtain ⟨p, q, hA0, hV, rfl, hfz, hnd⟩ := hW
  have hA : DataW.TrodAll enc Try.prog W 0 (fun _ => true) true Try.f10.params.toList args.toList ds p := hA0
  rw [Try.params10] at hA hval
  obtain ⟨v0, vs0, d0, ds0, p0, q0, hargs, rfl, rfl, h0, r0⟩ := trodAll_cons hA
  obtain ⟨rfl, rfl, rfl⟩ := trodAll_nil r0
  obtain rfl : args = #[v0] := by cases args; simp_all
  obtain ⟨rfl, rfl⟩ := trodVars_none hV
  have k0 := h0
  have lt0 : ∀ x ∈ p0, x.block < W.heap.size := by obtain ⟨m, hm⟩ := k0; exact DataW.trod_lt m _ _ _ hm
  obtain ⟨a0, len0, cap0, rfl⟩ := okWide_slice Try.underlying22 (hval 0 22 v0 rfl rfl)
  have w0 := bytes_of_trod h0
  clear hA0 hval0 hval
  refine (walk _ W w0).mono fun e W' ⟨he, bel⟩ => ?_
  subst he
  exact ⟨_, rfl, _, _, _, [], _, [], hW', trodAll_mk1 (shut_bool Try.underlying4 _), (trodAll_cons_mk (Below.trod laidOut (by kernel_rfl) (of_decide_eq_true (by kernel_rfl)) k0 bel lt0) trodAll_mk0), rfl, bel.frame _, fun h => by cases h⟩

set_option maxRecDepth 100000 in
theorem over : Rows.fnTermVarsRow.holds Try.pinned (OpenSpec.ofChange Rows.fnTermVarsSpec) :=
  OpenClaim.holds_of_wide 10 Try.f10 rfl rfl rfl rfl rfl rfl rfl ⟨rfl, rfl, rfl, rfl, rfl⟩ rfl rfl rfl rfl rfl (by kernel_rfl) Try.func10 (by kernel_rfl)
    (of_decide_eq_true (by kernel_rfl)) (by unfold Func.isWrapper; first | (rw [if_pos (by decide +kernel)]; kernel_rfl) | (rw [if_neg (by decide +kernel)]; exact ⟨rfl, rfl⟩))
    (fun os started H enc _ => lifted os started H enc)

/-- the statement -/
theorem proved : Rows.FnTermVarsSaid := over
end Go.Proofs.Ytkbnohfmdbmemaa.fnTermVars
