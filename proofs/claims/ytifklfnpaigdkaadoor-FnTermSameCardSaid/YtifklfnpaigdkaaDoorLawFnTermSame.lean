/-
  For every code FnTermSame returns true: equality of drawn terms is that of the reference, reflexive and symmetric, and that of the texts where both are valid.
-/
import Derived.Test.YtifklfnpaigdkaaDoorRows
import Derived.Test.YtifklfnpaigdkaaDoorDraws
import Derived.Test.YtifklfnpaigdkaaDoorSame2
import Derived.Test.YtifklfnpaigdkaaDoorTxtI4
import Derived.Test.YtifklfnpaigdkaaDoorPPrt
import Derived.Test.YtifklfnpaigdkaaDoorBRep
import Derived.ProofKit
import Derived.OpenShut
import Derived.ShutString
import Derived.Test.YtifklfnpaigdkaaDoorCards
import Derived.Test.YtifklfnpaigdkaaDoorTie
import Derived.LaidMore
import Derived.Lay
import Derived.SevenTiedAt
import Derived.Stop.Joined
import Derived.Stop.LaidErr
import Derived.Lib.LaidTab
namespace Go.Proofs.YtifklfnpaigdkaaDoor.fnTermSame
open Go.ChangeShapes Go.WideShapes Go.ChangeAt Go.RowKit
open Go.ChangeMaps (open_string shut_string)
set_option linter.unusedVariables false

theorem own : ownKnob Tryd.prog.godebug = none := by kernel_rfl
theorem laidOut : laidOutB Tryd.prog = true := by kernel_rfl


set_option maxRecDepth 100000 in
set_option maxHeartbeats 4000000 in
theorem walk (v : Value) (w : World) (htab : TabW w) (hv : BytesAt w v) :
    Calls Tryd.prog 7 #[v] w fun e w' => e = .returned (.bool true) ∧ Below w.heap.size w w' := by
  have HV := Lib.hid hv
  obtain ⟨a, len, cap, rfl, h1, h2, h3⟩ := hv
  clear h3
  by_cases hl : len ≤ 1048576
  · go_enter Tryd.func7, Tryd.ntmps7
    go_wp2_with fail
    refine (drawTermSame _ _ HV.out).mono ?_
    rintro e w1 ⟨t, u, v1, v2, rfl, hv1, hv2, e1⟩
    obtain ⟨a1, c1, rfl⟩ := at_form hv1
    obtain ⟨a2, c2, rfl⟩ := at_form hv2
    have ea := (Ext.alloc w1 (.cells #[.int .i64 t.kind, .int .i64 t.n, .string t.name, .slice a1 t.kids.length c1] 29)).trans (Ext.alloc _ (.cells #[.int .i64 u.kind, .int .i64 u.n, .string u.name, .slice a2 u.kids.length c2] 29))
    have X := Lib.hid ((BoxT.new w1 (.int .i64 t.kind) (.int .i64 t.n) (.string t.name) (.slice a1 t.kids.length c1) 29 rfl).ext (Ext.alloc _ (.cells #[.int .i64 u.kind, .int .i64 u.n, .string u.name, .slice a2 u.kids.length c2] 29)))
    have Y := Lib.hid (BoxT.new (w1.alloc (.cells #[.int .i64 t.kind, .int .i64 t.n, .string t.name, .slice a1 t.kids.length c1] 29)) (.int .i64 u.kind) (.int .i64 u.n) (.string u.name) (.slice a2 u.kids.length c2) 29 (b := w1.heap.size + 1) (by simp))
    have V := Lib.hid (Tm.at_ext ea hv1)
    have U := Lib.hid (Tm.at_ext ea hv2)
    have B := Lib.hid (e1.trans ea)
    clear e1 ea hv1 hv2
    have HTAB := Lib.hid htab
    clear htab
    have HTT : Hid (Tm.same t t = true) := Lib.hid (same_refl t)
    have HSY : Hid (Tm.same u t = Tm.same t u) := Lib.hid (by
      cases h : Tm.same t u
      · cases h' : Tm.same u t
        · rfl
        · rw [same_eq _ _ h', same_refl] at h; cases h
      · rw [same_eq _ _ h, same_refl])
    have HTX : Hid (validF t = true → validF u = true → (Tm.same t u == ((bs (formatF false t)).toList == (bs (formatF false u)).toList)) = true) := Lib.hid (fun hv hu => by
      simp only [formatF, hv, hu, if_true, bs_list]
      cases h : Tm.same t u
      · simp only [beq_iff_eq]
        symm
        rw [beq_eq_false_iff_ne]
        intro e
        rw [txt_inj (valid_parts hv).1 (valid_parts hu).1 (Nat.le_refl _) (Nat.le_refl _) e, same_refl] at h
        cases h
      · rw [same_eq _ _ h]; simp)
    obtain ⟨b, hb⟩ : ∃ b, Tm.same t u = b := ⟨_, rfl⟩
    rw [hb] at HSY HTX
    have HB := Lib.hid hb
    clear hb
    have hne : (b != b) = false := by simp
    obtain ⟨x0, x1, x2, x3, _, _, _, _⟩ := X.out
    obtain ⟨y0, y1, y2, y3, _, _, _, _⟩ := Y.out
    go_wp2_with fail
    refine (implTermSame _ t u _ _ _ _ _ (Nat.le_refl _) V.out U.out).mono ?_
    rw [HB.out]
    rintro e w2 ⟨rfl, e2⟩
    have V := Lib.hid (Tm.at_ext e2 V.out)
    have U := Lib.hid (Tm.at_ext e2 U.out)
    have X := Lib.hid (X.out.ext e2)
    have Y := Lib.hid (Y.out.ext e2)
    have B := Lib.hid (B.out.trans e2)
    clear x0 x1 x2 x3 y0 y1 y2 y3
    obtain ⟨x0, x1, x2, x3, _, _, _, _⟩ := X.out
    obtain ⟨y0, y1, y2, y3, _, _, _, _⟩ := Y.out
    clear e2
    go_wp2_with fail
    refine (specTermSame _ t u _ _ _ _ _ (Nat.le_refl _) V.out U.out).mono ?_
    rw [HB.out]
    rintro e w3 ⟨rfl, e3⟩
    have V := Lib.hid (Tm.at_ext e3 V.out)
    have U := Lib.hid (Tm.at_ext e3 U.out)
    have X := Lib.hid (X.out.ext e3)
    have Y := Lib.hid (Y.out.ext e3)
    have B := Lib.hid (B.out.trans e3)
    clear x0 x1 x2 x3 y0 y1 y2 y3
    obtain ⟨x0, x1, x2, x3, _, _, _, _⟩ := X.out
    obtain ⟨y0, y1, y2, y3, _, _, _, _⟩ := Y.out
    clear e3
    go_wp2_with fail
    refine (implTermSame _ u t _ _ _ _ _ (Nat.le_refl _) U.out V.out).mono ?_
    rw [HSY.out]
    rintro e w4 ⟨rfl, e4⟩
    have V := Lib.hid (Tm.at_ext e4 V.out)
    have U := Lib.hid (Tm.at_ext e4 U.out)
    have X := Lib.hid (X.out.ext e4)
    have Y := Lib.hid (Y.out.ext e4)
    have B := Lib.hid (B.out.trans e4)
    clear x0 x1 x2 x3 y0 y1 y2 y3
    obtain ⟨x0, x1, x2, x3, _, _, _, _⟩ := X.out
    obtain ⟨y0, y1, y2, y3, _, _, _, _⟩ := Y.out
    clear e4
    go_wp2_with fail
    refine (implTermSame _ t t _ _ _ _ _ (Nat.le_refl _) V.out V.out).mono ?_
    rw [HTT.out]
    rintro e w5 ⟨rfl, e5⟩
    have V := Lib.hid (Tm.at_ext e5 V.out)
    have U := Lib.hid (Tm.at_ext e5 U.out)
    have X := Lib.hid (X.out.ext e5)
    have Y := Lib.hid (Y.out.ext e5)
    have B := Lib.hid (B.out.trans e5)
    clear x0 x1 x2 x3 y0 y1 y2 y3
    obtain ⟨x0, x1, x2, x3, _, _, _, _⟩ := X.out
    obtain ⟨y0, y1, y2, y3, _, _, _, _⟩ := Y.out
    clear e5
    go_wp2_with fail
    refine (implFormatTerm t _ _ _ V.out (HTAB.out.ext B.out)).mono ?_
    rintro e w6 ⟨rfl, e6⟩
    have V := Lib.hid (Tm.at_ext e6 V.out)
    have U := Lib.hid (Tm.at_ext e6 U.out)
    have X := Lib.hid (X.out.ext e6)
    have Y := Lib.hid (Y.out.ext e6)
    have B := Lib.hid (B.out.trans e6)
    clear x0 x1 x2 x3 y0 y1 y2 y3
    obtain ⟨x0, x1, x2, x3, _, _, _, _⟩ := X.out
    obtain ⟨y0, y1, y2, y3, _, _, _, _⟩ := Y.out
    clear e6
    go_wp2_with fail
    refine (implFormatTerm u _ _ _ U.out (HTAB.out.ext B.out)).mono ?_
    rintro e w7 ⟨rfl, e7⟩
    have V := Lib.hid (Tm.at_ext e7 V.out)
    have U := Lib.hid (Tm.at_ext e7 U.out)
    have X := Lib.hid (X.out.ext e7)
    have Y := Lib.hid (Y.out.ext e7)
    have B := Lib.hid (B.out.trans e7)
    clear x0 x1 x2 x3 y0 y1 y2 y3
    obtain ⟨x0, x1, x2, x3, _, _, _, _⟩ := X.out
    obtain ⟨y0, y1, y2, y3, _, _, _, _⟩ := Y.out
    clear e7
    cases hv : validF t
    · have q1 : ((bs (formatF false t)).toList == []) = true := by rw [bs_list]; simp [formatF, hv]
      clear hv
      go_wp2_with fail
      go_ret
      exact ⟨rfl, B.out⟩
    · have q1 : ((bs (formatF false t)).toList == []) = false := by
        rw [bs_list]
        have := tx_ne false t _ (valid_parts hv).1
        simpa [formatF, hv] using this
      cases hu : validF u
      · have q2 : ((bs (formatF false u)).toList == []) = true := by rw [bs_list]; simp [formatF, hu]
        clear hv hu
        go_wp2_with fail
        go_ret
        exact ⟨rfl, B.out⟩
      · have q2 : ((bs (formatF false u)).toList == []) = false := by
          rw [bs_list]
          have := tx_ne false u _ (valid_parts hu).1
          simpa [formatF, hu] using this
        have q3 := HTX.out hv hu
        clear hv hu
        go_wp2_with fail
        go_ret
        exact ⟨rfl, B.out⟩
  · go_enter Tryd.func7, Tryd.ntmps7
    go_wp2_with fail
    go_ret
    exact ⟨rfl, Below.refl _ _⟩

theorem laidTab {W : World} (h : laidMetH Tryd.prog Rows.fnTermSameRow.laid W) : TabW W := by
  rw [MakeChecks.laidMetH_plain _ _ _ (by kernel_rfl)] at h
  have h3 : laidMet Tryd.prog [("internal/strconv.uint64pow10", Lib.tabData .u64 Lib.pow10Tab)] W := laidMet.tail (laidMet.tail h)
  exact Lib.tabIs_of_head (g := 0) (by kernel_rfl) (by kernel_rfl) Tryd.underlying103 Tryd.underlying94 (by kernel_rfl) (by kernel_rfl) h3

set_option maxRecDepth 100000 in
theorem lifted (os : Os) (started : os.Started) (H : Type) (enc : TypeId × Value → H) :
    ReturnsInHanded {} Tryd.checked os 7 .any (fun w args => (Rows.fnTermSameSpec.pre enc Tryd.prog Tryd.f7 Rows.fnTermSameRow.domain false w args ∧ laidMetH Tryd.prog Rows.fnTermSameRow.laid w) ∧ sizedMet enc Tryd.prog Tryd.f7 (OpenSpec.ofChange Rows.fnTermSameSpec) false w args)
      (Rows.fnTermSameSpec.post enc Tryd.prog Tryd.f7 false true false false) := by
  refine returnsInHanded_of_change_and (C := Tryd.checked) (X := fun w _ => laidMetH Tryd.prog Rows.fnTermSameRow.laid w) (fun _ _ _ hh h => h.of_heap hh) own started (by kernel_rfl) Tryd.func7
    (ChangeSpec.witness_shaped (enc := enc) (C := Tryd.checked) (os := os) (X := fun w _ => laidMetH Tryd.prog Rows.fnTermSameRow.laid w) false (World.laidAll Tryd.prog os Rows.fnTermSameRow.laid) #[.slice none 0 0] 8 (World.laidAll_os _ _ _)
      (World.shaped_of_ZipB (by kernel_rfl) (by kernel_rfl)) (by kernel_rfl) (by kernel_rfl) (by kernel_rfl)
      (by rw [MakeChecks.laidMetH_plain _ _ _ (by kernel_rfl)]; exact laidMet_laidAll _ (by kernel_rfl) (by kernel_rfl))) ?_
  intro W base args ds gs before hval0 hW hcnd _ hL _
  have htab := laidTab hL
  have hval : ∀ (j : Nat) t v, Tryd.f7.params[j]? = some t → args[j]? = some v → Value.okWide Tryd.prog W .any base t v := hval0
  have hW' := hW
  obtain ⟨p, q, hA0, hV, rfl, hfz, hnd⟩ := hW
  have hA : DataW.TrodAll enc Tryd.prog W 0 (fun _ => true) true Tryd.f7.params.toList args.toList ds p := hA0
  rw [Tryd.params7] at hA hval
  obtain ⟨v0, vs0, d0, ds0, p0, q0, hargs, rfl, rfl, h0, r0⟩ := trodAll_cons hA
  obtain ⟨rfl, rfl, rfl⟩ := trodAll_nil r0
  obtain rfl : args = #[v0] := by cases args; simp_all
  obtain ⟨rfl, rfl⟩ := trodVars_none hV
  have k0 := h0
  have lt0 : ∀ x ∈ p0, x.block < W.heap.size := by obtain ⟨m, hm⟩ := k0; exact DataW.trod_lt m _ _ _ hm
  obtain ⟨a0, len0, cap0, rfl⟩ := okWide_slice Tryd.underlying33 (hval 0 33 v0 rfl rfl)
  have w0 := bytes_of_trod h0
  clear hA0 hval0 hval
  refine (walk _ W htab w0).mono fun e W' ⟨he, bel⟩ => ?_
  subst he
  exact ⟨_, rfl, _, _, _, [], _, [], hW', trodAll_mk1 (shut_bool Tryd.underlying4 _), (trodAll_cons_mk (Below.trod laidOut (by kernel_rfl) (of_decide_eq_true (by kernel_rfl)) k0 bel lt0) trodAll_mk0), rfl, bel.frame _, fun h => by cases h⟩

set_option maxRecDepth 100000 in
theorem over : Rows.fnTermSameRow.holds Tryd.pinned (OpenSpec.ofChange Rows.fnTermSameSpec) :=
  OpenClaim.holds_of_wide 7 Tryd.f7 rfl rfl rfl rfl rfl rfl rfl ⟨rfl, rfl, rfl, rfl, rfl⟩ rfl rfl rfl rfl rfl (by kernel_rfl) Tryd.func7 (by kernel_rfl)
    (of_decide_eq_true (by kernel_rfl)) (by unfold Func.isWrapper; first | (rw [if_pos (by decide +kernel)]; kernel_rfl) | (rw [if_neg (by decide +kernel)]; exact ⟨rfl, rfl⟩))
    (fun os started H enc _ => lifted os started H enc)

/-- the statement -/
theorem proved : Rows.FnTermSameCardSaid :=
  Claim7.holds_tied_plain_at .later [] [.data, .data, .data] true (true, "0b67ecbb2604b4d1b6f27536831d155df0e51643cddc244523c0cec399035d6c") false over (fun _ h => by cases h) (by kernel_rfl) (fun _ h => by cases h) fnTermSame_row_tie rfl ⟨rfl, rfl⟩ (by kernel_rfl) rfl
    (fun f fn hf hfn => by
      obtain rfl : f = 7 := Option.some.inj ((show Tryd.prog.funcNamed "loop.example/prologserver/laws.FnTermSame" = some 7 by kernel_rfl).symm.trans hf) |>.symm
      obtain rfl : fn = Tryd.f7 := (Option.some.inj (Tryd.func7.symm.trans hfn)).symm
      exact ⟨by kernel_rfl, fun j t ht => by
        rw [Tryd.params7] at ht
        have hm : t ∈ [33] := by simpa using Array.mem_of_getElem? ht
        have hall : ([33].all fun u => !Tryd.prog.wantsStandIn u) = true := by kernel_rfl
        exact (show Tryd.prog.wantsStandIn t = false by simpa using List.all_eq_true.1 hall t hm)⟩)
    (by kernel_rfl)
end Go.Proofs.YtifklfnpaigdkaaDoor.fnTermSame
