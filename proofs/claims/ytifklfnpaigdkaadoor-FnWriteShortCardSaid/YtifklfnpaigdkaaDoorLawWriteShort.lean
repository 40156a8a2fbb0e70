/-
  For every code FnWriteShort returns true: a drawn term is written by the program as by the reference, and as its plain text where it has no operator.
-/
import Derived.Test.YtifklfnpaigdkaaDoorRows
import Derived.Test.YtifklfnpaigdkaaDoorDrawW
import Derived.Test.YtifklfnpaigdkaaDoorPgOp
import Derived.Test.YtifklfnpaigdkaaDoorTxtI6
import Derived.Test.YtifklfnpaigdkaaDoorTxtR4
import Derived.Test.YtifklfnpaigdkaaDoorBRep
import Derived.ProofKit
import Derived.OpenShut
import Derived.ShutString
import Derived.Test.YtifklfnpaigdkaaDoorCards
import Derived.Test.YtifklfnpaigdkaaDoorTie
import Derived.LaidMore
import Derived.Lay
import Derived.SevenTiedAt
import Derived.Stop.Joined
import Derived.Stop.LaidErr
import Derived.Lib.LaidTab
namespace Go.Proofs.YtifklfnpaigdkaaDoor.fnWriteShort
open Go.ChangeShapes Go.WideShapes Go.ChangeAt Go.RowKit
open Go.ChangeMaps (open_string shut_string)
set_option linter.unusedVariables false

theorem own : ownKnob Tryd.prog.godebug = none := by kernel_rfl
theorem laidOut : laidOutB Tryd.prog = true := by kernel_rfl


set_option maxRecDepth 100000 in
set_option maxHeartbeats 2000000 in
theorem walk (v : Value) (w : World) (htab : TabW w) (hv : BytesAt w v) :
    Calls Tryd.prog 5 #[v] w fun e w' => e = .returned (.bool true) ∧ Below w.heap.size w w' := by
  have HV := Lib.hid hv
  have HTAB := Lib.hid htab
  clear htab
  obtain ⟨a, len, cap, rfl, h1, h2, h3⟩ := hv
  clear h3
  by_cases hl : len ≤ 1048576
  · go_enter Tryd.func5, Tryd.ntmps5
    go_wp2_with fail
    refine (drawWriteTerm _ _ HV.out).mono ?_
    rintro e w1 ⟨t, v1, rfl, hv1, e1⟩
    obtain ⟨a1, c1, rfl⟩ := at_form hv1
    have ea := Ext.alloc w1 (.cells #[.int .i64 t.kind, .int .i64 t.n, .string t.name, .slice a1 t.kids.length c1] 29)
    have X := Lib.hid (BoxT.new w1 (.int .i64 t.kind) (.int .i64 t.n) (.string t.name) (.slice a1 t.kids.length c1) 29 rfl)
    have V := Lib.hid (Tm.at_ext ea hv1)
    have B := Lib.hid (e1.trans ea)
    have hne : ((bs (formatF true t)).toList != (bs (formatF true t)).toList) = false := by simp
    have heq : ((bs (formatF true t)).toList == (bs (formatF true t)).toList) = true := by simp
    clear e1 ea hv1
    go_wp2_with fail
    refine (implWriteTerm t _ _ _ V.out (HTAB.out.ext B.out)).mono ?_
    rintro e w2 ⟨rfl, e2⟩
    have V := Lib.hid (Tm.at_ext e2 V.out)
    have X := Lib.hid (X.out.ext e2)
    have B := Lib.hid (B.out.trans e2)
    obtain ⟨b0, b1, b2, b3, _, _, _, _⟩ := X.out
    clear e2
    go_wp2_with fail
    refine (specWriteTerm t _ _ _ V.out).mono ?_
    rintro e w3 ⟨rfl, e3⟩
    clear b0 b1 b2 b3
    have V := Lib.hid (Tm.at_ext e3 V.out)
    have X := Lib.hid (X.out.ext e3)
    have B := Lib.hid (B.out.trans e3)
    obtain ⟨b0, b1, b2, b3, _, _, _, _⟩ := X.out
    clear e3
    cases hval : validF t
    · have hem : ((bs (formatF true t)).toList == []) = true := by rw [bs_list]; simp [formatF, hval]
      clear hval
      go_wp2_with fail
      refine (specWriteTerm t _ _ _ V.out).mono ?_
      rintro e w4 ⟨rfl, e4⟩
      go_wp2_with fail
      go_ret
      exact ⟨retB (by simp), B.out.trans e4⟩
    · have hem : ((bs (formatF true t)).toList == []) = false := by
        rw [bs_list]
        have := tx_ne true t _ (valid_parts hval).1
        simpa [formatF, hval] using this
      have HF := Lib.hid (show pgOpF t = false → formatF true t = formatF false t from fun hp => by
        rw [pg_noOp t _ (valid_parts hval).1] at hp
        simp only [formatF, hval, if_true, txt, tx_noOp t (by simpa using hp)])
      clear hval
      go_wp2_with fail
      refine (lawspgOperator _ t (Nat.le_refl _) _ _ _ V.out).mono ?_
      cases hpg : pgOpF t
      · have HQ := Lib.hid (HF.out hpg)
        clear hpg
        rintro e w4 ⟨rfl, e4⟩
        clear b0 b1 b2 b3
        have V := Lib.hid (Tm.at_ext e4 V.out)
        have X := Lib.hid (X.out.ext e4)
        have B := Lib.hid (B.out.trans e4)
        obtain ⟨b0, b1, b2, b3, _, _, _, _⟩ := X.out
        go_wp2_with fail
        refine (implFormatTerm t _ _ _ V.out (HTAB.out.ext B.out)).mono ?_
        rw [← HQ.out]
        rintro e w5 ⟨rfl, e5⟩
        go_wp2_with fail
        go_ret
        exact ⟨retB (by simp), B.out.trans e5⟩
      · clear hpg
        rintro e w4 ⟨rfl, e4⟩
        clear b0 b1 b2 b3
        have V := Lib.hid (Tm.at_ext e4 V.out)
        have X := Lib.hid (X.out.ext e4)
        have B := Lib.hid (B.out.trans e4)
        obtain ⟨b0, b1, b2, b3, _, _, _, _⟩ := X.out
        go_wp2_with fail
        refine (specWriteTerm t _ _ _ V.out).mono ?_
        rintro e w5 ⟨rfl, e5⟩
        go_wp2_with fail
        go_ret
        exact ⟨retB (by simp), B.out.trans e5⟩
  · go_enter Tryd.func5, Tryd.ntmps5
    go_wp2_with fail
    go_ret
    exact ⟨rfl, Below.refl _ _⟩

theorem laidTab {W : World} (h : laidMetH Tryd.prog Rows.fnWriteShortRow.laid W) : TabW W := by
  rw [MakeChecks.laidMetH_plain _ _ _ (by kernel_rfl)] at h
  have h3 : laidMet Tryd.prog [("internal/strconv.uint64pow10", Lib.tabData .u64 Lib.pow10Tab)] W := laidMet.tail (laidMet.tail h)
  exact Lib.tabIs_of_head (g := 0) (by kernel_rfl) (by kernel_rfl) Tryd.underlying103 Tryd.underlying94 (by kernel_rfl) (by kernel_rfl) h3

set_option maxRecDepth 100000 in
theorem lifted (os : Os) (started : os.Started) (H : Type) (enc : TypeId × Value → H) :
    ReturnsInHanded {} Tryd.checked os 5 .any (fun w args => (Rows.fnWriteShortSpec.pre enc Tryd.prog Tryd.f5 Rows.fnWriteShortRow.domain false w args ∧ laidMetH Tryd.prog Rows.fnWriteShortRow.laid w) ∧ sizedMet enc Tryd.prog Tryd.f5 (OpenSpec.ofChange Rows.fnWriteShortSpec) false w args)
      (Rows.fnWriteShortSpec.post enc Tryd.prog Tryd.f5 false true false false) := by
  refine returnsInHanded_of_change_and (C := Tryd.checked) (X := fun w _ => laidMetH Tryd.prog Rows.fnWriteShortRow.laid w) (fun _ _ _ hh h => h.of_heap hh) own started (by kernel_rfl) Tryd.func5
    (ChangeSpec.witness_shaped (enc := enc) (C := Tryd.checked) (os := os) (X := fun w _ => laidMetH Tryd.prog Rows.fnWriteShortRow.laid w) false (World.laidAll Tryd.prog os Rows.fnWriteShortRow.laid) #[.slice none 0 0] 8 (World.laidAll_os _ _ _)
      (World.shaped_of_ZipB (by kernel_rfl) (by kernel_rfl)) (by kernel_rfl) (by kernel_rfl) (by kernel_rfl)
      (by rw [MakeChecks.laidMetH_plain _ _ _ (by kernel_rfl)]; exact laidMet_laidAll _ (by kernel_rfl) (by kernel_rfl))) ?_
  intro W base args ds gs before hval0 hW hcnd _ hL _
  have htab := laidTab hL
  have hval : ∀ (j : Nat) t v, Tryd.f5.params[j]? = some t → args[j]? = some v → Value.okWide Tryd.prog W .any base t v := hval0
  have hW' := hW
  obtain ⟨p, q, hA0, hV, rfl, hfz, hnd⟩ := hW
  have hA : DataW.TrodAll enc Tryd.prog W 0 (fun _ => true) true Tryd.f5.params.toList args.toList ds p := hA0
  rw [Tryd.params5] at hA hval
  obtain ⟨v0, vs0, d0, ds0, p0, q0, hargs, rfl, rfl, h0, r0⟩ := trodAll_cons hA
  obtain ⟨rfl, rfl, rfl⟩ := trodAll_nil r0
  obtain rfl : args = #[v0] := by cases args; simp_all
  obtain ⟨rfl, rfl⟩ := trodVars_none hV
  have k0 := h0
  have lt0 : ∀ x ∈ p0, x.block < W.heap.size := by obtain ⟨m, hm⟩ := k0; exact DataW.trod_lt m _ _ _ hm
  obtain ⟨a0, len0, cap0, rfl⟩ := okWide_slice Tryd.underlying33 (hval 0 33 v0 rfl rfl)
  have w0 := bytes_of_trod h0
  clear hA0 hval0 hval
  refine (walk _ W htab w0).mono fun e W' ⟨he, bel⟩ => ?_
  subst he
  exact ⟨_, rfl, _, _, _, [], _, [], hW', trodAll_mk1 (shut_bool Tryd.underlying4 _), (trodAll_cons_mk (Below.trod laidOut (by kernel_rfl) (of_decide_eq_true (by kernel_rfl)) k0 bel lt0) trodAll_mk0), rfl, bel.frame _, fun h => by cases h⟩

set_option maxRecDepth 100000 in
theorem over : Rows.fnWriteShortRow.holds Tryd.pinned (OpenSpec.ofChange Rows.fnWriteShortSpec) :=
  OpenClaim.holds_of_wide 5 Tryd.f5 rfl rfl rfl rfl rfl rfl rfl ⟨rfl, rfl, rfl, rfl, rfl⟩ rfl rfl rfl rfl rfl (by kernel_rfl) Tryd.func5 (by kernel_rfl)
    (of_decide_eq_true (by kernel_rfl)) (by unfold Func.isWrapper; first | (rw [if_pos (by decide +kernel)]; kernel_rfl) | (rw [if_neg (by decide +kernel)]; exact ⟨rfl, rfl⟩))
    (fun os started H enc _ => lifted os started H enc)

/-- the statement -/
theorem proved : Rows.FnWriteShortCardSaid :=
  Claim7.holds_tied_plain_at .later [] [.data, .data, .data] true (true, "0b67ecbb2604b4d1b6f27536831d155df0e51643cddc244523c0cec399035d6c") false over (fun _ h => by cases h) (by kernel_rfl) (fun _ h => by cases h) fnWriteShort_row_tie rfl ⟨rfl, rfl⟩ (by kernel_rfl) rfl
    (fun f fn hf hfn => by
      obtain rfl : f = 5 := Option.some.inj ((show Tryd.prog.funcNamed "loop.example/prologserver/laws.FnWriteShort" = some 5 by kernel_rfl).symm.trans hf) |>.symm
      obtain rfl : fn = Tryd.f5 := (Option.some.inj (Tryd.func5.symm.trans hfn)).symm
      exact ⟨by kernel_rfl, fun j t ht => by
        rw [Tryd.params5] at ht
        have hm : t ∈ [33] := by simpa using Array.mem_of_getElem? ht
        have hall : ([33].all fun u => !Tryd.prog.wantsStandIn u) = true := by kernel_rfl
        exact (show Tryd.prog.wantsStandIn t = false by simpa using List.all_eq_true.1 hall t hm)⟩)
    (by kernel_rfl)
end Go.Proofs.YtifklfnpaigdkaaDoor.fnWriteShort
