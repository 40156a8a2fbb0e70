/-
  For every code FnCountNodes returns true: a drawn term has one node more than its arguments together, and the program counts as the reference does.
-/
import Derived.Test.YtkbnohfmdbmemaaRows
import Derived.Test.YtkbnohfmdbmemaaDraws
import Derived.Test.YtkbnohfmdbmemaaPlain1
import Derived.Test.YtkbnohfmdbmemaaBRep
import Derived.ProofKit
import Derived.OpenShut
import Derived.ShutString
namespace Go.Proofs.Ytkbnohfmdbmemaa.fnCountNodes
open Go.ChangeShapes Go.WideShapes Go.ChangeAt Go.RowKit
open Go.ChangeMaps (open_string shut_string)
set_option linter.unusedVariables false

theorem own : ownKnob Try.prog.godebug = none := by kernel_rfl
theorem laidOut : laidOutB Try.prog = true := by kernel_rfl


set_option maxRecDepth 100000 in
set_option maxHeartbeats 2000000 in
theorem walk (v : Value) (w : World) (hv : BytesAt w v) :
    Calls Try.prog 8 #[v] w fun e w' => e = .returned (.bool true) ∧ Below w.heap.size w w' := by
  have HV := Lib.hid hv
  obtain ⟨a, len, cap, rfl, h1, h2, h3⟩ := hv
  clear h3
  by_cases hl : len ≤ 1048576
  · go_enter Try.func8, Try.ntmps8
    go_wp2_with fail
    refine (drawCountNodes _ _ HV.out).mono ?_
    rintro e w1 ⟨t, v1, rfl, hv1, e1⟩
    obtain ⟨a1, c1, rfl⟩ := at_form hv1
    have ea := Ext.alloc w1 (.cells #[.int .i64 t.kind, .int .i64 t.n, .string t.name, .slice a1 t.kids.length c1] 25)
    have X := Lib.hid (BoxT.new w1 (.int .i64 t.kind) (.int .i64 t.n) (.string t.name) (.slice a1 t.kids.length c1) 25 rfl)
    have V := Lib.hid (Tm.at_ext ea hv1)
    have B := Lib.hid (e1.trans ea)
    clear e1 ea hv1
    go_wp2_with fail
    refine (implCountNodes t _ _ _ V.out).mono ?_
    rintro e w2 ⟨rfl, e2⟩
    have V := Lib.hid (Tm.at_ext e2 V.out)
    have X := Lib.hid (X.out.ext e2)
    have B := Lib.hid (B.out.trans e2)
    obtain ⟨b0, b1, b2, b3, _, _, _, _⟩ := X.out
    clear e2
    go_wp2_with fail
    refine (specCountNodes t _ _ _ V.out).mono ?_
    rintro e w3 ⟨rfl, e3⟩
    clear b0 b1 b2 b3
    have V := Lib.hid (Tm.at_ext e3 V.out)
    have X := Lib.hid (X.out.ext e3)
    have B := Lib.hid (B.out.trans e3)
    obtain ⟨b0, b1, b2, b3, _, _, _, _⟩ := X.out
    clear e3
    cases hval : validF t
    · have HVAL := Lib.hid hval
      clear hval
      go_wp2_with fail
      refine (implTermValid t _ _ _ V.out).mono ?_
      rw [HVAL.out]
      rintro e w4 ⟨rfl, e4⟩
      clear b0 b1 b2 b3
      have V := Lib.hid (Tm.at_ext e4 V.out)
      have X := Lib.hid (X.out.ext e4)
      have B := Lib.hid (B.out.trans e4)
      obtain ⟨b0, b1, b2, b3, _, _, _, _⟩ := X.out
      clear e4
      go_wp2_with fail
      refine (specCountNodes t _ _ _ V.out).mono ?_
      rintro e w5 ⟨rfl, e5⟩
      clear b0 b1 b2 b3
      have V := Lib.hid (Tm.at_ext e5 V.out)
      have X := Lib.hid (X.out.ext e5)
      have B := Lib.hid (B.out.trans e5)
      obtain ⟨b0, b1, b2, b3, _, _, _, _⟩ := X.out
      clear e5
      go_wp2_with fail
      go_ret
      exact ⟨rfl, B.out⟩
    · have hcf : countF t = Tm.sz t := by rw [countF_eq, if_pos hval]
      have hsz := valid_sz hval
      have hsk := sz_kids t
      have htv := tvars_len t
      obtain ⟨n, hn⟩ : ∃ n, n = Tm.sz t := ⟨_, rfl⟩
      rw [hcf, ← hn]
      rw [← hn] at hsz hsk htv
      have HVAL := Lib.hid hval
      have HN := Lib.hid hn
      have HSK := Lib.hid hsk
      clear hval hcf hn hsk
      go_wp2_with fail
      refine (implTermValid t _ _ _ V.out).mono ?_
      rw [HVAL.out]
      rintro e w4 ⟨rfl, e4⟩
      clear b0 b1 b2 b3
      have V := Lib.hid (Tm.at_ext e4 V.out)
      have X := Lib.hid (X.out.ext e4)
      have B := Lib.hid (B.out.trans e4)
      obtain ⟨b0, b1, b2, b3, _, _, _, _⟩ := X.out
      clear e4
      obtain ⟨_, sv1, hsv1, a2, c2, rfl, h1a, h1b, h1c, h1d⟩ := Tm.at_iff.1 V.out
      simp at hsv1
      obtain ⟨rfl, rfl⟩ := hsv1
      have H1 := Lib.hid h1d
      clear h1d
      go_wp2_with fail
      go_loopw [5, 6] (fun s i wr => ∃ (j : Nat), j ≤ t.kids.length ∧ i = .int .i64 j ∧ s = .int .i64 ((1 + Tm.szL (t.kids.take j) : Nat) : Int) ∧ Hid (Ext w4 wr)) (fun _ i _ => t.kids.length - (intOf i).toNat)
      case atStart => exact ⟨0, Nat.zero_le _, rfl, by simp [Tm.szL], Lib.hid (Ext.refl _)⟩
      case round =>
        obtain ⟨j, hj, rfl, rfl, HE⟩ := hrel
        have b0 := HE.out.cell b0
        have b1 := HE.out.cell b1
        have b2 := HE.out.cell b2
        have b3 := HE.out.cell b3
        by_cases hlt : j < t.kids.length
        · obtain ⟨tk, htk⟩ := getk hlt
          obtain ⟨bb, off, ak, ck, rfl, hSb, k1, k2, k3, k4, hat⟩ := tget H1.out htk
          have k1 := HE.out.cell k1
          have k2 := HE.out.cell k2
          have k3 := HE.out.cell k3
          have k4 := HE.out.cell k4
          have hvk := valid_kid HVAL.out (List.mem_of_getElem? htk)
          have hcf : countF tk = Tm.sz tk := by rw [countF_eq, if_pos hvk]
          have HW := Lib.hid (Tm.at_ext HE.out hat)
          have hst := szL_take htk
          have hsn := szL_snoc htk
          have HSN := Lib.hid hsn
          have HCF := Lib.hid hcf
          have hb1 : Tm.szL (t.kids.take j) + Tm.sz tk ≤ 120 := by have := HSK.out; omega
          clear htk hSb hat hvk hcf hsn
          go_wp2_with fail
          refine (implCountNodes tk _ _ _ HW.out).mono ?_
          rw [HCF.out]
          rintro e w5 ⟨rfl, e5⟩
          have HE := Lib.hid (HE.out.trans e5)
          clear e5
          go_wp2_with fail
          go_roundw
          case rel => exact ⟨j + 1, by omega, by go_num, by rw [HSN.out]; congr 1; omega, HE⟩
          case measure => simp [intOf]; omega
        · have hjj : Tm.szL (t.kids.take j) = Tm.szL t.kids := by rw [List.take_of_length_le (by omega)]
          have hfin : 1 + Tm.szL (t.kids.take j) = n := by rw [hjj]; exact HSK.out.symm
          rw [hfin]
          have V := Lib.hid (Tm.at_ext HE.out V.out)
          have HE2 := Lib.hid (B.out.trans HE.out)
          clear hjj hfin
          go_wp2_with fail
          refine (implTermVars t _ _ _ V.out).mono ?_
          rintro e w5 ⟨v5, rfl, hI, e5⟩
          obtain ⟨a5, c5, rfl⟩ := hI.form
          have HE2 := Lib.hid (HE2.out.trans e5)
          clear hI e5
          go_wp2_with fail
          go_ret
          exact ⟨rfl, HE2.out⟩
  · go_enter Try.func8, Try.ntmps8
    go_wp2_with fail
    go_ret
    exact ⟨rfl, Below.refl _ _⟩

set_option maxRecDepth 100000 in
theorem lifted (os : Os) (started : os.Started) (H : Type) (enc : TypeId × Value → H) :
    ReturnsInHanded {} Try.checked os 8 .any (Rows.fnCountNodesSpec.pre6 enc Try.prog Try.f8 Rows.fnCountNodesRow.domain false) (Rows.fnCountNodesSpec.post enc Try.prog Try.f8 false true false false) := by
  refine returnsInHanded_of_change (C := Try.checked) own started (by kernel_rfl) Try.func8
    (ChangeSpec.witness6 (enc := enc) (C := Try.checked) false ⟨#[], #[.slice none 0 0], []⟩ 8 (by kernel_rfl) (by kernel_rfl) (by kernel_rfl) (by kernel_rfl)) ?_
  intro W base args ds gs before hval0 hW hcnd _
  have hval : ∀ (j : Nat) t v, Try.f8.params[j]? = some t → args[j]? = some v → Value.okWide Try.prog W .any base t v := hval0
  have hW' := hW
  obtain ⟨p, q, hA0, hV, rfl, hfz, hnd⟩ := hW
  have hA : DataW.TrodAll enc Try.prog W 0 (fun _ => true) true Try.f8.params.toList args.toList ds p := hA0
  rw [Try.params8] at hA hval
  obtain ⟨v0, vs0, d0, ds0, p0, q0, hargs, rfl, rfl, h0, r0⟩ := trodAll_cons hA
  obtain ⟨rfl, rfl, rfl⟩ := trodAll_nil r0
  obtain rfl : args = #[v0] := by cases args; simp_all
  obtain ⟨rfl, rfl⟩ := trodVars_none hV
  have k0 := h0
  have lt0 : ∀ x ∈ p0, x.block < W.heap.size := by obtain ⟨m, hm⟩ := k0; exact DataW.trod_lt m _ _ _ hm
  obtain ⟨a0, len0, cap0, rfl⟩ := okWide_slice Try.underlying22 (hval 0 22 v0 rfl rfl)
  have w0 := bytes_of_trod h0
  clear hA0 hval0 hval
  refine (walk _ W w0).mono fun e W' ⟨he, bel⟩ => ?_
  subst he
  exact ⟨_, rfl, _, _, _, [], _, [], hW', trodAll_mk1 (shut_bool Try.underlying4 _), (trodAll_cons_mk (Below.trod laidOut (by kernel_rfl) (of_decide_eq_true (by kernel_rfl)) k0 bel lt0) trodAll_mk0), rfl, bel.frame _, fun h => by cases h⟩

set_option maxRecDepth 100000 in
theorem over : Rows.fnCountNodesRow.holds Try.pinned (OpenSpec.ofChange Rows.fnCountNodesSpec) :=
  OpenClaim.holds_of_wide 8 Try.f8 rfl rfl rfl rfl rfl rfl rfl ⟨rfl, rfl, rfl, rfl, rfl⟩ rfl rfl rfl rfl rfl (by kernel_rfl) Try.func8 (by kernel_rfl)
    (of_decide_eq_true (by kernel_rfl)) (by unfold Func.isWrapper; first | (rw [if_pos (by decide +kernel)]; kernel_rfl) | (rw [if_neg (by decide +kernel)]; exact ⟨rfl, rfl⟩))
    (fun os started H enc _ => lifted os started H enc)

/-- the statement -/
theorem proved : Rows.FnCountNodesSaid := over
end Go.Proofs.Ytkbnohfmdbmemaa.fnCountNodes
