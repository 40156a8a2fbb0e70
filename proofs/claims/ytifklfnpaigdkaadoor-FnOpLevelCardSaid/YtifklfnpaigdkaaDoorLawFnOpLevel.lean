/-
  For every code FnOpLevel returns true: the levels are those of the reference, and a term with an operator between two atoms is written with it.
-/
import Derived.Test.YtifklfnpaigdkaaDoorRows
import Derived.Test.YtifklfnpaigdkaaDoorOpT
import Derived.Test.YtifklfnpaigdkaaDoorTxtI6
import Derived.Test.YtifklfnpaigdkaaDoorBRep
import Derived.ProofKit
import Derived.OpenShut
import Derived.ShutString
import Derived.Test.YtifklfnpaigdkaaDoorCards
import Derived.Test.YtifklfnpaigdkaaDoorTie
import Derived.LaidMore
import Derived.Lay
import Derived.SevenTiedAt
import Derived.Stop.Joined
import Derived.Stop.LaidErr
import Derived.Lib.LaidTab
namespace Go.Proofs.YtifklfnpaigdkaaDoor.fnOpLevel
open Go.ChangeShapes Go.WideShapes Go.ChangeAt Go.RowKit
open Go.ChangeMaps (open_string shut_string)
set_option linter.unusedVariables false

theorem own : ownKnob Tryd.prog.godebug = none := by kernel_rfl
theorem laidOut : laidOutB Tryd.prog = true := by kernel_rfl


theorem struct_at' {S : Nat → Prop} {w : World} {s : ByteArray} {sv : Value} {ks : List Tm} (hs : s.size ≤ 1048576) (h : Tm.sl S w ks sv) : Tm.at S w (.mk 3 0 s ks) (.agg #[.int .i64 3, .int .i64 0, .string s, sv]) := ⟨hs, sv, rfl, h⟩
set_option maxRecDepth 100000 in
set_option maxHeartbeats 2000000 in
theorem walk (v : Value) (w : World) (htab : TabW w) (hv : BytesAt w v) :
    Calls Tryd.prog 6 #[v] w fun e w' => e = .returned (.bool true) ∧ Below w.heap.size w w' := by
  have HV := Lib.hid hv
  have HTAB := Lib.hid htab
  clear htab
  obtain ⟨a, len, cap, rfl, h1, h2, h3⟩ := hv
  clear h3
  by_cases hl : len ≤ 1048576
  · go_enter Tryd.func6, Tryd.ntmps6
    go_wp2_with fail
    refine (drawOpLevel _ _ HV.out).mono ?_
    rintro e w1 ⟨s, rfl, hs, e1⟩
    have hss : s.size ≤ 1048576 := (show ∀ z ∈ olNames, z.size ≤ 1048576 by decide) s hs
    have B := Lib.hid e1
    have HS := Lib.hid hs
    have hne : (opLevelF s.toList != opLevelF s.toList) = false := by simp
    have hnb : ((opLevelF s.toList == 1 || opLevelF s.toList == 2) != (opLevelF s.toList == 1 || opLevelF s.toList == 2)) = false := by simp
    clear hs e1
    go_wp2_with (first | (go_at_call 18; refine (implOpLevel s _).mono ?_; rintro e w2 ⟨rfl, rfl⟩) | (go_at_call 19; refine (specOpLevel s _).mono ?_; rintro e w2 ⟨rfl, rfl⟩))
    have hA : ∀ (S : Nat → Prop) (w' : World), Tm.at S w' aT (.agg #[.int .i64 3, .int .i64 0, .string ⟨#[97]⟩, .slice none 0 0]) := fun S w' => struct_at' (by decide) ⟨none, 0, rfl, by simp, by omega, by simp, .inl rfl⟩
    obtain ⟨W, hW⟩ : ∃ W, W = (((w1.alloc (.cells #[.int .i64 3, .int .i64 0, .string ⟨#[97]⟩, .slice none 0 0] 29)).alloc (.cells #[.int .i64 3, .int .i64 0, .string ⟨#[97]⟩, .slice none 0 0, .int .i64 3, .int .i64 0, .string ⟨#[97]⟩, .slice none 0 0] 29)).alloc (.cells #[.int .i64 3, .int .i64 0, .string s, .slice (some ⟨w1.heap.size + 1, 0, none⟩) 2 2] 29)) := ⟨_, rfl⟩
    have X8 := Lib.hid (((BoxT.new w1 (.int .i64 3) (.int .i64 0) (.string ⟨#[97]⟩) (.slice none 0 0) 29 rfl).ext (Ext.alloc _ _)).ext (hW ▸ Ext.alloc _ _))
    have X9 : Hid (BoxT W (w1.heap.size + 2) (.int .i64 3) (.int .i64 0) (.string s) (.slice (some ⟨w1.heap.size + 1, 0, none⟩) 2 2)) := Lib.hid (hW ▸ BoxT.new _ _ _ _ _ 29 (by simp))
    have VT : Hid (Tm.at (fun b => False ∨ b = w1.heap.size + 1) W (opT s aT) (.agg #[.int .i64 3, .int .i64 0, .string s, .slice (some ⟨w1.heap.size + 1, 0, none⟩) 2 2])) := Lib.hid (by
      refine struct_at' hss ?_
      have h := sl_new (S := fun _ => False) (w := w1.alloc (.cells #[.int .i64 3, .int .i64 0, .string ⟨#[97]⟩, .slice none 0 0] 29)) (ts := [aT, aT]) (xs := tcells aT none 0 ++ (tcells aT none 0 ++ [])) (cs := #[.int .i64 3, .int .i64 0, .string ⟨#[97]⟩, .slice none 0 0, .int .i64 3, .int .i64 0, .string ⟨#[97]⟩, .slice none 0 0]) (T := 29) (n := 2) ⟨none, 0, _, rfl, hA _ _, none, 0, _, rfl, hA _ _, rfl⟩ rfl rfl (by omega)
      have e : (w1.alloc (.cells #[.int .i64 3, .int .i64 0, .string ⟨#[97]⟩, .slice none 0 0] 29)).heap.size = w1.heap.size + 1 := by simp
      rw [e] at h
      rw [hW]
      exact Tm.sl_ext (Ext.alloc _ _) h)
    have BW : Hid (Ext w W) := Lib.hid (B.out.trans (hW ▸ ((Ext.alloc _ _).trans (Ext.alloc _ _)).trans (Ext.alloc _ _)))
    have sW : W.heap.size = w1.heap.size + 3 := by rw [hW]; simp
    rw [← hW]
    clear hW B
    refine (implWriteTerm (opT s aT) _ _ _ VT.out (HTAB.out.ext BW.out)).mono ?_
    rintro e w4 ⟨rfl, e4⟩
    have X8 := Lib.hid (X8.out.ext e4)
    have X9 := Lib.hid (X9.out.ext e4)
    have VT := Lib.hid (Tm.at_ext e4 VT.out)
    have BW := Lib.hid (BW.out.trans e4)
    have s4 := Below.size e4
    obtain ⟨b0, b1, b2, b3, _, _, _, _⟩ := X8.out
    obtain ⟨d0, d1, d2, d3, _, _, _, _⟩ := X9.out
    clear e4
    by_cases hop : 0 < opLevelF s.toList
    · have hz : (opLevelF s.toList == 0) = false := by simp; omega
      obtain ⟨l1, hl1, hl2⟩ := one_text hop (ol_name HS.out hop)
      obtain ⟨c, r, hr1, hr2, hr3⟩ := two_text hop (ol_name HS.out hop)
      have HR2 := Lib.hid hr2
      have HR1 := Lib.hid hr1
      rw [hl1]
      clear hr1 hr2 hop hl1
      have hq : ∀ n : Nat, n < 256 → (c == UInt8.ofNat n) = ((c.toNat : Int) == (n : Int)) := fun n hn => by
        rw [Bool.eq_iff_iff]
        simp only [beq_iff_eq]
        constructor
        · rintro rfl; rw [UInt8.toNat_ofNat']; omega
        · intro h; rw [show n = c.toNat by omega]; simp
      have hc : ((c.toNat : Int) == 97) = (opLevelF s.toList == 1 || opLevelF s.toList == 2) := by
        rw [← HR2.out]; exact (hq 97 (by omega)).symm
      have hbb : ((opLevelF s.toList == 1 || opLevelF s.toList == 2) == (opLevelF s.toList == 1 || opLevelF s.toList == 2)) = true := by simp
      have hs1 : (bs (97 :: (l1 ++ [97]))).size = l1.length + 2 := by rw [bs_size]; simp
      have hs2 : (bs (c :: r)).size = r.length + 1 := by rw [bs_size]; simp
      have hg1 := fun h => bs_get0 97 (l1 ++ [97]) h
      have hg2 := fun h => bs_get0 c r h
      have hg3 : ∀ h : l1.length + 1 < (bs (97 :: (l1 ++ [97]))).size, (bs (97 :: (l1 ++ [97])))[l1.length + 1] = 97 := fun h => by
        rw [← bl_get _ _ h]
        simp only [bs_list]
        simp
      have hwr : IntKind.i64.wrap ((l1.length : Int) + 2 - 1) = ((l1.length + 1 : Nat) : Int) := by rw [show (l1.length : Int) + 2 - 1 = ((l1.length + 1 : Nat) : Int) by omega]; exact IntWalk.i64_in _ (by omega)
      clear hq
      go_wp2_with fail
      have VU := Lib.hid (show Tm.at (fun b => (False ∨ b = w1.heap.size + 1) ∨ b = w4.heap.size) ((w4.alloc (.cells #[.int .i64 3, .int .i64 0, .string s, .slice (some ⟨w1.heap.size + 1, 0, none⟩) 2 2, .int .i64 3, .int .i64 0, .string ⟨#[97]⟩, .slice none 0 0] 29)).alloc (.cells #[.int .i64 3, .int .i64 0, .string s, .slice (some ⟨w4.heap.size, 0, none⟩) 2 2] 29)) (opT s (opT s aT)) (.agg #[.int .i64 3, .int .i64 0, .string s, .slice (some ⟨w4.heap.size, 0, none⟩) 2 2]) from by
        refine struct_at' hss (Tm.sl_ext (Ext.alloc _ _) ?_)
        exact sl_new (ts := [opT s aT, aT]) (xs := tcells (opT s aT) (some ⟨w1.heap.size + 1, 0, none⟩) 2 ++ (tcells aT none 0 ++ [])) ⟨some ⟨w1.heap.size + 1, 0, none⟩, 2, _, rfl, VT.out, none, 0, _, rfl, hA _ _, rfl⟩ rfl rfl (by omega))
      refine (implWriteTerm (opT s (opT s aT)) _ _ _ VU.out (HTAB.out.ext (BW.out.trans ((Ext.alloc _ _).trans (Ext.alloc _ _))))).mono ?_
      rw [HR1.out]
      rintro e w5 ⟨rfl, e5⟩
      have BF := Lib.hid (BW.out.trans (((Ext.alloc _ _).trans (Ext.alloc _ _)).trans e5))
      clear VU e5 hA
      go_wp2_with fail
      go_ret
      exact ⟨rfl, BF.out⟩
    · have hz : (opLevelF s.toList == 0) = true := by have := opLevel_nn s.toList; simp; omega
      clear hop
      go_wp2_with fail
      go_ret
      refine ⟨retB (by simp), ?_⟩
      exact BW.out.trans ((Ext.alloc _ _).trans (Ext.alloc _ _))
  · go_enter Tryd.func6, Tryd.ntmps6
    go_wp2_with fail
    go_ret
    exact ⟨rfl, Below.refl _ _⟩

theorem laidTab {W : World} (h : laidMetH Tryd.prog Rows.fnOpLevelRow.laid W) : TabW W := by
  rw [MakeChecks.laidMetH_plain _ _ _ (by kernel_rfl)] at h
  have h3 : laidMet Tryd.prog [("internal/strconv.uint64pow10", Lib.tabData .u64 Lib.pow10Tab)] W := laidMet.tail (laidMet.tail h)
  exact Lib.tabIs_of_head (g := 0) (by kernel_rfl) (by kernel_rfl) Tryd.underlying103 Tryd.underlying94 (by kernel_rfl) (by kernel_rfl) h3

set_option maxRecDepth 100000 in
theorem lifted (os : Os) (started : os.Started) (H : Type) (enc : TypeId × Value → H) :
    ReturnsInHanded {} Tryd.checked os 6 .any (fun w args => (Rows.fnOpLevelSpec.pre enc Tryd.prog Tryd.f6 Rows.fnOpLevelRow.domain false w args ∧ laidMetH Tryd.prog Rows.fnOpLevelRow.laid w) ∧ sizedMet enc Tryd.prog Tryd.f6 (OpenSpec.ofChange Rows.fnOpLevelSpec) false w args)
      (Rows.fnOpLevelSpec.post enc Tryd.prog Tryd.f6 false true false false) := by
  refine returnsInHanded_of_change_and (C := Tryd.checked) (X := fun w _ => laidMetH Tryd.prog Rows.fnOpLevelRow.laid w) (fun _ _ _ hh h => h.of_heap hh) own started (by kernel_rfl) Tryd.func6
    (ChangeSpec.witness_shaped (enc := enc) (C := Tryd.checked) (os := os) (X := fun w _ => laidMetH Tryd.prog Rows.fnOpLevelRow.laid w) false (World.laidAll Tryd.prog os Rows.fnOpLevelRow.laid) #[.slice none 0 0] 8 (World.laidAll_os _ _ _)
      (World.shaped_of_ZipB (by kernel_rfl) (by kernel_rfl)) (by kernel_rfl) (by kernel_rfl) (by kernel_rfl)
      (by rw [MakeChecks.laidMetH_plain _ _ _ (by kernel_rfl)]; exact laidMet_laidAll _ (by kernel_rfl) (by kernel_rfl))) ?_
  intro W base args ds gs before hval0 hW hcnd _ hL _
  have htab := laidTab hL
  have hval : ∀ (j : Nat) t v, Tryd.f6.params[j]? = some t → args[j]? = some v → Value.okWide Tryd.prog W .any base t v := hval0
  have hW' := hW
  obtain ⟨p, q, hA0, hV, rfl, hfz, hnd⟩ := hW
  have hA : DataW.TrodAll enc Tryd.prog W 0 (fun _ => true) true Tryd.f6.params.toList args.toList ds p := hA0
  rw [Tryd.params6] at hA hval
  obtain ⟨v0, vs0, d0, ds0, p0, q0, hargs, rfl, rfl, h0, r0⟩ := trodAll_cons hA
  obtain ⟨rfl, rfl, rfl⟩ := trodAll_nil r0
  obtain rfl : args = #[v0] := by cases args; simp_all
  obtain ⟨rfl, rfl⟩ := trodVars_none hV
  have k0 := h0
  have lt0 : ∀ x ∈ p0, x.block < W.heap.size := by obtain ⟨m, hm⟩ := k0; exact DataW.trod_lt m _ _ _ hm
  obtain ⟨a0, len0, cap0, rfl⟩ := okWide_slice Tryd.underlying33 (hval 0 33 v0 rfl rfl)
  have w0 := bytes_of_trod h0
  clear hA0 hval0 hval
  refine (walk _ W htab w0).mono fun e W' ⟨he, bel⟩ => ?_
  subst he
  exact ⟨_, rfl, _, _, _, [], _, [], hW', trodAll_mk1 (shut_bool Tryd.underlying4 _), (trodAll_cons_mk (Below.trod laidOut (by kernel_rfl) (of_decide_eq_true (by kernel_rfl)) k0 bel lt0) trodAll_mk0), rfl, bel.frame _, fun h => by cases h⟩

set_option maxRecDepth 100000 in
theorem over : Rows.fnOpLevelRow.holds Tryd.pinned (OpenSpec.ofChange Rows.fnOpLevelSpec) :=
  OpenClaim.holds_of_wide 6 Tryd.f6 rfl rfl rfl rfl rfl rfl rfl ⟨rfl, rfl, rfl, rfl, rfl⟩ rfl rfl rfl rfl rfl (by kernel_rfl) Tryd.func6 (by kernel_rfl)
    (of_decide_eq_true (by kernel_rfl)) (by unfold Func.isWrapper; first | (rw [if_pos (by decide +kernel)]; kernel_rfl) | (rw [if_neg (by decide +kernel)]; exact ⟨rfl, rfl⟩))
    (fun os started H enc _ => lifted os started H enc)

/-- the statement -/
theorem proved : Rows.FnOpLevelCardSaid :=
  Claim7.holds_tied_plain_at .later [] [.data, .data, .data] true (true, "0b67ecbb2604b4d1b6f27536831d155df0e51643cddc244523c0cec399035d6c") false over (fun _ h => by cases h) (by kernel_rfl) (fun _ h => by cases h) fnOpLevel_row_tie rfl ⟨rfl, rfl⟩ (by kernel_rfl) rfl
    (fun f fn hf hfn => by
      obtain rfl : f = 6 := Option.some.inj ((show Tryd.prog.funcNamed "loop.example/prologserver/laws.FnOpLevel" = some 6 by kernel_rfl).symm.trans hf) |>.symm
      obtain rfl : fn = Tryd.f6 := (Option.some.inj (Tryd.func6.symm.trans hfn)).symm
      exact ⟨by kernel_rfl, fun j t ht => by
        rw [Tryd.params6] at ht
        have hm : t ∈ [33] := by simpa using Array.mem_of_getElem? ht
        have hall : ([33].all fun u => !Tryd.prog.wantsStandIn u) = true := by kernel_rfl
        exact (show Tryd.prog.wantsStandIn t = false by simpa using List.all_eq_true.1 hall t hm)⟩)
    (by kernel_rfl)
end Go.Proofs.YtifklfnpaigdkaaDoor.fnOpLevel
