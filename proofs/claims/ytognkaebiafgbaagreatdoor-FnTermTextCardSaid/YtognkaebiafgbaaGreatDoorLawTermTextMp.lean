/-
  For all codes FnTermText returns true: a drawn term is read back from its text, and a drawn text is read alike by the program and the reference, and written back if it is read.
-/
import Derived.Test.YtognkaebiafgbaaGreatDoorRows
import Derived.Test.YtognkaebiafgbaaGreatDoorMp37
import Derived.Test.YtognkaebiafgbaaGreatDoorMp47
import Derived.Test.YtognkaebiafgbaaGreatDoorDrawPtMp
import Derived.Test.YtognkaebiafgbaaGreatDoorBRepMp
import Derived.Deep.RegionHeld3
import Derived.ProofKit
import Derived.OpenShut
import Derived.ShutString
import Derived.Test.YtognkaebiafgbaaGreatDoorCards
import Derived.Test.YtognkaebiafgbaaGreatDoorTie
import Derived.LaidMore
import Derived.Lay
import Derived.SevenTiedAt
import Derived.Stop.Joined
import Derived.Stop.LaidErr
import Derived.Lib.LaidTab
namespace Go.Proofs.YtognkaebiafgbaaGreatDoor.fnTermText
open Go.ChangeShapes Go.WideShapes Go.ChangeAt Go.RowKit
open Go.ChangeMaps (open_string shut_string)
set_option linter.unusedVariables false

theorem own : ownKnob Tryz.prog.godebug = none := by kernel_rfl
theorem laidOut : laidOutB Tryz.prog = true := by kernel_rfl


theorem parse_back (t : Tm) : parseB (bs (formatF false t)) = validF t ∧ (validF t = true → parseT (bs (formatF false t)) = t) := by
  unfold parseB parseT formatF
  rw [bs_list]
  cases hv : validF t with
  | true => simp only [if_true]; rw [parseO_some hv]; exact ⟨rfl, fun _ => rfl⟩
  | false =>
    simp only [Bool.false_eq_true, if_false]
    rw [parseO_none (fun u hu h => tx_ne false u 30 (valid_parts hu).1 h)]
    exact ⟨rfl, fun h => by cases h⟩
theorem parse_text (u : ByteArray) (h : parseB u = true) : ((bs (formatF false (parseT u))).toList == u.toList) = true := by
  unfold parseB at h
  unfold parseT
  cases e : parseO u.toList with
  | none => rw [e] at h; cases h
  | some t =>
    obtain ⟨h1, h2⟩ := parseO_spec e
    simp only [Option.getD_some]
    unfold formatF
    rw [if_pos h1, bs_list, h2]
    simp
theorem format_size (t : Tm) : (bs (formatF false t)).size ≤ 1048576 := by
  rw [bs_size]
  unfold formatF
  split
  · rename_i h; have := valid_size h; omega
  · simp
set_option maxRecDepth 100000 in
set_option maxHeartbeats 4000000 in
theorem walk (v0 v1 : Value) (w : World) (htab : LibG w) (hv0 : BytesAt w v0) (hv1 : BytesAt w v1) :
    Calls Tryz.prog 9 #[v0, v1] w fun e w' => e = .returned (.bool true) ∧ Below w.heap.size w w' := by
  have HV0 := Lib.hid hv0
  have HV1 := Lib.hid hv1
  have HTAB := Lib.hid htab
  clear htab
  obtain ⟨a, len, cap, rfl, h1, h2, h3⟩ := hv0
  obtain ⟨a', len', cap', rfl, h1', h2', h3'⟩ := hv1
  clear h3 h3'
  by_cases hl : len ≤ 1048576
  · by_cases hl' : len' ≤ 1048576
    · go_enter Tryz.func9, Tryz.ntmps9
      go_wp2_with fail
      refine (drawFormatTerm _ _ HV0.out).mono ?_
      rintro e w1 ⟨t, v1, rfl, ht, e1⟩
      obtain ⟨a1, c1, rfl⟩ := at_form ht
      have ea := Ext.alloc w1 (.cells #[.int .i64 t.kind, .int .i64 t.n, .string t.name, .slice a1 t.kids.length c1] 25)
      have X := Lib.hid (BoxT.new w1 (.int .i64 t.kind) (.int .i64 t.n) (.string t.name) (.slice a1 t.kids.length c1) 25 rfl)
      have V := Lib.hid (Tm.at_ext ea ht)
      have B := Lib.hid (e1.trans ea)
      obtain ⟨hpb, hpt⟩ := parse_back t
      have HPT := Lib.hid hpt
      have hF := format_size t
      obtain ⟨F, hFe⟩ : ∃ F, bs (formatF false t) = F := ⟨_, rfl⟩
      have HFE := Lib.hid hFe
      rw [hFe] at hpb hF
      rw [hFe] at HPT
      have hne : (F.toList != F.toList) = false := by simp
      have IP := Lib.hid (fun w' (e : Ext w w') => implParseTerm F w' hF (HTAB.out.ext e))
      rw [hpb] at IP
      clear e1 ea ht hpt hpb
      go_wp2_with fail
      refine (implFormatTerm t _ _ _ V.out (HTAB.out.ext B.out).1).mono ?_
      rw [HFE.out]
      rintro e w2 ⟨rfl, e2⟩
      have V := Lib.hid (Tm.at_ext e2 V.out)
      have X := Lib.hid (X.out.ext e2)
      have B := Lib.hid (B.out.trans e2)
      clear e2
      go_wp2_with fail
      refine (IP.out _ B.out).mono ?_
      rintro e w3 ⟨ap, cp, rfl, ho, e3⟩
      obtain ⟨tp, htp⟩ : ∃ tp, parseT F = tp := ⟨_, rfl⟩
      rw [htp] at ho HPT ⊢
      have P := Lib.hid (Tm.at_ext (Ext.alloc w3 (.cells #[.int .i64 tp.kind, .int .i64 tp.n, .string tp.name, .slice ap tp.kids.length cp] 25)) (own_flat tp ap cp ho))
      have V := Lib.hid (Tm.at_ext (Ext.alloc w3 (.cells #[.int .i64 tp.kind, .int .i64 tp.n, .string tp.name, .slice ap tp.kids.length cp] 25)) (Tm.at_ext e3 V.out))
      have X := Lib.hid ((X.out.ext e3).ext (Ext.alloc w3 (.cells #[.int .i64 tp.kind, .int .i64 tp.n, .string tp.name, .slice ap tp.kids.length cp] 25)))
      have XP := Lib.hid (BoxT.new w3 (.int .i64 tp.kind) (.int .i64 tp.n) (.string tp.name) (.slice ap tp.kids.length cp) 25 rfl)
      have B := Lib.hid (B.out.trans (e3.trans (Ext.alloc w3 (.cells #[.int .i64 tp.kind, .int .i64 tp.n, .string tp.name, .slice ap tp.kids.length cp] 25))))
      clear ho e3
      go_upto_region 6 with (fail)
      obtain ⟨wR, hwR⟩ : ∃ z, z = w3.alloc (.cells #[.int .i64 tp.kind, .int .i64 tp.n, .string tp.name, .slice ap tp.kids.length cp] 25) := ⟨_, rfl⟩
      rw [← hwR] at P V X XP B ⊢
      clear hwR
      have BR := Lib.hid B.out
      have PR := Lib.hid P.out
      have VR := Lib.hid V.out
      obtain ⟨b0, b1, b2, b3, _, _, _, _⟩ := X.out
      obtain ⟨d0, d1, d2, d3, _, _, _, _⟩ := XP.out
      have k0 := cell_regrown b0
      have k1 := cell_regrown b1
      have k2 := cell_regrown b2
      have k3 := cell_regrown b3
      have j0 := cell_regrown d0
      have j1 := cell_regrown d1
      have j2 := cell_regrown d2
      have j3 := cell_regrown d3
      have cF := quiet_call (w := wR) (fun w' e' => (show Calls Tryz.prog 44 #[.agg #[.int .i64 t.kind, .int .i64 t.n, .string t.name, .slice a1 t.kids.length c1]] w' fun e w'' => e = .returned (.string F) ∧ Ext w' w'' from HFE.out ▸ specFormatTerm t _ _ w' (Tm.at_ext e' VR.out)))
      have cI := quiet_call (w := wR) (fun w' e' => implTermValid t _ _ w' (Tm.at_ext e' VR.out))
      have cS := quiet_call (w := wR) (fun w' e' => specTermValid t _ _ w' (Tm.at_ext e' VR.out))
      have rest : ∀ wq : World, Ext wR wq → True := fun _ _ => trivial
      clear rest b0 b1 b2 b3 d0 d1 d2 d3
      cases hv : validF t
      · rw [hv] at cI cS
        clear hv
        go_wp2_with fail
        refine region_ext (by kernel_rfl) (by kernel_rfl) ?_
        repeat (go_big_quiet_step (first | with_reducible exact cF _ _ | with_reducible exact cI _ _ | with_reducible exact cS _ _))
        refine wpQuiet_nil ?_
        intro wq eq
        have B := Lib.hid (BR.out.trans eq)
        clear eq k0 k1 k2 k3 j0 j1 j2 j3 cF cI cS
        go_wp2_with fail
        refine (drawParseTerm _ _ (HV1.out.ext B.out)).mono ?_
        rintro e w4 ⟨u, rfl, hu, e4⟩
        have B := Lib.hid (B.out.trans e4)
        have hus : u.size ≤ 1048576 := by omega
        have HPX := Lib.hid (parse_text u)
        have IP2 := Lib.hid (fun w' (e : Ext w w') => implParseTerm u w' hus (HTAB.out.ext e))
        have SP2 := Lib.hid (fun w' => (show Calls Tryz.prog 37 #[.string u] w' (TmBR (parseT u) (parseB u) w') from specParseTerm u w' hus))
        generalize parseT u = tg at IP2 SP2 HPX
        generalize parseB u = bg at IP2 SP2 HPX
        clear e4
        go_wp2_with fail
        refine (IP2.out _ B.out).mono ?_
        rintro e w5 ⟨ag, cg, rfl, ho, e5⟩
        have G := Lib.hid (Tm.at_ext (Ext.alloc w5 (.cells #[.int .i64 tg.kind, .int .i64 tg.n, .string tg.name, .slice ag tg.kids.length cg] 25)) (own_flat tg ag cg ho))
        have XG := Lib.hid (BoxT.new w5 (.int .i64 tg.kind) (.int .i64 tg.n) (.string tg.name) (.slice ag tg.kids.length cg) 25 rfl)
        have B := Lib.hid (B.out.trans (e5.trans (Ext.alloc w5 (.cells #[.int .i64 tg.kind, .int .i64 tg.n, .string tg.name, .slice ag tg.kids.length cg] 25))))
        have SP3 := Lib.hid (SP2.out (w5.alloc (.cells #[.int .i64 tg.kind, .int .i64 tg.n, .string tg.name, .slice ag tg.kids.length cg] 25)))
        clear ho e5
        go_wp2_with fail
        refine SP3.out.mono ?_
        rintro e w6 ⟨aw, cw, rfl, hw, e6⟩
        have W := Lib.hid (Tm.at_ext (Ext.alloc w6 (.cells #[.int .i64 tg.kind, .int .i64 tg.n, .string tg.name, .slice aw tg.kids.length cw] 25)) hw)
        have XW := Lib.hid (BoxT.new w6 (.int .i64 tg.kind) (.int .i64 tg.n) (.string tg.name) (.slice aw tg.kids.length cw) 25 rfl)
        have e66 := e6.trans (Ext.alloc w6 (.cells #[.int .i64 tg.kind, .int .i64 tg.n, .string tg.name, .slice aw tg.kids.length cw] 25))
        have G := Lib.hid (Tm.at_ext e66 G.out)
        have XG := Lib.hid (XG.out.ext e66)
        have B := Lib.hid (B.out.trans e66)
        clear hw e6 e66
        go_upto_region 11 with (fail)
        obtain ⟨wT, hwT⟩ : ∃ z, z = w6.alloc (.cells #[.int .i64 tg.kind, .int .i64 tg.n, .string tg.name, .slice aw tg.kids.length cw] 25) := ⟨_, rfl⟩
        rw [← hwT] at G W XG XW B ⊢
        clear hwT
        obtain ⟨b0, b1, b2, b3, _, _, _, _⟩ := XG.out
        obtain ⟨d0, d1, d2, d3, _, _, _, _⟩ := XW.out
        cases bg
        · go_wp2_with fail
          refine (implTermSame _ tg tg _ _ _ _ _ (Nat.le_refl _) G.out W.out).mono ?_
          rw [same_refl]
          rintro e wz ⟨rfl, ez⟩
          go_wp2_with fail
          go_ret
          exact ⟨rfl, B.out.trans ez⟩
        · have hcm := HPX.out rfl
          have hcm2 : (bs (formatF false tg)).toList = u.toList := by simpa using hcm
          go_wp2_with fail
          refine (implTermSame _ tg tg _ _ _ _ _ (Nat.le_refl _) G.out W.out).mono ?_
          rw [same_refl]
          rintro e wz ⟨rfl, ez⟩
          have GZ := Lib.hid (Tm.at_ext ez G.out)
          have BZ := Lib.hid (B.out.trans ez)
          obtain ⟨p0, p1, p2, p3, _, _, _, _⟩ := XG.out.ext ez
          clear ez b0 b1 b2 b3 d0 d1 d2 d3
          go_wp2_with fail
          refine (implFormatTerm tg _ _ _ GZ.out (HTAB.out.ext BZ.out).1).mono ?_
          rintro e wy ⟨rfl, ey⟩
          go_wp2_with fail
          go_ret
          first
          | exact ⟨rfl, BZ.out.trans ey⟩
          | exact ⟨retB (by simp [hcm2]), BZ.out.trans ey⟩
      · have htt : tp = t := HPT.out hv
        subst htt
        rw [hv] at cI cS
        have cT := quiet_call (w := wR) (fun w' e' => implTermSame _ tp tp _ _ _ _ w' (Nat.le_refl _) (Tm.at_ext e' PR.out) (Tm.at_ext e' VR.out))
        rw [same_refl] at cT
        clear hv
        go_wp2_with fail
        refine region_ext (by kernel_rfl) (by kernel_rfl) ?_
        repeat (go_big_quiet_step (first | with_reducible exact cF _ _ | with_reducible exact cI _ _ | with_reducible exact cS _ _ | with_reducible exact cT _ _))
        refine wpQuiet_nil ?_
        intro wq eq
        have B := Lib.hid (BR.out.trans eq)
        clear eq k0 k1 k2 k3 j0 j1 j2 j3 cF cI cS cT
        go_wp2_with fail
        refine (drawParseTerm _ _ (HV1.out.ext B.out)).mono ?_
        rintro e w4 ⟨u, rfl, hu, e4⟩
        have B := Lib.hid (B.out.trans e4)
        have hus : u.size ≤ 1048576 := by omega
        have HPX := Lib.hid (parse_text u)
        have IP2 := Lib.hid (fun w' (e : Ext w w') => implParseTerm u w' hus (HTAB.out.ext e))
        have SP2 := Lib.hid (fun w' => (show Calls Tryz.prog 37 #[.string u] w' (TmBR (parseT u) (parseB u) w') from specParseTerm u w' hus))
        generalize parseT u = tg at IP2 SP2 HPX
        generalize parseB u = bg at IP2 SP2 HPX
        clear e4
        go_wp2_with fail
        refine (IP2.out _ B.out).mono ?_
        rintro e w5 ⟨ag, cg, rfl, ho, e5⟩
        have G := Lib.hid (Tm.at_ext (Ext.alloc w5 (.cells #[.int .i64 tg.kind, .int .i64 tg.n, .string tg.name, .slice ag tg.kids.length cg] 25)) (own_flat tg ag cg ho))
        have XG := Lib.hid (BoxT.new w5 (.int .i64 tg.kind) (.int .i64 tg.n) (.string tg.name) (.slice ag tg.kids.length cg) 25 rfl)
        have B := Lib.hid (B.out.trans (e5.trans (Ext.alloc w5 (.cells #[.int .i64 tg.kind, .int .i64 tg.n, .string tg.name, .slice ag tg.kids.length cg] 25))))
        have SP3 := Lib.hid (SP2.out (w5.alloc (.cells #[.int .i64 tg.kind, .int .i64 tg.n, .string tg.name, .slice ag tg.kids.length cg] 25)))
        clear ho e5
        go_wp2_with fail
        refine SP3.out.mono ?_
        rintro e w6 ⟨aw, cw, rfl, hw, e6⟩
        have W := Lib.hid (Tm.at_ext (Ext.alloc w6 (.cells #[.int .i64 tg.kind, .int .i64 tg.n, .string tg.name, .slice aw tg.kids.length cw] 25)) hw)
        have XW := Lib.hid (BoxT.new w6 (.int .i64 tg.kind) (.int .i64 tg.n) (.string tg.name) (.slice aw tg.kids.length cw) 25 rfl)
        have e66 := e6.trans (Ext.alloc w6 (.cells #[.int .i64 tg.kind, .int .i64 tg.n, .string tg.name, .slice aw tg.kids.length cw] 25))
        have G := Lib.hid (Tm.at_ext e66 G.out)
        have XG := Lib.hid (XG.out.ext e66)
        have B := Lib.hid (B.out.trans e66)
        clear hw e6 e66
        go_upto_region 11 with (fail)
        obtain ⟨wT, hwT⟩ : ∃ z, z = w6.alloc (.cells #[.int .i64 tg.kind, .int .i64 tg.n, .string tg.name, .slice aw tg.kids.length cw] 25) := ⟨_, rfl⟩
        rw [← hwT] at G W XG XW B ⊢
        clear hwT
        obtain ⟨b0, b1, b2, b3, _, _, _, _⟩ := XG.out
        obtain ⟨d0, d1, d2, d3, _, _, _, _⟩ := XW.out
        cases bg
        · go_wp2_with fail
          refine (implTermSame _ tg tg _ _ _ _ _ (Nat.le_refl _) G.out W.out).mono ?_
          rw [same_refl]
          rintro e wz ⟨rfl, ez⟩
          go_wp2_with fail
          go_ret
          exact ⟨rfl, B.out.trans ez⟩
        · have hcm := HPX.out rfl
          have hcm2 : (bs (formatF false tg)).toList = u.toList := by simpa using hcm
          go_wp2_with fail
          refine (implTermSame _ tg tg _ _ _ _ _ (Nat.le_refl _) G.out W.out).mono ?_
          rw [same_refl]
          rintro e wz ⟨rfl, ez⟩
          have GZ := Lib.hid (Tm.at_ext ez G.out)
          have BZ := Lib.hid (B.out.trans ez)
          obtain ⟨p0, p1, p2, p3, _, _, _, _⟩ := XG.out.ext ez
          clear ez b0 b1 b2 b3 d0 d1 d2 d3
          go_wp2_with fail
          refine (implFormatTerm tg _ _ _ GZ.out (HTAB.out.ext BZ.out).1).mono ?_
          rintro e wy ⟨rfl, ey⟩
          go_wp2_with fail
          go_ret
          first
          | exact ⟨rfl, BZ.out.trans ey⟩
          | exact ⟨retB (by simp [hcm2]), BZ.out.trans ey⟩
    · go_enter Tryz.func9, Tryz.ntmps9
      go_wp2_with fail
      go_ret
      exact ⟨rfl, Below.refl _ _⟩
  · go_enter Tryz.func9, Tryz.ntmps9
    go_wp2_with fail
    go_ret
    exact ⟨rfl, Below.refl _ _⟩

theorem errRow (u : TypeId) (h : Tryz.prog.typeName? 3 u = some "*errors.errorString") : u = 178 :=
  typeName_ptr_named (nm := "errors.errorString") (by rw [show "*" ++ "errors.errorString" = "*errors.errorString" by decide]; kernel_rfl) (by kernel_rfl) (by decide) u (by rw [show "*" ++ "errors.errorString" = "*errors.errorString" by decide]; exact h)
theorem laidTab {W : World} (h : laidMetH Tryz.prog Rows.fnTermTextRow.laid W) : LibG W := by
  rw [MakeChecks.laidMetH_plain _ _ _ (by kernel_rfl)] at h
  have h3 : laidMet Tryz.prog [("internal/strconv.uint64pow10", Lib.tabData .u64 Lib.pow10Tab), ("strconv.ErrRange", Rows.laid_strconv_ErrRange), ("strconv.ErrSyntax", Rows.laid_strconv_ErrSyntax)] W := laidMet.tail (laidMet.tail h)
  refine ⟨Lib.tabIs_of_head (g := 5) (by kernel_rfl) (by kernel_rfl) Tryz.underlying182 Tryz.underlying166 (by kernel_rfl) (by kernel_rfl) h3, ?_⟩
  have h4 := h3.tail
  obtain ⟨a1, s1, hv1, -, -, -⟩ := laid_sentinel (g := 4) h4 (by kernel_rfl) (by kernel_rfl) Tryz.underlying133 errRow Tryz.underlying178 Tryz.underlying180 rfl rfl Tryz.underlying9 (by kernel_rfl) (by kernel_rfl)
  have hg : Tryz.prog.globalNamed "strconv.ErrRange" = some 4 := by kernel_rfl
  exact ⟨_, (by have h0 := World.var?_cell hg hv1 0; simpa using h0), .inr ⟨_, _, rfl⟩⟩

set_option maxRecDepth 100000 in
theorem lifted (os : Os) (started : os.Started) (H : Type) (enc : TypeId × Value → H) :
    ReturnsInHanded {} Tryz.checked os 9 .any (fun w args => (Rows.fnTermTextSpec.pre enc Tryz.prog Tryz.f9 Rows.fnTermTextRow.domain false w args ∧ laidMetH Tryz.prog Rows.fnTermTextRow.laid w) ∧ sizedMet enc Tryz.prog Tryz.f9 (OpenSpec.ofChange Rows.fnTermTextSpec) false w args)
      (Rows.fnTermTextSpec.post enc Tryz.prog Tryz.f9 false true false false) := by
  refine returnsInHanded_of_change_and (C := Tryz.checked) (X := fun w _ => laidMetH Tryz.prog Rows.fnTermTextRow.laid w) (fun _ _ _ hh h => h.of_heap hh) own started (by kernel_rfl) Tryz.func9
    (ChangeSpec.witness_shaped (enc := enc) (C := Tryz.checked) (os := os) (X := fun w _ => laidMetH Tryz.prog Rows.fnTermTextRow.laid w) false (World.laidAll Tryz.prog os Rows.fnTermTextRow.laid) #[.slice none 0 0, .slice none 0 0] 8 (World.laidAll_os _ _ _)
      (World.shaped_of_ZipB (by kernel_rfl) (by kernel_rfl)) (by kernel_rfl) (by kernel_rfl) (by kernel_rfl)
      (by rw [MakeChecks.laidMetH_plain _ _ _ (by kernel_rfl)]; exact laidMet_laidAll _ (by kernel_rfl) (by kernel_rfl))) ?_
  intro W base args ds gs before hval0 hW hcnd _ hL _
  have htab := laidTab hL
  have hval : ∀ (j : Nat) t v, Tryz.f9.params[j]? = some t → args[j]? = some v → Value.okWide Tryz.prog W .any base t v := hval0
  have hW' := hW
  obtain ⟨p, q, hA0, hV, rfl, hfz, hnd⟩ := hW
  have hA : DataW.TrodAll enc Tryz.prog W 0 (fun _ => true) true Tryz.f9.params.toList args.toList ds p := hA0
  rw [Tryz.params9] at hA hval
  obtain ⟨v0, vs0, d0, ds0, p0, q0, hargs, rfl, rfl, h0, r0⟩ := trodAll_cons hA
  obtain ⟨v1, vs1, d1, ds1, p1, q1, rfl, rfl, rfl, h1, r1⟩ := trodAll_cons r0
  obtain ⟨rfl, rfl, rfl⟩ := trodAll_nil r1
  obtain rfl : args = #[v0, v1] := by cases args; simp_all
  obtain ⟨rfl, rfl⟩ := trodVars_none hV
  have k0 := h0
  have lt0 : ∀ x ∈ p0, x.block < W.heap.size := by obtain ⟨m, hm⟩ := k0; exact DataW.trod_lt m _ _ _ hm
  obtain ⟨a0, len0, cap0, rfl⟩ := okWide_slice Tryz.underlying22 (hval 0 22 v0 rfl rfl)
  have w0 := bytes_of_trod h0
  have k1 := h1
  have lt1 : ∀ x ∈ p1, x.block < W.heap.size := by obtain ⟨m, hm⟩ := k1; exact DataW.trod_lt m _ _ _ hm
  obtain ⟨a1, len1, cap1, rfl⟩ := okWide_slice Tryz.underlying22 (hval 1 22 v1 rfl rfl)
  have w1 := bytes_of_trod h1
  clear hA0 hval0 hval
  refine (walk _ _ W htab w0 w1).mono fun e W' ⟨he, bel⟩ => ?_
  subst he
  exact ⟨_, rfl, _, _, _, [], _, [], hW', trodAll_mk1 (shut_bool Tryz.underlying4 _), (trodAll_cons_mk (Below.trod laidOut (by kernel_rfl) (of_decide_eq_true (by kernel_rfl)) k0 bel lt0) (trodAll_cons_mk (Below.trod laidOut (by kernel_rfl) (of_decide_eq_true (by kernel_rfl)) k1 bel lt1) trodAll_mk0)), rfl, bel.frame _, fun h => by cases h⟩

set_option maxRecDepth 100000 in
theorem over : Rows.fnTermTextRow.holds Tryz.pinned (OpenSpec.ofChange Rows.fnTermTextSpec) :=
  OpenClaim.holds_of_wide 9 Tryz.f9 rfl rfl rfl rfl rfl rfl rfl ⟨rfl, rfl, rfl, rfl, rfl⟩ rfl rfl rfl rfl rfl (by kernel_rfl) Tryz.func9 (by kernel_rfl)
    (of_decide_eq_true (by kernel_rfl)) (by unfold Func.isWrapper; first | (rw [if_pos (by decide +kernel)]; kernel_rfl) | (rw [if_neg (by decide +kernel)]; exact ⟨rfl, rfl⟩))
    (fun os started H enc _ => lifted os started H enc)

/-- the statement -/
theorem proved : Rows.FnTermTextCardSaid :=
  Claim7.holds_tied_plain_at .later [] [.data, .data, .data, .sentinel, .sentinel] true (true, "d580ce3f0cecf76b5160c85a6af4b59b4c1fe95277ed45772955b74914e63acf") true over (fun _ h => by cases h) (by kernel_rfl) (fun _ h => by cases h) fnTermText_row_tie rfl ⟨rfl, rfl⟩ (by kernel_rfl) rfl
    (fun f fn hf hfn => by
      obtain rfl : f = 9 := Option.some.inj ((show Tryz.prog.funcNamed "loop.example/prologserver/laws.FnTermText" = some 9 by kernel_rfl).symm.trans hf) |>.symm
      obtain rfl : fn = Tryz.f9 := (Option.some.inj (Tryz.func9.symm.trans hfn)).symm
      exact ⟨by kernel_rfl, fun j t ht => by
        rw [Tryz.params9] at ht
        have hm : t ∈ [22, 22] := by simpa using Array.mem_of_getElem? ht
        have hall : ([22, 22].all fun u => !Tryz.prog.wantsStandIn u) = true := by kernel_rfl
        exact (show Tryz.prog.wantsStandIn t = false by simpa using List.all_eq_true.1 hall t hm)⟩)
    (by kernel_rfl)
end Go.Proofs.YtognkaebiafgbaaGreatDoor.fnTermText
