/-
  For all codes FnClauseText returns true: a drawn valid clause with a short text is read back from it, and a drawn text is read alike by the program and the reference, and written back if it is read.
-/
import Derived.Test.YtognkaebiafgbaaGreatDoorRows
import Derived.Deep.RegionHeld3
import Derived.ProofKit
import Derived.OpenShut
import Derived.ShutString
import Derived.Test.YtognkaebiafgbaaGreatDoorCards
import Derived.Test.YtognkaebiafgbaaGreatDoorTie
import Derived.LaidMore
import Derived.Lay
import Derived.SevenTiedAt
import Derived.Stop.Joined
import Derived.Stop.LaidErr
import Derived.Lib.LaidTab
import Derived.Test.YtognkaebiafgbaaGreatDoorMs37
import Derived.Test.YtognkaebiafgbaaGreatDoorMs46
import Derived.Test.YtognkaebiafgbaaGreatDoorMs33
import Derived.Test.YtognkaebiafgbaaGreatDoorMs36
import Derived.Test.YtognkaebiafgbaaGreatDoorMs32
import Derived.Test.YtognkaebiafgbaaGreatDoorMs8
namespace Go.Proofs.YtognkaebiafgbaaGreatDoor.fnClauseText
open Go.ChangeShapes Go.WideShapes Go.ChangeAt Go.RowKit
open Go.ChangeMaps (open_string shut_string)
set_option linter.unusedVariables false
theorem own : ownKnob Tryz.prog.godebug = none := by kernel_rfl
theorem laidOut : laidOutB Tryz.prog = true := by kernel_rfl
set_option maxRecDepth 100000 in
set_option maxHeartbeats 8000000 in
theorem walk (v0 v1 : Value) (w : World) (htab : LibG w) (hv0 : BytesAt w v0) (hv1 : BytesAt w v1) :
    Calls Tryz.prog 3 #[v0, v1] w fun e w' => e = .returned (.bool true) ∧ Below w.heap.size w w' := by
  have HV0 := Lib.hid hv0
  have HV1 := Lib.hid hv1
  have HTAB := Lib.hid htab
  clear htab
  obtain ⟨a, len, cap, rfl, h1, h2, h3⟩ := hv0
  obtain ⟨a', len', cap', rfl, h1', h2', h3'⟩ := hv1
  clear h3 h3'
  by_cases hl : len ≤ 1048576
  · by_cases hl' : len' ≤ 1048576
    · go_enter Tryz.func3, Tryz.ntmps3
      go_wp2_with fail
      refine (drawFormatClause _ _ HV0.out).mono ?_
      rintro e w1 ⟨c, v, rfl, hk, hat, e1⟩
      obtain ⟨ac, cc, bc, dc, rfl, _, _⟩ := Cl.form hat
      have ea := Ext.alloc w1 (.cells #[.int .i64 c.head.kind, .int .i64 c.head.n, .string c.head.name, .slice ac c.head.kids.length cc, .slice bc c.body.length dc] 27)
      have XC := Lib.hid (BoxC.new w1 (.int .i64 c.head.kind) (.int .i64 c.head.n) (.string c.head.name) (.slice ac c.head.kids.length cc) (.slice bc c.body.length dc) 27 rfl)
      have D := Lib.hid (Cl.at_ext ea hat)
      have B := Lib.hid (e1.trans ea)
      have hF := ctext_size c
      have HBK := Lib.hid (fun h hs => cl_back c h hs)
      have HEM := Lib.hid (ctext_empty c)
      obtain ⟨F, hFe⟩ : ∃ F, bs (formatClF c) = F := ⟨_, rfl⟩
      have HFE := Lib.hid hFe
      rw [hFe] at hF
      rw [hFe] at HBK HEM
      have hne : (F.toList != F.toList) = false := by simp
      have IP := Lib.hid (fun w' (e : Ext w w') => implParseClause F w' (by omega) (HTAB.out.ext e))
      have HPS := Lib.hid (parse_small F)
      clear e1 ea hat hFe
      go_wp2_with fail
      refine (implFormatClause c _ _ _ D.out (HTAB.out.ext B.out).1).mono ?_
      rw [HFE.out]
      rintro e w2 ⟨rfl, e2⟩
      have D := Lib.hid (Cl.at_ext e2 D.out)
      have XC := Lib.hid (XC.out.ext e2)
      have B := Lib.hid (B.out.trans e2)
      clear e2
      go_wp2_with fail
      refine (IP.out _ B.out).mono ?_
      rintro e w3 ⟨vp, rfl, ho, e3⟩
      obtain ⟨pc, hpc⟩ : ∃ z, parseCT F = z := ⟨_, rfl⟩
      obtain ⟨pb, hpb⟩ : ∃ z, parseCB F = z := ⟨_, rfl⟩
      rw [hpc] at ho HBK HPS
      rw [hpb] at HBK ⊢
      obtain ⟨ap, cp, bp, dp, rfl, hcp⟩ := ho.ownP HPS.out.2.2.2
      have eb := Ext.alloc w3 (.cells #[.int .i64 pc.head.kind, .int .i64 pc.head.n, .string pc.head.name, .slice ap pc.head.kids.length cp, .slice bp pc.body.length dp] 27)
      have PR := Lib.hid (Cl.at_ext eb (show Cl.at _ w3 pc (.agg #[.int .i64 pc.head.kind, .int .i64 pc.head.n, .string pc.head.name, .slice ap pc.head.kids.length cp, .slice bp pc.body.length dp]) from ⟨_, _, rfl, hcp.flat.1, hcp.flat.2⟩))
      have XP := Lib.hid (BoxC.new w3 (.int .i64 pc.head.kind) (.int .i64 pc.head.n) (.string pc.head.name) (.slice ap pc.head.kids.length cp) (.slice bp pc.body.length dp) 27 rfl)
      have XC := Lib.hid (XC.out.ext (e3.trans eb))
      have D := Lib.hid (Cl.at_ext (e3.trans eb) D.out)
      have B := Lib.hid (B.out.trans (e3.trans eb))
      clear ho hcp e3 eb hpc hpb
      go_upto_region 6 with (fail)
      obtain ⟨wR, hwR⟩ : ∃ z, z = w3.alloc (.cells #[.int .i64 pc.head.kind, .int .i64 pc.head.n, .string pc.head.name, .slice ap pc.head.kids.length cp, .slice bp pc.body.length dp] 27) := ⟨_, rfl⟩
      rw [← hwR] at PR XP XC D B ⊢
      clear hwR
      have BR := Lib.hid B.out
      have DR := Lib.hid D.out
      have PP := Lib.hid PR.out
      obtain ⟨b0, b1, b2, b3, b4, _, _, _, _, _⟩ := XC.out
      obtain ⟨d0, d1, d2, d3, d4, _, _, _, _, _⟩ := XP.out
      have k0 := cell_regrown b0
      have k1 := cell_regrown b1
      have k2 := cell_regrown b2
      have k3 := cell_regrown b3
      have k4 := cell_regrown b4
      have j0 := cell_regrown d0
      have j1 := cell_regrown d1
      have j2 := cell_regrown d2
      have j3 := cell_regrown d3
      have j4 := cell_regrown d4
      have cF := quiet_call (w := wR) (fun w' e' => (show Calls Tryz.prog 15 #[.agg #[.int .i64 c.head.kind, .int .i64 c.head.n, .string c.head.name, .slice ac c.head.kids.length cc, .slice bc c.body.length dc]] w' (fun e w'' => e = .returned (.string F) ∧ Ext w' w'') from HFE.out ▸ specFormatClause c _ _ w' (Cl.at_ext e' DR.out)))
      have cI := quiet_call (w := wR) (fun w' e' => implClauseValid c _ _ w' (Cl.at_ext e' DR.out))
      have cS := quiet_call (w := wR) (fun w' e' => specClauseValid c _ _ w' (Cl.at_ext e' DR.out))
      clear b0 b1 b2 b3 b4 d0 d1 d2 d3 d4
      cases hv : clValidF c
      · rw [hv] at cI cS
        have hem : F.toList.isEmpty = true := by rw [HEM.out, hv]; rfl
        clear hv
        go_wp2_with fail
        refine region_ext (by kernel_rfl) (by kernel_rfl) ?_
        repeat (go_big_quiet_step (first | with_reducible exact cF _ _ | with_reducible exact cI _ _ | with_reducible exact cS _ _))
        refine wpQuiet_nil ?_
        intro wq eq
        have B := Lib.hid (BR.out.trans eq)
        clear eq k0 k1 k2 k3 k4 j0 j1 j2 j3 j4 cF cI cS
        go_wp2_with fail
        refine (drawParseClause _ _ (HV1.out.ext B.out)).mono ?_
        rintro e w4 ⟨u, rfl, hu, e4⟩
        have B := Lib.hid (B.out.trans e4)
        have hus : u.size ≤ 1048576 := by omega
        have HPX := Lib.hid (cl_text u)
        have HPU := Lib.hid (parse_small u)
        have IP2 := Lib.hid (fun w' (e : Ext w w') => implParseClause u w' hus (HTAB.out.ext e))
        have SP2 := Lib.hid (fun w' => specParseClause u w' hus)
        generalize parseCT u = cg at IP2 SP2 HPX HPU
        generalize parseCB u = bg at IP2 SP2 HPX
        clear e4
        go_wp2_with fail
        refine (IP2.out _ B.out).mono ?_
        rintro e w5 ⟨vg, rfl, ho, e5⟩
        obtain ⟨ag, gg, bg2, dg, rfl, hcp⟩ := ho.ownP HPU.out.2.2.2
        have G := Lib.hid (Cl.at_ext (Ext.alloc w5 (.cells #[.int .i64 cg.head.kind, .int .i64 cg.head.n, .string cg.head.name, .slice ag cg.head.kids.length gg, .slice bg2 cg.body.length dg] 27)) (show Cl.at _ w5 cg (.agg #[.int .i64 cg.head.kind, .int .i64 cg.head.n, .string cg.head.name, .slice ag cg.head.kids.length gg, .slice bg2 cg.body.length dg]) from ⟨_, _, rfl, hcp.flat.1, hcp.flat.2⟩))
        have XG := Lib.hid (BoxC.new w5 (.int .i64 cg.head.kind) (.int .i64 cg.head.n) (.string cg.head.name) (.slice ag cg.head.kids.length gg) (.slice bg2 cg.body.length dg) 27 rfl)
        have B := Lib.hid (B.out.trans (e5.trans (Ext.alloc w5 (.cells #[.int .i64 cg.head.kind, .int .i64 cg.head.n, .string cg.head.name, .slice ag cg.head.kids.length gg, .slice bg2 cg.body.length dg] 27))))
        have SP3 := Lib.hid (SP2.out (w5.alloc (.cells #[.int .i64 cg.head.kind, .int .i64 cg.head.n, .string cg.head.name, .slice ag cg.head.kids.length gg, .slice bg2 cg.body.length dg] 27)))
        clear ho hcp e5
        go_wp2_with fail
        refine SP3.out.mono ?_
        rintro e w6 ⟨vw, rfl, ho, e6⟩
        obtain ⟨aw, cw, bw, dw, rfl, hcp⟩ := ho.ownP HPU.out.2.2.2
        have W := Lib.hid (Cl.at_ext (Ext.alloc w6 (.cells #[.int .i64 cg.head.kind, .int .i64 cg.head.n, .string cg.head.name, .slice aw cg.head.kids.length cw, .slice bw cg.body.length dw] 27)) (show Cl.at _ w6 cg (.agg #[.int .i64 cg.head.kind, .int .i64 cg.head.n, .string cg.head.name, .slice aw cg.head.kids.length cw, .slice bw cg.body.length dw]) from ⟨_, _, rfl, hcp.flat.1, hcp.flat.2⟩))
        have XW := Lib.hid (BoxC.new w6 (.int .i64 cg.head.kind) (.int .i64 cg.head.n) (.string cg.head.name) (.slice aw cg.head.kids.length cw) (.slice bw cg.body.length dw) 27 rfl)
        have e66 := e6.trans (Ext.alloc w6 (.cells #[.int .i64 cg.head.kind, .int .i64 cg.head.n, .string cg.head.name, .slice aw cg.head.kids.length cw, .slice bw cg.body.length dw] 27))
        have G := Lib.hid (Cl.at_ext e66 G.out)
        have XG := Lib.hid (XG.out.ext e66)
        have B := Lib.hid (B.out.trans e66)
        clear ho hcp e6 e66
        go_upto_region 11 with (fail)
        obtain ⟨wT, hwT⟩ : ∃ z, z = w6.alloc (.cells #[.int .i64 cg.head.kind, .int .i64 cg.head.n, .string cg.head.name, .slice aw cg.head.kids.length cw, .slice bw cg.body.length dw] 27) := ⟨_, rfl⟩
        rw [← hwT] at G W XG XW B ⊢
        clear hwT
        obtain ⟨b0, b1, b2, b3, b4, _, _, _, _, _⟩ := XG.out
        obtain ⟨d0, d1, d2, d3, d4, _, _, _, _, _⟩ := XW.out
        cases bg
        · go_wp2_with fail
          refine (implClauseSame cg cg _ _ _ _ _ G.out W.out).mono ?_
          rw [csame_refl]
          rintro e wz ⟨rfl, ez⟩
          go_wp2_with fail
          go_ret
          exact ⟨rfl, B.out.trans ez⟩
        · have hcm := HPX.out rfl
          have hcm2 : (bs (formatClF cg)).toList = u.toList := by simpa using hcm
          go_wp2_with fail
          refine (implClauseSame cg cg _ _ _ _ _ G.out W.out).mono ?_
          rw [csame_refl]
          rintro e wz ⟨rfl, ez⟩
          have GZ := Lib.hid (Cl.at_ext ez G.out)
          have BZ := Lib.hid (B.out.trans ez)
          obtain ⟨p0, p1, p2, p3, p4, _, _, _, _, _⟩ := XG.out.ext ez
          clear ez b0 b1 b2 b3 b4 d0 d1 d2 d3 d4
          go_wp2_with fail
          refine (implFormatClause cg _ _ _ GZ.out (HTAB.out.ext BZ.out).1).mono ?_
          rintro e wy ⟨rfl, ey⟩
          go_wp2_with fail
          go_ret
          first
          | exact ⟨rfl, BZ.out.trans ey⟩
          | exact ⟨retB (by simp [hcm2]), BZ.out.trans ey⟩
      · rw [hv] at cI cS
        have hem : F.toList.isEmpty = false := by rw [HEM.out, hv]; rfl
        by_cases hs : F.size ≤ 1000
        · obtain ⟨q1, q2⟩ := HBK.out hv hs
          subst q1 q2
          have hsi : (F.size : Int) ≤ 1000 := by omega
          have cT := quiet_call (w := wR) (fun w' e' => implClauseSame pc pc _ _ _ _ w' (Cl.at_ext e' PP.out) (Cl.at_ext e' DR.out))
          rw [csame_refl] at cT
          clear hv
          go_wp2_with fail
          refine region_ext (by kernel_rfl) (by kernel_rfl) ?_
          repeat (go_big_quiet_step (first | with_reducible exact cF _ _ | with_reducible exact cI _ _ | with_reducible exact cS _ _ | with_reducible exact cT _ _))
          refine wpQuiet_nil ?_
          intro wq eq
          have B := Lib.hid (BR.out.trans eq)
          clear eq k0 k1 k2 k3 k4 j0 j1 j2 j3 j4 cF cI cS cT
          go_wp2_with fail
          refine (drawParseClause _ _ (HV1.out.ext B.out)).mono ?_
          rintro e w4 ⟨u, rfl, hu, e4⟩
          have B := Lib.hid (B.out.trans e4)
          have hus : u.size ≤ 1048576 := by omega
          have HPX := Lib.hid (cl_text u)
          have HPU := Lib.hid (parse_small u)
          have IP2 := Lib.hid (fun w' (e : Ext w w') => implParseClause u w' hus (HTAB.out.ext e))
          have SP2 := Lib.hid (fun w' => specParseClause u w' hus)
          generalize parseCT u = cg at IP2 SP2 HPX HPU
          generalize parseCB u = bg at IP2 SP2 HPX
          clear e4
          go_wp2_with fail
          refine (IP2.out _ B.out).mono ?_
          rintro e w5 ⟨vg, rfl, ho, e5⟩
          obtain ⟨ag, gg, bg2, dg, rfl, hcp⟩ := ho.ownP HPU.out.2.2.2
          have G := Lib.hid (Cl.at_ext (Ext.alloc w5 (.cells #[.int .i64 cg.head.kind, .int .i64 cg.head.n, .string cg.head.name, .slice ag cg.head.kids.length gg, .slice bg2 cg.body.length dg] 27)) (show Cl.at _ w5 cg (.agg #[.int .i64 cg.head.kind, .int .i64 cg.head.n, .string cg.head.name, .slice ag cg.head.kids.length gg, .slice bg2 cg.body.length dg]) from ⟨_, _, rfl, hcp.flat.1, hcp.flat.2⟩))
          have XG := Lib.hid (BoxC.new w5 (.int .i64 cg.head.kind) (.int .i64 cg.head.n) (.string cg.head.name) (.slice ag cg.head.kids.length gg) (.slice bg2 cg.body.length dg) 27 rfl)
          have B := Lib.hid (B.out.trans (e5.trans (Ext.alloc w5 (.cells #[.int .i64 cg.head.kind, .int .i64 cg.head.n, .string cg.head.name, .slice ag cg.head.kids.length gg, .slice bg2 cg.body.length dg] 27))))
          have SP3 := Lib.hid (SP2.out (w5.alloc (.cells #[.int .i64 cg.head.kind, .int .i64 cg.head.n, .string cg.head.name, .slice ag cg.head.kids.length gg, .slice bg2 cg.body.length dg] 27)))
          clear ho hcp e5
          go_wp2_with fail
          refine SP3.out.mono ?_
          rintro e w6 ⟨vw, rfl, ho, e6⟩
          obtain ⟨aw, cw, bw, dw, rfl, hcp⟩ := ho.ownP HPU.out.2.2.2
          have W := Lib.hid (Cl.at_ext (Ext.alloc w6 (.cells #[.int .i64 cg.head.kind, .int .i64 cg.head.n, .string cg.head.name, .slice aw cg.head.kids.length cw, .slice bw cg.body.length dw] 27)) (show Cl.at _ w6 cg (.agg #[.int .i64 cg.head.kind, .int .i64 cg.head.n, .string cg.head.name, .slice aw cg.head.kids.length cw, .slice bw cg.body.length dw]) from ⟨_, _, rfl, hcp.flat.1, hcp.flat.2⟩))
          have XW := Lib.hid (BoxC.new w6 (.int .i64 cg.head.kind) (.int .i64 cg.head.n) (.string cg.head.name) (.slice aw cg.head.kids.length cw) (.slice bw cg.body.length dw) 27 rfl)
          have e66 := e6.trans (Ext.alloc w6 (.cells #[.int .i64 cg.head.kind, .int .i64 cg.head.n, .string cg.head.name, .slice aw cg.head.kids.length cw, .slice bw cg.body.length dw] 27))
          have G := Lib.hid (Cl.at_ext e66 G.out)
          have XG := Lib.hid (XG.out.ext e66)
          have B := Lib.hid (B.out.trans e66)
          clear ho hcp e6 e66
          go_upto_region 11 with (fail)
          obtain ⟨wT, hwT⟩ : ∃ z, z = w6.alloc (.cells #[.int .i64 cg.head.kind, .int .i64 cg.head.n, .string cg.head.name, .slice aw cg.head.kids.length cw, .slice bw cg.body.length dw] 27) := ⟨_, rfl⟩
          rw [← hwT] at G W XG XW B ⊢
          clear hwT
          obtain ⟨b0, b1, b2, b3, b4, _, _, _, _, _⟩ := XG.out
          obtain ⟨d0, d1, d2, d3, d4, _, _, _, _, _⟩ := XW.out
          cases bg
          · go_wp2_with fail
            refine (implClauseSame cg cg _ _ _ _ _ G.out W.out).mono ?_
            rw [csame_refl]
            rintro e wz ⟨rfl, ez⟩
            go_wp2_with fail
            go_ret
            exact ⟨rfl, B.out.trans ez⟩
          · have hcm := HPX.out rfl
            have hcm2 : (bs (formatClF cg)).toList = u.toList := by simpa using hcm
            go_wp2_with fail
            refine (implClauseSame cg cg _ _ _ _ _ G.out W.out).mono ?_
            rw [csame_refl]
            rintro e wz ⟨rfl, ez⟩
            have GZ := Lib.hid (Cl.at_ext ez G.out)
            have BZ := Lib.hid (B.out.trans ez)
            obtain ⟨p0, p1, p2, p3, p4, _, _, _, _, _⟩ := XG.out.ext ez
            clear ez b0 b1 b2 b3 b4 d0 d1 d2 d3 d4
            go_wp2_with fail
            refine (implFormatClause cg _ _ _ GZ.out (HTAB.out.ext BZ.out).1).mono ?_
            rintro e wy ⟨rfl, ey⟩
            go_wp2_with fail
            go_ret
            first
            | exact ⟨rfl, BZ.out.trans ey⟩
            | exact ⟨retB (by simp [hcm2]), BZ.out.trans ey⟩
        · have hsi : ¬ (F.size : Int) ≤ 1000 := by omega
          have hsd : decide ((F.size : Int) ≤ 1000) = false := decide_eq_false hsi
          have hsl : (1000 : Int) < (F.size : Int) := by omega
          clear hv
          go_wp2_with fail
          refine region_ext (by kernel_rfl) (by kernel_rfl) ?_
          repeat (go_big_quiet_step (first | with_reducible exact cF _ _ | with_reducible exact cI _ _ | with_reducible exact cS _ _))
          refine wpQuiet_nil ?_
          intro wq eq
          have B := Lib.hid (BR.out.trans eq)
          clear eq k0 k1 k2 k3 k4 j0 j1 j2 j3 j4 cF cI cS
          go_wp2_with fail
          refine (drawParseClause _ _ (HV1.out.ext B.out)).mono ?_
          rintro e w4 ⟨u, rfl, hu, e4⟩
          have B := Lib.hid (B.out.trans e4)
          have hus : u.size ≤ 1048576 := by omega
          have HPX := Lib.hid (cl_text u)
          have HPU := Lib.hid (parse_small u)
          have IP2 := Lib.hid (fun w' (e : Ext w w') => implParseClause u w' hus (HTAB.out.ext e))
          have SP2 := Lib.hid (fun w' => specParseClause u w' hus)
          generalize parseCT u = cg at IP2 SP2 HPX HPU
          generalize parseCB u = bg at IP2 SP2 HPX
          clear e4
          go_wp2_with fail
          refine (IP2.out _ B.out).mono ?_
          rintro e w5 ⟨vg, rfl, ho, e5⟩
          obtain ⟨ag, gg, bg2, dg, rfl, hcp⟩ := ho.ownP HPU.out.2.2.2
          have G := Lib.hid (Cl.at_ext (Ext.alloc w5 (.cells #[.int .i64 cg.head.kind, .int .i64 cg.head.n, .string cg.head.name, .slice ag cg.head.kids.length gg, .slice bg2 cg.body.length dg] 27)) (show Cl.at _ w5 cg (.agg #[.int .i64 cg.head.kind, .int .i64 cg.head.n, .string cg.head.name, .slice ag cg.head.kids.length gg, .slice bg2 cg.body.length dg]) from ⟨_, _, rfl, hcp.flat.1, hcp.flat.2⟩))
          have XG := Lib.hid (BoxC.new w5 (.int .i64 cg.head.kind) (.int .i64 cg.head.n) (.string cg.head.name) (.slice ag cg.head.kids.length gg) (.slice bg2 cg.body.length dg) 27 rfl)
          have B := Lib.hid (B.out.trans (e5.trans (Ext.alloc w5 (.cells #[.int .i64 cg.head.kind, .int .i64 cg.head.n, .string cg.head.name, .slice ag cg.head.kids.length gg, .slice bg2 cg.body.length dg] 27))))
          have SP3 := Lib.hid (SP2.out (w5.alloc (.cells #[.int .i64 cg.head.kind, .int .i64 cg.head.n, .string cg.head.name, .slice ag cg.head.kids.length gg, .slice bg2 cg.body.length dg] 27)))
          clear ho hcp e5
          go_wp2_with fail
          refine SP3.out.mono ?_
          rintro e w6 ⟨vw, rfl, ho, e6⟩
          obtain ⟨aw, cw, bw, dw, rfl, hcp⟩ := ho.ownP HPU.out.2.2.2
          have W := Lib.hid (Cl.at_ext (Ext.alloc w6 (.cells #[.int .i64 cg.head.kind, .int .i64 cg.head.n, .string cg.head.name, .slice aw cg.head.kids.length cw, .slice bw cg.body.length dw] 27)) (show Cl.at _ w6 cg (.agg #[.int .i64 cg.head.kind, .int .i64 cg.head.n, .string cg.head.name, .slice aw cg.head.kids.length cw, .slice bw cg.body.length dw]) from ⟨_, _, rfl, hcp.flat.1, hcp.flat.2⟩))
          have XW := Lib.hid (BoxC.new w6 (.int .i64 cg.head.kind) (.int .i64 cg.head.n) (.string cg.head.name) (.slice aw cg.head.kids.length cw) (.slice bw cg.body.length dw) 27 rfl)
          have e66 := e6.trans (Ext.alloc w6 (.cells #[.int .i64 cg.head.kind, .int .i64 cg.head.n, .string cg.head.name, .slice aw cg.head.kids.length cw, .slice bw cg.body.length dw] 27))
          have G := Lib.hid (Cl.at_ext e66 G.out)
          have XG := Lib.hid (XG.out.ext e66)
          have B := Lib.hid (B.out.trans e66)
          clear ho hcp e6 e66
          go_upto_region 11 with (fail)
          obtain ⟨wT, hwT⟩ : ∃ z, z = w6.alloc (.cells #[.int .i64 cg.head.kind, .int .i64 cg.head.n, .string cg.head.name, .slice aw cg.head.kids.length cw, .slice bw cg.body.length dw] 27) := ⟨_, rfl⟩
          rw [← hwT] at G W XG XW B ⊢
          clear hwT
          obtain ⟨b0, b1, b2, b3, b4, _, _, _, _, _⟩ := XG.out
          obtain ⟨d0, d1, d2, d3, d4, _, _, _, _, _⟩ := XW.out
          cases bg
          · go_wp2_with fail
            refine (implClauseSame cg cg _ _ _ _ _ G.out W.out).mono ?_
            rw [csame_refl]
            rintro e wz ⟨rfl, ez⟩
            go_wp2_with fail
            go_ret
            exact ⟨rfl, B.out.trans ez⟩
          · have hcm := HPX.out rfl
            have hcm2 : (bs (formatClF cg)).toList = u.toList := by simpa using hcm
            go_wp2_with fail
            refine (implClauseSame cg cg _ _ _ _ _ G.out W.out).mono ?_
            rw [csame_refl]
            rintro e wz ⟨rfl, ez⟩
            have GZ := Lib.hid (Cl.at_ext ez G.out)
            have BZ := Lib.hid (B.out.trans ez)
            obtain ⟨p0, p1, p2, p3, p4, _, _, _, _, _⟩ := XG.out.ext ez
            clear ez b0 b1 b2 b3 b4 d0 d1 d2 d3 d4
            go_wp2_with fail
            refine (implFormatClause cg _ _ _ GZ.out (HTAB.out.ext BZ.out).1).mono ?_
            rintro e wy ⟨rfl, ey⟩
            go_wp2_with fail
            go_ret
            first
            | exact ⟨rfl, BZ.out.trans ey⟩
            | exact ⟨retB (by simp [hcm2]), BZ.out.trans ey⟩
    · go_enter Tryz.func3, Tryz.ntmps3
      go_wp2_with fail
      go_ret
      exact ⟨rfl, Below.refl _ _⟩
  · go_enter Tryz.func3, Tryz.ntmps3
    go_wp2_with fail
    go_ret
    exact ⟨rfl, Below.refl _ _⟩
end Go.Proofs.YtognkaebiafgbaaGreatDoor.fnClauseText
