/-
  For all codes FnFactText returns true: the program and the reference write a drawn goal alike and read it with a dot behind it alike; a goal that is a clause's head with a short text is read back as a fact.
-/
import Derived.Test.YtognkaebiafgbaaGreatDoorRows
import Derived.Deep.RegionHeld3
import Derived.ProofKit
import Derived.OpenShut
import Derived.ShutString
import Derived.Test.YtognkaebiafgbaaGreatDoorCards
import Derived.Test.YtognkaebiafgbaaGreatDoorTie
import Derived.LaidMore
import Derived.Lay
import Derived.SevenTiedAt
import Derived.Stop.Joined
import Derived.Stop.LaidErr
import Derived.Lib.LaidTab
import Derived.Test.YtognkaebiafgbaaGreatDoorMs50
import Derived.Test.YtognkaebiafgbaaGreatDoorMs46
import Derived.Test.YtognkaebiafgbaaGreatDoorMs33
import Derived.Test.YtognkaebiafgbaaGreatDoorMs36
import Derived.Test.YtognkaebiafgbaaGreatDoorMs32
import Derived.Test.YtognkaebiafgbaaGreatDoorMs8
namespace Go.Proofs.YtognkaebiafgbaaGreatDoor.fnFactText
open Go.ChangeShapes Go.WideShapes Go.ChangeAt Go.RowKit
open Go.ChangeMaps (open_string shut_string)
set_option linter.unusedVariables false
theorem own : ownKnob Tryz.prog.godebug = none := by kernel_rfl
theorem laidOut : laidOutB Tryz.prog = true := by kernel_rfl
theorem fact_text (g : Tm) (h : clValidF ⟨g, []⟩ = true) : bs (formatClF ⟨g, []⟩) = bs (formatF true g) ++ ⟨#[46]⟩ := by
  have hv := (cl_parts h).1
  unfold formatClF formatF
  rw [if_pos h, if_pos hv]
  unfold clTxt
  show bs (txt true g ++ [46]) = _
  exact bl_ext (by rw [list_app, bs_list, bs_list, ByteArray.toList_eq])
theorem fact_back (g : Tm) (h : clValidF ⟨g, []⟩ = true) (hs : (bs (formatF true g)).size ≤ 900) : parseCB (bs (formatF true g) ++ ⟨#[46]⟩) = true ∧ parseCT (bs (formatF true g) ++ ⟨#[46]⟩) = ⟨g, []⟩ := by
  rw [← fact_text g h]
  refine cl_back _ h ?_
  rw [fact_text g h, ByteArray.size_append]
  have : (⟨#[46]⟩ : ByteArray).size = 1 := rfl
  omega
theorem fmt_size (g : Tm) : (bs (formatF true g)).size ≤ 3840 := by
  rw [bs_size]
  unfold formatF
  split
  · rename_i h; exact val_len h
  · simp
theorem fact_at {S : Nat → Prop} {w : World} {g : Tm} {a : Option Addr} {c : Nat} (h : Tm.at S w g (.agg #[.int .i64 g.kind, .int .i64 g.n, .string g.name, .slice a g.kids.length c])) : Cl.at S w ⟨g, []⟩ (.agg #[.int .i64 g.kind, .int .i64 g.n, .string g.name, .slice a g.kids.length c, .slice none 0 0]) :=
  ⟨_, _, rfl, h, none, 0, rfl, Nat.le_refl _, by omega, Nat.zero_le _, .inl rfl⟩
set_option maxRecDepth 100000 in
set_option maxHeartbeats 8000000 in
theorem walk (v0 : Value) (w : World) (htab : LibG w) (hv0 : BytesAt w v0) :
    Calls Tryz.prog 11 #[v0] w fun e w' => e = .returned (.bool true) ∧ Below w.heap.size w w' := by
  have HV0 := Lib.hid hv0
  have HTAB := Lib.hid htab
  clear htab
  obtain ⟨a, len, cap, rfl, h1, h2, h3⟩ := hv0
  clear h3
  by_cases hl : len ≤ 1048576
  · go_enter Tryz.func11, Tryz.ntmps11
    go_wp2_with fail
    refine (drawGoalValid _ _ HV0.out).mono ?_
    rintro e w1 ⟨g, v, rfl, hat, e1⟩
    obtain ⟨ag, cg, rfl⟩ := at_form hat
    have ea := Ext.alloc w1 (.cells #[.int .i64 g.kind, .int .i64 g.n, .string g.name, .slice ag g.kids.length cg] 25)
    have XG := Lib.hid (BoxT.new w1 (.int .i64 g.kind) (.int .i64 g.n) (.string g.name) (.slice ag g.kids.length cg) 25 rfl)
    have G := Lib.hid (Tm.at_ext ea hat)
    have B := Lib.hid (e1.trans ea)
    have hF := fmt_size g
    have HBK := Lib.hid (fun h hs => fact_back g h hs)
    obtain ⟨F, hFe⟩ : ∃ F, bs (formatF true g) = F := ⟨_, rfl⟩
    have HFE := Lib.hid hFe
    rw [hFe] at hF HBK
    have hne : (F.toList != F.toList) = false := by simp
    clear e1 ea hat hFe
    go_wp2_with fail
    refine (implWriteTerm g _ _ _ G.out (HTAB.out.ext B.out).1).mono ?_
    rw [HFE.out]
    rintro e w2 ⟨rfl, e2⟩
    have G := Lib.hid (Tm.at_ext e2 G.out)
    have XG := Lib.hid (XG.out.ext e2)
    have B := Lib.hid (B.out.trans e2)
    clear e2
    obtain ⟨b0, b1, b2, b3, _, _, _, _⟩ := XG.out
    go_wp2_with fail
    refine (specWriteTerm g _ _ _ G.out).mono ?_
    rw [HFE.out]
    rintro e w3 ⟨rfl, e3⟩
    clear b0 b1 b2 b3
    have G := Lib.hid (Tm.at_ext e3 G.out)
    have XG := Lib.hid (XG.out.ext e3)
    have B := Lib.hid (B.out.trans e3)
    clear e3
    obtain ⟨U, hU⟩ : ∃ U, F ++ ⟨#[46]⟩ = U := ⟨_, rfl⟩
    have hus : U.size ≤ 1048576 := by
      rw [← hU, ByteArray.size_append]
      have : (⟨#[46]⟩ : ByteArray).size = 1 := rfl
      omega
    have IP := Lib.hid (fun w' (e : Ext w w') => implParseClause U w' hus (HTAB.out.ext e))
    have SP := Lib.hid (fun w' => specParseClause U w' hus)
    have HPS := Lib.hid (parse_small U)
    obtain ⟨pc, hpc⟩ : ∃ z, parseCT U = z := ⟨_, rfl⟩
    obtain ⟨pb, hpb⟩ : ∃ z, parseCB U = z := ⟨_, rfl⟩
    rw [hU, hpc, hpb] at HBK
    rw [hpc] at HPS
    rw [hpc, hpb] at IP SP
    clear hpc hpb hus
    go_wp2_with fail
    refine (IP.out _ B.out).mono ?_
    rintro e w4 ⟨vp, rfl, ho, e4⟩
    obtain ⟨ap, cp, bp, dp, rfl, hcp⟩ := ho.ownP HPS.out.2.2.2
    have eb := Ext.alloc w4 (.cells #[.int .i64 pc.head.kind, .int .i64 pc.head.n, .string pc.head.name, .slice ap pc.head.kids.length cp, .slice bp pc.body.length dp] 27)
    have PR := Lib.hid (Cl.at_ext eb (show Cl.at _ w4 pc (.agg #[.int .i64 pc.head.kind, .int .i64 pc.head.n, .string pc.head.name, .slice ap pc.head.kids.length cp, .slice bp pc.body.length dp]) from ⟨_, _, rfl, hcp.flat.1, hcp.flat.2⟩))
    have PH := Lib.hid (Tm.at_ext eb hcp.flat.1)
    have XP := Lib.hid (BoxC.new w4 (.int .i64 pc.head.kind) (.int .i64 pc.head.n) (.string pc.head.name) (.slice ap pc.head.kids.length cp) (.slice bp pc.body.length dp) 27 rfl)
    have e44 := e4.trans eb
    have G := Lib.hid (Tm.at_ext e44 G.out)
    have XG := Lib.hid (XG.out.ext e44)
    have B := Lib.hid (B.out.trans e44)
    have SP := Lib.hid (SP.out (w4.alloc (.cells #[.int .i64 pc.head.kind, .int .i64 pc.head.n, .string pc.head.name, .slice ap pc.head.kids.length cp, .slice bp pc.body.length dp] 27)))
    clear ho hcp e4 eb e44 IP
    go_wp2_with fail
    refine SP.out.mono ?_
    rintro e w5 ⟨vw, rfl, ho, e5⟩
    obtain ⟨aw, cw, bw, dw, rfl, hcp⟩ := ho.ownP HPS.out.2.2.2
    have eb := Ext.alloc w5 (.cells #[.int .i64 pc.head.kind, .int .i64 pc.head.n, .string pc.head.name, .slice aw pc.head.kids.length cw, .slice bw pc.body.length dw] 27)
    have WR := Lib.hid (Cl.at_ext eb (show Cl.at _ w5 pc (.agg #[.int .i64 pc.head.kind, .int .i64 pc.head.n, .string pc.head.name, .slice aw pc.head.kids.length cw, .slice bw pc.body.length dw]) from ⟨_, _, rfl, hcp.flat.1, hcp.flat.2⟩))
    have XW := Lib.hid (BoxC.new w5 (.int .i64 pc.head.kind) (.int .i64 pc.head.n) (.string pc.head.name) (.slice aw pc.head.kids.length cw) (.slice bw pc.body.length dw) 27 rfl)
    have e55 := e5.trans eb
    have G := Lib.hid (Tm.at_ext e55 G.out)
    have XG := Lib.hid (XG.out.ext e55)
    have PR := Lib.hid (Cl.at_ext e55 PR.out)
    have PH := Lib.hid (Tm.at_ext e55 PH.out)
    have XP := Lib.hid (XP.out.ext e55)
    have B := Lib.hid (B.out.trans e55)
    clear ho hcp e5 eb e55 SP HPS
    clear hU
    go_upto_region 9 with (fail)
    obtain ⟨wR, hwR⟩ : ∃ z, z = w5.alloc (.cells #[.int .i64 pc.head.kind, .int .i64 pc.head.n, .string pc.head.name, .slice aw pc.head.kids.length cw, .slice bw pc.body.length dw] 27) := ⟨_, rfl⟩
    rw [← hwR] at G XG PR PH XP WR XW B ⊢
    clear hwR
    obtain ⟨b0, b1, b2, b3, _, _, _, _⟩ := XG.out
    obtain ⟨d0, d1, d2, d3, d4, _, _, _, _, _⟩ := XP.out
    obtain ⟨f0, f1, f2, f3, f4, _, _, _, _, _⟩ := XW.out
    have BR := Lib.hid B.out
    have GR := Lib.hid G.out
    have PP := Lib.hid PR.out
    have WW := Lib.hid WR.out
    cases hv : clValidF ⟨g, []⟩
    · clear HBK
      cases pb
      · go_wp2_with fail
        refine (implClauseSame pc pc _ _ _ _ _ PP.out WW.out).mono ?_
        rw [csame_refl]
        rintro e wp ⟨rfl, ep⟩
        clear b0 b1 b2 b3 d0 d1 d2 d3 d4 f0 f1 f2 f3 f4
        have B := Lib.hid (BR.out.trans ep)
        have XP := Lib.hid (XP.out.ext ep)
        have XW := Lib.hid (XW.out.ext ep)
        have XG := Lib.hid (XG.out.ext ep)
        have PP := Lib.hid (Cl.at_ext ep PP.out)
        have WW := Lib.hid (Cl.at_ext ep WW.out)
        have PH := Lib.hid (Tm.at_ext ep PH.out)
        have G := Lib.hid (Tm.at_ext ep G.out)
        clear ep
        obtain ⟨b0, b1, b2, b3, _, _, _, _⟩ := XG.out
        go_wp2_with fail
        refine (implClauseValid ⟨g, []⟩ _ _ _ (fact_at G.out)).mono ?_
        rw [hv]
        rintro e wq ⟨rfl, eq⟩
        have B := Lib.hid (B.out.trans eq)
        have XP := Lib.hid (XP.out.ext eq)
        have XW := Lib.hid (XW.out.ext eq)
        have XG := Lib.hid (XG.out.ext eq)
        have PP := Lib.hid (Cl.at_ext eq PP.out)
        have WW := Lib.hid (Cl.at_ext eq WW.out)
        have PH := Lib.hid (Tm.at_ext eq PH.out)
        have G := Lib.hid (Tm.at_ext eq G.out)
        clear eq b0 b1 b2 b3
        obtain ⟨d0, d1, d2, d3, d4, _, _, _, _, _⟩ := XP.out
        obtain ⟨f0, f1, f2, f3, f4, _, _, _, _, _⟩ := XW.out
        go_wp2_with fail
        refine (implClauseSame pc pc _ _ _ _ _ PP.out WW.out).mono ?_
        rw [csame_refl]
        rintro e wz ⟨rfl, ez⟩
        go_wp2_with fail
        go_ret
        exact ⟨rfl, B.out.trans ez⟩
      · go_wp2_with fail
        refine (implClauseSame pc pc _ _ _ _ _ PP.out WW.out).mono ?_
        rw [csame_refl]
        rintro e wp ⟨rfl, ep⟩
        clear b0 b1 b2 b3 d0 d1 d2 d3 d4 f0 f1 f2 f3 f4
        have B := Lib.hid (BR.out.trans ep)
        have XP := Lib.hid (XP.out.ext ep)
        have XW := Lib.hid (XW.out.ext ep)
        have XG := Lib.hid (XG.out.ext ep)
        have PP := Lib.hid (Cl.at_ext ep PP.out)
        have WW := Lib.hid (Cl.at_ext ep WW.out)
        have PH := Lib.hid (Tm.at_ext ep PH.out)
        have G := Lib.hid (Tm.at_ext ep G.out)
        clear ep
        obtain ⟨b0, b1, b2, b3, _, _, _, _⟩ := XG.out
        go_wp2_with fail
        refine (implClauseValid ⟨g, []⟩ _ _ _ (fact_at G.out)).mono ?_
        rw [hv]
        rintro e wq ⟨rfl, eq⟩
        have B := Lib.hid (B.out.trans eq)
        have XP := Lib.hid (XP.out.ext eq)
        have XW := Lib.hid (XW.out.ext eq)
        have XG := Lib.hid (XG.out.ext eq)
        have PP := Lib.hid (Cl.at_ext eq PP.out)
        have WW := Lib.hid (Cl.at_ext eq WW.out)
        have PH := Lib.hid (Tm.at_ext eq PH.out)
        have G := Lib.hid (Tm.at_ext eq G.out)
        clear eq b0 b1 b2 b3
        obtain ⟨d0, d1, d2, d3, d4, _, _, _, _, _⟩ := XP.out
        obtain ⟨f0, f1, f2, f3, f4, _, _, _, _, _⟩ := XW.out
        go_wp2_with fail
        refine (implClauseSame pc pc _ _ _ _ _ PP.out WW.out).mono ?_
        rw [csame_refl]
        rintro e wz ⟨rfl, ez⟩
        go_wp2_with fail
        go_ret
        exact ⟨rfl, B.out.trans ez⟩
    · by_cases hs : F.size ≤ 900
      · obtain ⟨q1, q2⟩ := HBK.out hv hs
        subst q1
        have hsi : (F.size : Int) ≤ 900 := by omega
        have hz : (pc.body.length : Int) = 0 := by rw [q2]; rfl
        have hsm : Tm.same pc.head g = true := by rw [q2]; exact same_refl g
        clear q2 HBK
        go_wp2_with fail
        refine (implClauseSame pc pc _ _ _ _ _ PP.out WW.out).mono ?_
        rw [csame_refl]
        rintro e wp ⟨rfl, ep⟩
        clear b0 b1 b2 b3 d0 d1 d2 d3 d4 f0 f1 f2 f3 f4
        have B := Lib.hid (BR.out.trans ep)
        have XP := Lib.hid (XP.out.ext ep)
        have XW := Lib.hid (XW.out.ext ep)
        have XG := Lib.hid (XG.out.ext ep)
        have PP := Lib.hid (Cl.at_ext ep PP.out)
        have WW := Lib.hid (Cl.at_ext ep WW.out)
        have PH := Lib.hid (Tm.at_ext ep PH.out)
        have G := Lib.hid (Tm.at_ext ep G.out)
        clear ep
        obtain ⟨b0, b1, b2, b3, _, _, _, _⟩ := XG.out
        go_wp2_with fail
        refine (implClauseValid ⟨g, []⟩ _ _ _ (fact_at G.out)).mono ?_
        rw [hv]
        rintro e wq ⟨rfl, eq⟩
        have B := Lib.hid (B.out.trans eq)
        have XP := Lib.hid (XP.out.ext eq)
        have XW := Lib.hid (XW.out.ext eq)
        have XG := Lib.hid (XG.out.ext eq)
        have PP := Lib.hid (Cl.at_ext eq PP.out)
        have WW := Lib.hid (Cl.at_ext eq WW.out)
        have PH := Lib.hid (Tm.at_ext eq PH.out)
        have G := Lib.hid (Tm.at_ext eq G.out)
        clear eq b0 b1 b2 b3
        obtain ⟨b0, b1, b2, b3, _, _, _, _⟩ := XG.out
        obtain ⟨d0, d1, d2, d3, d4, _, _, _, _, _⟩ := XP.out
        go_wp2_with fail
        refine (implTermSame _ pc.head g _ _ _ _ _ (Nat.le_refl _) PH.out G.out).mono ?_
        rw [hsm]
        rintro e wz ⟨rfl, ez⟩
        go_wp2_with fail
        go_ret
        exact ⟨rfl, B.out.trans ez⟩
      · have hsi : ¬ (F.size : Int) ≤ 900 := by omega
        have hsd : decide ((F.size : Int) ≤ 900) = false := decide_eq_false hsi
        have hsl : (900 : Int) < (F.size : Int) := by omega
        clear HBK
        cases pb
        · go_wp2_with fail
          refine (implClauseSame pc pc _ _ _ _ _ PP.out WW.out).mono ?_
          rw [csame_refl]
          rintro e wp ⟨rfl, ep⟩
          clear b0 b1 b2 b3 d0 d1 d2 d3 d4 f0 f1 f2 f3 f4
          have B := Lib.hid (BR.out.trans ep)
          have XP := Lib.hid (XP.out.ext ep)
          have XW := Lib.hid (XW.out.ext ep)
          have XG := Lib.hid (XG.out.ext ep)
          have PP := Lib.hid (Cl.at_ext ep PP.out)
          have WW := Lib.hid (Cl.at_ext ep WW.out)
          have PH := Lib.hid (Tm.at_ext ep PH.out)
          have G := Lib.hid (Tm.at_ext ep G.out)
          clear ep
          obtain ⟨b0, b1, b2, b3, _, _, _, _⟩ := XG.out
          go_wp2_with fail
          refine (implClauseValid ⟨g, []⟩ _ _ _ (fact_at G.out)).mono ?_
          rw [hv]
          rintro e wq ⟨rfl, eq⟩
          have B := Lib.hid (B.out.trans eq)
          have XP := Lib.hid (XP.out.ext eq)
          have XW := Lib.hid (XW.out.ext eq)
          have XG := Lib.hid (XG.out.ext eq)
          have PP := Lib.hid (Cl.at_ext eq PP.out)
          have WW := Lib.hid (Cl.at_ext eq WW.out)
          have PH := Lib.hid (Tm.at_ext eq PH.out)
          have G := Lib.hid (Tm.at_ext eq G.out)
          clear eq b0 b1 b2 b3
          obtain ⟨d0, d1, d2, d3, d4, _, _, _, _, _⟩ := XP.out
          obtain ⟨f0, f1, f2, f3, f4, _, _, _, _, _⟩ := XW.out
          go_wp2_with fail
          refine (implClauseSame pc pc _ _ _ _ _ PP.out WW.out).mono ?_
          rw [csame_refl]
          rintro e wz ⟨rfl, ez⟩
          go_wp2_with fail
          go_ret
          exact ⟨rfl, B.out.trans ez⟩
        · go_wp2_with fail
          refine (implClauseSame pc pc _ _ _ _ _ PP.out WW.out).mono ?_
          rw [csame_refl]
          rintro e wp ⟨rfl, ep⟩
          clear b0 b1 b2 b3 d0 d1 d2 d3 d4 f0 f1 f2 f3 f4
          have B := Lib.hid (BR.out.trans ep)
          have XP := Lib.hid (XP.out.ext ep)
          have XW := Lib.hid (XW.out.ext ep)
          have XG := Lib.hid (XG.out.ext ep)
          have PP := Lib.hid (Cl.at_ext ep PP.out)
          have WW := Lib.hid (Cl.at_ext ep WW.out)
          have PH := Lib.hid (Tm.at_ext ep PH.out)
          have G := Lib.hid (Tm.at_ext ep G.out)
          clear ep
          obtain ⟨b0, b1, b2, b3, _, _, _, _⟩ := XG.out
          go_wp2_with fail
          refine (implClauseValid ⟨g, []⟩ _ _ _ (fact_at G.out)).mono ?_
          rw [hv]
          rintro e wq ⟨rfl, eq⟩
          have B := Lib.hid (B.out.trans eq)
          have XP := Lib.hid (XP.out.ext eq)
          have XW := Lib.hid (XW.out.ext eq)
          have XG := Lib.hid (XG.out.ext eq)
          have PP := Lib.hid (Cl.at_ext eq PP.out)
          have WW := Lib.hid (Cl.at_ext eq WW.out)
          have PH := Lib.hid (Tm.at_ext eq PH.out)
          have G := Lib.hid (Tm.at_ext eq G.out)
          clear eq b0 b1 b2 b3
          obtain ⟨d0, d1, d2, d3, d4, _, _, _, _, _⟩ := XP.out
          obtain ⟨f0, f1, f2, f3, f4, _, _, _, _, _⟩ := XW.out
          go_wp2_with fail
          refine (implClauseSame pc pc _ _ _ _ _ PP.out WW.out).mono ?_
          rw [csame_refl]
          rintro e wz ⟨rfl, ez⟩
          go_wp2_with fail
          go_ret
          exact ⟨rfl, B.out.trans ez⟩
  · go_enter Tryz.func11, Tryz.ntmps11
    go_wp2_with fail
    go_ret
    exact ⟨rfl, Below.refl _ _⟩
end Go.Proofs.YtognkaebiafgbaaGreatDoor.fnFactText
