/-
  The program's ParseProgram.
-/
import Derived.ProofKit
import Derived.Shelf.Vars
import Derived.HandedShaped
import Derived.Test.YtognkaebiafgbaaGreatDoorRows
import Derived.Deep.RegionHeld3
import Derived.OpenShut
import Derived.ShutString
import Derived.Test.YtognkaebiafgbaaGreatDoorCards
import Derived.Test.YtognkaebiafgbaaGreatDoorTie
import Derived.LaidMore
import Derived.Lay
import Derived.SevenTiedAt
import Derived.Stop.Joined
import Derived.Stop.LaidErr
import Derived.Lib.LaidTab
import Derived.Test.YtognkaebiafgbaaGreatDoorMt42
import Derived.Test.YtognkaebiafgbaaGreatDoorMt26
import Derived.Test.YtognkaebiafgbaaGreatDoorMt36
import Derived.Test.YtognkaebiafgbaaGreatDoorMt50
import Derived.Test.YtognkaebiafgbaaGreatDoorMt14
import Derived.Test.YtognkaebiafgbaaGreatDoorMt40
import Derived.Test.YtognkaebiafgbaaGreatDoorMt7
import Derived.Test.YtognkaebiafgbaaGreatDoorMt25
namespace Go.Proofs.YtognkaebiafgbaaGreatDoor
open Go.RowKit
set_option linter.unusedVariables false
def LibM (w : World) : Prop := LibG w ∧ ∃ m : Int, w.cell? ⟨0, 0, none⟩ = some (.int .i64 m)
theorem LibM.ext {w w' : World} (h : LibM w) (e : Ext w w') : LibM w' := by
  obtain ⟨h1, m, h2⟩ := h
  exact ⟨h1.ext e, m, e.cell h2⟩
theorem split_lines (s : ByteArray) (w : World) (hs : s.size ≤ 1048576) (hL : LibM w) : Calls Tryz.prog 75 #[.string s, .string ⟨#[10]⟩] w (LinesO s w) := by
  obtain ⟨_, m, hm⟩ := hL
  refine (Tryz.strings_Split s ⟨#[10]⟩ m w (by omega) hm (by decide)).mono ?_
  rintro e w' ⟨rfl, rfl⟩
  have hlen := Lib.splitB_all ⟨#[10]⟩ (by decide) 0 _ s rfl
  rw [split_cut, List.length_map] at hlen
  rw [split_cut, ← hlen]
  refine ⟨w.heap.size, _, rfl, Nat.le_refl _, ⟨w.heap.size, (cutL s.toList).length, by rw [List.length_map], by simp, by rw [List.length_map]; omega, by have := cutL_le s.toList; rw [bl_len] at this; omega, fun j x hx => ?_⟩, Ext.alloc _ _⟩
  have := cell_new w (((cutL s.toList).map bs).map Value.string).toArray 9 j (.string x) (by simpa using hx)
  rwa [Nat.zero_add] at this
set_option maxRecDepth 100000 in
set_option maxHeartbeats 4000000 in
theorem implParseProgram (s : ByteArray) (w : World) (hs : s.size ≤ 1048576) (hL : LibM w) : Calls Tryz.prog 22 #[.string s] w (PrBO (parsePT s) (parsePB s) w) := by
  obtain ⟨i0, hi, hz0, hz1, hz2⟩ := info_parts info_cl
  have HNO := Lib.hid (fun h => pr_none (s := s) h)
  have HYES := Lib.hid (fun cs h => pr_some (s := s) (cs := cs) h)
  have HLN := Lib.hid (fun (x : List UInt8) (h : x ∈ cutL s.toList) => (show x.length ≤ 1048576 by have := cut_line s.toList x h; rw [bl_len] at this; omega))
  have HL1 := cutL_len s.toList
  have HLL : (cutL s.toList).length ≤ 1048577 := by have := cutL_le s.toList; rw [bl_len] at this; omega
  have SC := Lib.hid (split_lines s w hs hL)
  have HLIB := Lib.hid hL
  clear hL
  go_enter Tryz.func22, Tryz.ntmps22
  go_wp2_with fail
  refine SC.out.mono ?_
  rintro e w1 ⟨g, c, rfl, hgl, hv, e1⟩
  generalize cutL s.toList = ls at HNO HYES HLN HL1 HLL hv
  obtain ⟨g', c', hgc, hg, hc1, hc2, hcl⟩ := hv
  simp only [Value.slice.injEq, Option.some.injEq, Addr.mk.injEq, and_true] at hgc
  obtain ⟨rfl, _, rfl⟩ := hgc
  rw [List.length_map] at hc1
  have HCL := Lib.hid hcl
  have E1 := Lib.hid e1
  obtain ⟨N, hN⟩ : ∃ N, ls.length = N + 1 := ⟨ls.length - 1, by omega⟩
  rw [hN] at hc1 HLL ⊢
  have HN := Lib.hid hN
  obtain ⟨x, hx⟩ : ∃ x, ls[N]? = some x := ⟨_, List.getElem?_eq_getElem (by omega)⟩
  have cx := hcl N (bs x) (by rw [List.getElem?_map, hx]; rfl)
  have HX := Lib.hid hx
  have hlast : ((N + 1 : Nat) : Int) - 1 = (N : Int) := by omega
  obtain ⟨y, hy⟩ : ∃ y, bs x = y := ⟨_, rfl⟩
  rw [hy] at cx
  clear hcl e1 SC hN hx HL1
  by_cases hx0 : x = []
  · have hemp : y.toList.isEmpty = true := by rw [← hy, bs_list, hx0]; rfl
    by_cases h21 : 20 < N
    · have HQ := Lib.hid (HNO.out (linesPr_no1 (by have := HN.out; omega)))
      clear hy
      go_wp2_with fail
      go_ret2
      rw [HQ.out.1, HQ.out.2]
      exact ⟨_, _, rfl, OwnP.nil _ _, E1.out⟩
    · have h21' : (N : Int) ≤ 20 := by omega
      have HLT := Lib.hid (show ls[ls.length - 1]? = some [] by rw [show ls.length - 1 = N by have := HN.out; omega, HX.out, hx0])
      have HYS := Lib.hid (fun cs h => HYES.out cs (linesPr_yes (by have := HN.out; omega) HLT.out h))
      have HNN := Lib.hid (fun (j : Nat) (x : List UInt8) (h1 : j < N) (h2 : ls[j]? = some x) (h3 : parseC (bs x) = none) => HNO.out (linesPr_no3 (by have := HN.out; omega) h2 h3))
      clear hy hx0 HX
      go_wp2_with fail
      go_loopw [6, 29] (fun ov iv wr => ∃ (j : Nat) (cs : List Cl) (av : Option Addr) (cv : Nat), j ≤ N ∧ iv = .int .i64 j ∧ ov = .slice av cs.length cv ∧ cs.length = j ∧ Hid (mapO (fun x => parseC (bs x)) (ls.take j) = some cs) ∧ Hid (OwnP (fun b => w.heap.size ≤ b ∧ b < wr.heap.size ∧ ¬ b = g) cs (.slice av cs.length cv) wr) ∧ Hid (Ext w wr) ∧ Hid (Fr (fun b => w.heap.size ≤ b ∧ ¬ b = g) w1 wr)) (fun _ i _ => N - (intOf i).toNat)
      case atStart => exact ⟨0, [], none, 0, Nat.zero_le _, rfl, rfl, rfl, Lib.hid rfl, Lib.hid (OwnP.nil _ _), E1, Lib.hid (Fr.refl _ _)⟩
      case round =>
        obtain ⟨j, cs, av, cv, hj, rfl, rfl, hcj, HM, HP, HE, HE1⟩ := hrel
        have HCJ := Lib.hid hcj
        clear hcj
        by_cases hlt : j < N
        · obtain ⟨z, hz⟩ : ∃ z, ls[j]? = some z := ⟨_, List.getElem?_eq_getElem (by have := HN.out; omega)⟩
          have cz := HE1.out.cell (by simp) (HCL.out j (bs z) (by rw [List.getElem?_map, hz]; rfl))
          have hzl : (bs z).size ≤ 1048576 := by rw [bs_size]; exact HLN.out z (List.mem_of_getElem? hz)
          have HZ := Lib.hid hz
          have PC := Lib.hid (implParseClause (bs z) wr hzl (HLIB.out.ext HE.out).1)
          have hsz := Below.size HE.out
          obtain ⟨zb, hzb⟩ : ∃ zb, bs z = zb := ⟨_, rfl⟩
          rw [hzb] at cz PC
          have HZB := Lib.hid hzb
          clear hz hzb hzl
          cases hpc : parseC zb with
          | none =>
            have HQ := Lib.hid (HNN.out j z hlt HZ.out (by rw [HZB.out]; exact hpc))
            have hl9 := line_no hpc
            rw [hl9.1, hl9.2] at PC
            clear hpc hl9
            go_wp2_with fail
            refine PC.out.mono ?_
            rintro e w3 ⟨v, rfl, hv, e3⟩
            obtain ⟨a3, ca3, b3, cb3, m3, rfl, _⟩ := hv
            go_wp2_with fail
            go_ret2
            rw [HQ.out.1, HQ.out.2]
            exact ⟨_, _, rfl, OwnP.nil _ _, HE.out.trans (e3.trans (Ext.alloc _ _))⟩
          | some c =>
            have hbl := line_small hpc
            have hl9 := line_yes hpc
            have HNX := Lib.hid (mapO_snoc (f := fun x => parseC (bs x)) HM.out (show parseC (bs z) = some c by rw [HZB.out]; exact hpc))
            rw [hl9.1, hl9.2] at PC
            clear hpc hl9
            go_wp2_with fail
            refine PC.out.mono ?_
            rintro e w3 ⟨v, rfl, hv, e3⟩
            obtain ⟨a3, ca3, b3, cb3, rfl, hcp⟩ := hv.ownP hbl
            have e34 := e3.trans (Ext.alloc w3 (.cells #[.int .i64 c.head.kind, .int .i64 c.head.n, .string c.head.name, .slice a3 c.head.kids.length ca3, .slice b3 c.body.length cb3] 27))
            have CP := Lib.hid ((hcp.zone (F' := fun b => wr.heap.size ≤ b ∧ ¬ b = g) (fun b hb => ⟨hb, by have := HE1.out.size; have hb' : wr.heap.size ≤ b := hb; omega⟩)).ext (Ext.alloc w3 (.cells #[.int .i64 c.head.kind, .int .i64 c.head.n, .string c.head.name, .slice a3 c.head.kids.length ca3, .slice b3 c.body.length cb3] 27)))
            have HP4 := Lib.hid (HP.out.ext e34)
            have E4 := Lib.hid (HE.out.trans e34)
            have E41 := Lib.hid (HE1.out.trans (Fr.of_ext e34))
            have hgw : g < wr.heap.size := by have := HE1.out.size; omega
            have CB := Lib.hid (BoxC.new w3 (.int .i64 c.head.kind) (.int .i64 c.head.n) (.string c.head.name) (.slice a3 c.head.kids.length ca3) (.slice b3 c.body.length cb3) 27 rfl)
            have s34 := Below.size e34
            clear hv hcp e3 e34
            go_upto_region 12 with (fail)
            obtain ⟨w4, hw4⟩ : ∃ z, z = w3.alloc (.cells #[.int .i64 c.head.kind, .int .i64 c.head.n, .string c.head.name, .slice a3 c.head.kids.length ca3, .slice b3 c.body.length cb3] 27) := ⟨_, rfl⟩
            rw [← hw4] at CP HP4 E4 E41 CB s34 ⊢
            clear hw4
            obtain ⟨k0, k1, k2, k3, k4, _, _, _, _, _⟩ := CB.out
            have hcl9 : cs.length < 1048576 := by have := HCJ.out; omega
            go_wp2_with (at_builtin; refine wpList_append_clx (w0 := wr) (fun b => b = g) rfl (.tmp 40) (.tmp 42) 36 rfl w.heap.size i0 Tryz.underlying36 hi hz0 hz1 hz2 (.slice av cs.length cv) cs c a3 b3 ca3 cb3 rfl HP4.out rfl CP.out s34 hsz (fun b hb => by have hb' : b = g := hb; omega) hcl9 rfl ?_; intro av2 cv2 w5 hP2 hF2)
            go_roundw
            case rel =>
              refine ⟨j + 1, cs ++ [c], av2, cv2, by omega, by go_num, by simp, by simp [HCJ.out], Lib.hid ?_, Lib.hid (by simpa using hP2), Lib.hid (((Fr.of_ext E4.out).trans hF2).toExt (fun k hk h => by have h' : w.heap.size ≤ k := h.1; omega)), Lib.hid (E41.out.trans hF2)⟩
              rw [take_snoc_of HZ.out]; exact HNX.out
            case measure => simp [intOf]; omega
        · obtain rfl : j = N := by omega
          have HQ := Lib.hid (HYS.out cs (by rw [show ls.length - 1 = j by have := HN.out; omega]; exact HM.out))
          have HPO := Lib.hid (HP.out.zone (F' := fun b => w.heap.size ≤ b) (fun b hb => hb.1))
          go_wp2_with fail
          go_ret2
          rw [HQ.out.1, HQ.out.2]
          exact ⟨av, cv, rfl, HPO.out, HE.out⟩
  · have hemp : y.toList.isEmpty = false := by rw [← hy, bs_list]; cases x with
      | nil => exact absurd rfl hx0
      | cons _ _ => rfl
    have HQ := Lib.hid (HNO.out (linesPr_no2 (by have h := HX.out; rw [show ls.length - 1 = N by have := HN.out; omega]; exact h) hx0))
    clear hy
    go_wp2_with fail
    go_ret2
    rw [HQ.out.1, HQ.out.2]
    exact ⟨_, _, rfl, OwnP.nil _ _, E1.out⟩
end Go.Proofs.YtognkaebiafgbaaGreatDoor

namespace Go.Proofs.YtognkaebiafgbaaGreatDoor
open Go.RowKit
set_option linter.unusedVariables false
theorem handed_and_shaped {H : Type} {enc : TypeId × Value → H} {a : Assume} {C : Checked} {os : Os} {f : FuncId} {fn : Func} {s : ChangeSpec} {conds : List PathCond} {apart fresh handsOn again : Bool} {X : World → Array Value → Prop}
    (hX : ∀ (w w' : World) (args : Array Value), w.heap = w'.heap → X w args → X w' args)
    (own : ownKnob C.prog.godebug = none) (started : os.Started) (noInit : C.prog.inits.idxOf? f = none) (hfn : C.prog.funcs[f]? = some fn)
    (witness : ∃ (w : World) (tape : Tape) (i : Input), w.os = os ∧ (w.forCall tape i).Shaped C.prog ∧ i.vars = [] ∧ Input.okWide C.prog (w.forCall tape i) .any w.heap.size f i ∧
      ((s.pre enc C.prog fn conds apart (w.forCall tape i).memory i.args ∧ X (w.forCall tape i).memory i.args) ∧ sizedMet enc C.prog fn (OpenSpec.ofChange s) apart (w.forCall tape i).memory i.args) ∧ a.holds C.prog (lone (Frame.enter C.prog f i.args .normal) [] (w.forCall tape i)))
    (contract : ∀ (W : World) (base : Nat) (args : Array Value) (ds gs : List (DataW H)) (before : List MemPlace),
      (∀ (j : Nat) t v, fn.params[j]? = some t → args[j]? = some v → Value.okWide C.prog W .any base t v) → DataW.Whole enc C.prog fn.params.toList s.vars apart W args.toList ds gs before → X W args → W.ShapedOpen C.prog →
      Calls C.prog f args W fun e W' => ∃ v, e = .returned v ∧ s.post enc C.prog fn apart fresh handsOn again W args v W') :
    ReturnsInHanded a C os f .any (fun w args => (s.pre enc C.prog fn conds apart w args ∧ X w args) ∧ sizedMet enc C.prog fn (OpenSpec.ofChange s) apart w args) (s.post enc C.prog fn apart fresh handsOn again) := by
  refine returnsInHanded_of_calls own started noInit witness ?_
  intro w tape i _ hshape _ hok hpre _
  obtain ⟨_, _, _, g, hg, _, _, _, _, hval⟩ := hok
  obtain rfl : g = fn := Option.some.inj (hg.symm.trans hfn)
  obtain ⟨⟨⟨ds, gs, before, hw, _⟩, hx⟩, _⟩ := hpre
  refine (contract (w.forCall tape i) w.heap.size i.args ds gs before hval (DataW.Whole.of_heap (w' := w.forCall tape i) (by rfl) hw) (hX _ _ _ (by rfl) hx) hshape).mono ?_
  rintro e W' ⟨v, rfl, hp⟩
  exact ChangeSpec.post_blind hp
theorem max_cell {W : World} (h : W.ShapedOpen Tryz.prog) : ∃ m : Int, W.cell? ⟨0, 0, none⟩ = some (.int .i64 m) :=
  cell_of_shapedOpen_int (P := Tryz.prog) (g := 0) (t := 3) (zero := #[.int .i64 0]) h (of_decide_eq_true (by kernel_rfl)) (by kernel_rfl) rfl (by kernel_rfl) (by kernel_rfl) Tryz.underlying3
end Go.Proofs.YtognkaebiafgbaaGreatDoor

namespace Go.Proofs.YtognkaebiafgbaaGreatDoor
open Go.RowKit
set_option linter.unusedVariables false
def shortF (cs : List Cl) : Bool := cs.all fun c => decide ((formatClF c).length ≤ 1000)
theorem short_no {cs : List Cl} {j : Nat} {c : Cl} (h : cs[j]? = some c) (hl : 1000 < (formatClF c).length) : shortF cs = false := by
  unfold shortF
  rw [List.all_eq_false]
  exact ⟨c, List.mem_of_getElem? h, by simp; omega⟩
theorem short_take {cs : List Cl} {j : Nat} {c : Cl} (h : cs[j]? = some c) (hl : (formatClF c).length ≤ 1000) (ha : shortF (cs.take j) = true) : shortF (cs.take (j + 1)) = true := by
  unfold shortF at ha ⊢
  rw [take_snoc_of h, List.all_append, ha]
  simp [hl]
theorem short_all {cs : List Cl} (h : shortF cs = true) : ∀ c ∈ cs, (formatClF c).length ≤ 1000 := fun c hc => by
  unfold shortF at h
  simpa using List.all_eq_true.1 h c hc
set_option maxRecDepth 100000 in
set_option maxHeartbeats 2000000 in
theorem lawspgShort (cs : List Cl) (v : Value) (S : Nat → Prop) (w : World) (hc : Cl.sl S w cs v) (htab : TabW w) : Calls Tryz.prog 31 #[v] w fun e w' => e = .returned (.bool (shortF cs)) ∧ Ext w w' := by
  have HTAB := Lib.hid htab
  obtain ⟨ar, cap, rfl, h1, h2, h3, h4⟩ := hc
  have H4 := Lib.hid h4
  clear h4 htab
  go_enter Tryz.func31, Tryz.ntmps31
  go_wp2_with fail
  go_loopw [3] (fun i wr => ∃ (j : Nat), j ≤ cs.length ∧ i = .int .i64 j ∧ Hid (shortF (cs.take j) = true) ∧ Hid (Ext w wr)) (fun i _ => cs.length - (intOf i).toNat)
  case atStart => exact ⟨0, Nat.zero_le _, rfl, Lib.hid rfl, Lib.hid (Ext.refl _)⟩
  case round =>
    obtain ⟨j, hj, rfl, HA, HE⟩ := hrel
    by_cases hlt : j < cs.length
    · obtain ⟨c, hcj⟩ := cgetk hlt
      obtain ⟨b, off, ak, ck, al, cl, rfl, k0, k1, k2, k3, k4, hat, hbd⟩ := Cl.get H4.out hcj HE.out
      have HF := Lib.hid (implFormatClause c _ S wr ⟨_, _, rfl, Tm.at_ext HE.out hat, Tm.sl_ext HE.out hbd⟩ (HTAB.out.ext HE.out))
      have HN := Lib.hid (fun h => short_no hcj h)
      have HY := Lib.hid (fun h => short_take hcj h HA.out)
      have hsz : (bs (formatClF c)).size = (formatClF c).length := bs_size _
      obtain ⟨n, hn⟩ : ∃ n, (formatClF c).length = n := ⟨_, rfl⟩
      obtain ⟨F, hF⟩ : ∃ F, bs (formatClF c) = F := ⟨_, rfl⟩
      rw [hF] at HF hsz
      rw [hn] at hsz HN HY
      clear hcj hat hbd hn hF
      by_cases hl : n ≤ 1000
      · have hl' : ¬ (1000 : Int) < (F.size : Int) := by omega
        have HY2 := Lib.hid (HY.out hl)
        go_wp2_with fail
        refine HF.out.mono ?_
        rintro e w2 ⟨rfl, e2⟩
        go_wp2_with fail
        go_roundw
        case rel => exact ⟨j + 1, by omega, by go_num, HY2, Lib.hid (HE.out.trans e2)⟩
        case measure => simp [intOf]; omega
      · have hl' : (1000 : Int) < (F.size : Int) := by omega
        have HN2 := Lib.hid (HN.out (by omega))
        go_wp2_with fail
        refine HF.out.mono ?_
        rintro e w2 ⟨rfl, e2⟩
        go_wp2_with fail
        go_ret
        exact ⟨retB HN2.out.symm, HE.out.trans e2⟩
    · have HQ := Lib.hid (show shortF cs = true by have := HA.out; rwa [List.take_of_length_le (by omega)] at this)
      go_wp2_with fail
      go_ret
      exact ⟨retB HQ.out.symm, HE.out⟩
set_option maxRecDepth 100000 in
set_option maxHeartbeats 2000000 in
theorem lawspgClauses (cs ds : List Cl) (v v' : Value) (S S' : Nat → Prop) (w : World) (he : cs = ds) (hc : Cl.sl S w cs v) (hd : Cl.sl S' w ds v') : Calls Tryz.prog 32 #[v, v'] w fun e w' => e = .returned (.bool true) ∧ Ext w w' := by
  subst he
  obtain ⟨ar, cap, rfl, h1, h2, h3, h4⟩ := hc
  obtain ⟨br, bap, rfl, g1, g2, g3, g4⟩ := hd
  have H4 := Lib.hid h4
  have G4 := Lib.hid g4
  have hne : ((cs.length : Int) != (cs.length : Int)) = false := by simp
  clear h4 g4
  go_enter Tryz.func32, Tryz.ntmps32
  go_wp2_with fail
  go_loopw [5] (fun i wr => ∃ (j : Nat), j ≤ cs.length ∧ i = .int .i64 j ∧ Hid (Ext w wr)) (fun i _ => cs.length - (intOf i).toNat)
  case atStart => exact ⟨0, Nat.zero_le _, rfl, Lib.hid (Ext.refl _)⟩
  case round =>
    obtain ⟨j, hj, rfl, HE⟩ := hrel
    by_cases hlt : j < cs.length
    · obtain ⟨c, hcj⟩ := cgetk hlt
      obtain ⟨b, off, ak, ck, al, cl, rfl, k0, k1, k2, k3, k4, hat, hbd⟩ := Cl.get H4.out hcj HE.out
      obtain ⟨b', off', ak', ck', al', cl', rfl, m0, m1, m2, m3, m4, hat', hbd'⟩ := Cl.get G4.out hcj HE.out
      have cQ := quiet_call (w := wr) (fun w' e' => (show Calls Tryz.prog 18 #[_, _] w' (fun e w'' => e = .returned (.bool true) ∧ Ext w' w'') from csame_refl c ▸ implClauseSame c c _ _ S S' w' ⟨_, _, rfl, Tm.at_ext (HE.out.trans e') hat, Tm.sl_ext (HE.out.trans e') hbd⟩ ⟨_, _, rfl, Tm.at_ext (HE.out.trans e') hat', Tm.sl_ext (HE.out.trans e') hbd'⟩))
      have n0 := cell_regrown k0
      have n1 := cell_regrown k1
      have n2 := cell_regrown k2
      have n3 := cell_regrown k3
      have n4 := cell_regrown k4
      have q0 := cell_regrown m0
      have q1 := cell_regrown m1
      have q2 := cell_regrown m2
      have q3 := cell_regrown m3
      have q4 := cell_regrown m4
      clear hcj hat hbd hat' hbd' k0 k1 k2 k3 k4 m0 m1 m2 m3 m4
      go_wp2_with fail
      refine region_ext (by kernel_rfl) (by kernel_rfl) ?_
      repeat (quiet_step (exact cQ _ _))
      refine wpQuiet_nil ?_
      intro wq eq
      clear n0 n1 n2 n3 n4 q0 q1 q2 q3 q4 cQ
      go_wp2_with fail
      go_roundw
      case rel => exact ⟨j + 1, by omega, by go_num, Lib.hid (HE.out.trans eq)⟩
      case measure => simp [intOf]; omega
    · go_wp2_with fail
      go_ret
      exact ⟨rfl, HE.out⟩
end Go.Proofs.YtognkaebiafgbaaGreatDoor

namespace Go.Proofs.YtognkaebiafgbaaGreatDoor.fnProgramText
open Go.ChangeShapes Go.WideShapes Go.ChangeAt Go.RowKit
open Go.ChangeMaps (open_string shut_string)
set_option linter.unusedVariables false
theorem own : ownKnob Tryz.prog.godebug = none := by kernel_rfl
theorem laidOut : laidOutB Tryz.prog = true := by kernel_rfl
theorem pr_back (ds : List Cl) (h : prValidF ds = true) (hs : shortF ds = true) : parsePB (bs (formatPrF ds)) = true ∧ parsePT (bs (formatPrF ds)) = ds := by
  have hl : ∀ c ∈ ds, (clTxt c).length ≤ 1000 := fun c hc => by
    have h1 := short_all hs c hc
    unfold formatClF at h1
    rwa [if_pos ((pr_mem h).2 c hc)] at h1
  have := parsePr_val h hl
  unfold parsePB parsePT formatPrF
  rw [bs_list, if_pos h, this]
  exact ⟨rfl, rfl⟩
theorem pr_text (u : ByteArray) (h : parsePB u = true) : ((bs (formatPrF (parsePT u))).toList == u.toList) = true := by
  unfold parsePB at h
  unfold parsePT
  cases e : parsePr u.toList with
  | none => rw [e] at h; cases h
  | some cs =>
    obtain ⟨h1, h2⟩ := parsePr_spec e
    simp only [Option.getD_some]
    unfold formatPrF
    rw [if_pos h1, bs_list, h2]
    simp
theorem pr_len (u : ByteArray) : (parsePT u).length ≤ 1048576 := by
  unfold parsePT
  cases e : parsePr u.toList with
  | none => decide
  | some cs => have := (pr_mem (parsePr_spec e).1).1; simp only [Option.getD_some]; omega
set_option maxRecDepth 100000 in
set_option maxHeartbeats 8000000 in
theorem walk (v0 v1 : Value) (w : World) (htab : LibM w) (hv0 : BytesAt w v0) (hv1 : BytesAt w v1) :
    Calls Tryz.prog 5 #[v0, v1] w fun e w' => e = .returned (.bool true) ∧ Below w.heap.size w w' := by
  have HV0 := Lib.hid hv0
  have HV1 := Lib.hid hv1
  have HTAB := Lib.hid htab
  clear htab
  obtain ⟨a, len, cap, rfl, h1, h2, h3⟩ := hv0
  obtain ⟨a', len', cap', rfl, h1', h2', h3'⟩ := hv1
  clear h3 h3'
  by_cases hl : len ≤ 1048576
  · by_cases hl' : len' ≤ 1048576
    · go_enter Tryz.func5, Tryz.ntmps5
      go_wp2_with fail
      refine (drawFormatProgram _ _ HV0.out).mono ?_
      rintro e w1 ⟨ds, g, o, c, rfl, hd, hsl, e1⟩
      have D := Lib.hid hsl
      have B := Lib.hid e1
      have hF := format_pr_len ds hd
      have HBK := Lib.hid (fun h hs => pr_back ds h hs)
      have FI := Lib.hid (fun w' (e : Ext w1 w') => implFormatProgram ds _ _ w' (Cl.sl_ext e D.out) (HTAB.out.ext (B.out.trans e)).1.1)
      have FS := Lib.hid (fun w' (e : Ext w1 w') => specFormatProgram ds _ _ w' (Cl.sl_ext e D.out))
      obtain ⟨F, hFe⟩ : ∃ F, bs (formatPrF ds) = F := ⟨_, rfl⟩
      rw [hFe] at hF FI FS
      rw [hFe] at HBK
      have hne : (F.toList != F.toList) = false := by simp
      have IP := Lib.hid (fun w' (e : Ext w w') => implParseProgram F w' (by omega) (HTAB.out.ext e))
      have HPL := Lib.hid (pr_len F)
      have E1 := Lib.hid (Ext.refl w1)
      clear hsl e1 hFe hd
      go_wp2_with fail
      refine (FI.out _ E1.out).mono ?_
      rintro e w2 ⟨rfl, e2⟩
      have E2 := Lib.hid (E1.out.trans e2)
      clear e2
      go_wp2_with fail
      refine (IP.out _ (B.out.trans E2.out)).mono ?_
      rintro e w3 ⟨ap, cp, rfl, ho, e3⟩
      obtain ⟨ps, hps⟩ : ∃ z, parsePT F = z := ⟨_, rfl⟩
      obtain ⟨pb, hpb⟩ : ∃ z, parsePB F = z := ⟨_, rfl⟩
      rw [hps] at HPL HBK ho ⊢
      rw [hpb] at HBK ⊢
      have P := Lib.hid (ho.sl HPL.out)
      have E3 := Lib.hid (E2.out.trans e3)
      have E33 := Lib.hid (Ext.refl w3)
      clear e3 ho hps hpb
      go_wp2_with fail
      refine (FS.out _ E3.out).mono ?_
      rintro e w4 ⟨rfl, e4⟩
      have E4 := Lib.hid (E3.out.trans e4)
      have E34 := Lib.hid e4
      clear e4
      have VI := Lib.hid (fun w' (e : Ext w1 w') => implProgramValid ds _ _ w' (Cl.sl_ext e D.out))
      have VS := Lib.hid (fun w' (e : Ext w1 w') => specProgramValid ds _ _ w' (Cl.sl_ext e D.out))
      obtain ⟨vv, hvv⟩ : ∃ z, prValidF ds = z := ⟨_, rfl⟩
      have HVV := Lib.hid hvv
      rw [hvv] at VI VS
      have hb1 : (vv != vv) = false := by simp
      clear hvv
      go_wp2_with fail
      refine (VI.out _ E4.out).mono ?_
      rintro e w5 ⟨rfl, e5⟩
      have E5 := Lib.hid (E4.out.trans e5)
      have E35 := Lib.hid (E34.out.trans e5)
      clear e5
      go_wp2_with fail
      refine (VS.out _ E5.out).mono ?_
      rintro e w6 ⟨rfl, e6⟩
      have E6 := Lib.hid (E5.out.trans e6)
      have E36 := Lib.hid (E35.out.trans e6)
      clear e6
      go_wp2_with fail
      refine (VI.out _ E6.out).mono ?_
      rintro e w7 ⟨rfl, e7⟩
      have E7 := Lib.hid (E6.out.trans e7)
      have E37 := Lib.hid (E36.out.trans e7)
      clear e7
      cases vv
      · have BT := Lib.hid (B.out.trans E7.out)
        go_wp2_with fail
        refine (drawParseProgram _ _ (HV1.out.ext BT.out)).mono ?_
        rintro e x1 ⟨u, rfl, hu, f1⟩
        have B1 := Lib.hid (BT.out.trans f1)
        have hus : u.size ≤ 1048576 := by omega
        have HPX := Lib.hid (pr_text u)
        have HPU := Lib.hid (pr_len u)
        have IP2 := Lib.hid (fun w' (e : Ext w w') => implParseProgram u w' hus (HTAB.out.ext e))
        have SP2 := Lib.hid (fun w' => specParseProgram u w' hus)
        generalize parsePT u = cg at IP2 SP2 HPX HPU
        generalize parsePB u = bg at IP2 SP2 HPX
        clear f1
        go_wp2_with fail
        refine (IP2.out _ B1.out).mono ?_
        rintro e x2 ⟨ag, dg, rfl, ho, f2⟩
        have G := Lib.hid (ho.sl HPU.out)
        have B2 := Lib.hid (B1.out.trans f2)
        clear ho f2
        go_wp2_with fail
        refine (SP2.out _).mono ?_
        rintro e x3 ⟨aw, dw, rfl, ho, f3⟩
        have Wn := Lib.hid (ho.sl HPU.out)
        have G := Lib.hid (Cl.sl_ext f3 G.out)
        have B3 := Lib.hid (B2.out.trans f3)
        clear ho f3
        cases bg
        · go_wp2_with fail
          refine (lawspgClauses cg cg _ _ _ _ _ rfl G.out Wn.out).mono ?_
          rintro e x4 ⟨rfl, f4⟩
          go_wp2_with fail
          go_ret
          exact ⟨rfl, B3.out.trans f4⟩
        · have hcm := HPX.out rfl
          have hcm2 : (bs (formatPrF cg)).toList = u.toList := by simpa using hcm
          go_wp2_with fail
          refine (lawspgClauses cg cg _ _ _ _ _ rfl G.out Wn.out).mono ?_
          rintro e x4 ⟨rfl, f4⟩
          have G := Lib.hid (Cl.sl_ext f4 G.out)
          have B4 := Lib.hid (B3.out.trans f4)
          clear f4
          go_wp2_with fail
          refine (implFormatProgram cg _ _ _ G.out (HTAB.out.ext B4.out).1.1).mono ?_
          rintro e x5 ⟨rfl, f5⟩
          go_wp2_with fail
          go_ret
          first
          | exact ⟨rfl, B4.out.trans f5⟩
          | exact ⟨retB (by simp [hcm2]), B4.out.trans f5⟩
      · have PS := Lib.hid (fun w' (e : Ext w1 w') => lawspgShort ds _ _ w' (Cl.sl_ext e D.out) (HTAB.out.ext (B.out.trans e)).1.1)
        obtain ⟨sh, hsh⟩ : ∃ z, shortF ds = z := ⟨_, rfl⟩
        have HSH := Lib.hid hsh
        rw [hsh] at PS
        clear hsh
        go_wp2_with fail
        refine (PS.out _ E7.out).mono ?_
        rintro e w8 ⟨rfl, e8⟩
        have E8 := Lib.hid (E7.out.trans e8)
        have E38 := Lib.hid (E37.out.trans e8)
        clear e8
        cases sh
        · have BT := Lib.hid (B.out.trans E8.out)
          go_wp2_with fail
          refine (drawParseProgram _ _ (HV1.out.ext BT.out)).mono ?_
          rintro e x1 ⟨u, rfl, hu, f1⟩
          have B1 := Lib.hid (BT.out.trans f1)
          have hus : u.size ≤ 1048576 := by omega
          have HPX := Lib.hid (pr_text u)
          have HPU := Lib.hid (pr_len u)
          have IP2 := Lib.hid (fun w' (e : Ext w w') => implParseProgram u w' hus (HTAB.out.ext e))
          have SP2 := Lib.hid (fun w' => specParseProgram u w' hus)
          generalize parsePT u = cg at IP2 SP2 HPX HPU
          generalize parsePB u = bg at IP2 SP2 HPX
          clear f1
          go_wp2_with fail
          refine (IP2.out _ B1.out).mono ?_
          rintro e x2 ⟨ag, dg, rfl, ho, f2⟩
          have G := Lib.hid (ho.sl HPU.out)
          have B2 := Lib.hid (B1.out.trans f2)
          clear ho f2
          go_wp2_with fail
          refine (SP2.out _).mono ?_
          rintro e x3 ⟨aw, dw, rfl, ho, f3⟩
          have Wn := Lib.hid (ho.sl HPU.out)
          have G := Lib.hid (Cl.sl_ext f3 G.out)
          have B3 := Lib.hid (B2.out.trans f3)
          clear ho f3
          cases bg
          · go_wp2_with fail
            refine (lawspgClauses cg cg _ _ _ _ _ rfl G.out Wn.out).mono ?_
            rintro e x4 ⟨rfl, f4⟩
            go_wp2_with fail
            go_ret
            exact ⟨rfl, B3.out.trans f4⟩
          · have hcm := HPX.out rfl
            have hcm2 : (bs (formatPrF cg)).toList = u.toList := by simpa using hcm
            go_wp2_with fail
            refine (lawspgClauses cg cg _ _ _ _ _ rfl G.out Wn.out).mono ?_
            rintro e x4 ⟨rfl, f4⟩
            have G := Lib.hid (Cl.sl_ext f4 G.out)
            have B4 := Lib.hid (B3.out.trans f4)
            clear f4
            go_wp2_with fail
            refine (implFormatProgram cg _ _ _ G.out (HTAB.out.ext B4.out).1.1).mono ?_
            rintro e x5 ⟨rfl, f5⟩
            go_wp2_with fail
            go_ret
            first
            | exact ⟨rfl, B4.out.trans f5⟩
            | exact ⟨retB (by simp [hcm2]), B4.out.trans f5⟩
        · obtain ⟨q1, q2⟩ := HBK.out HVV.out HSH.out
          subst q1 q2
          go_wp2_with fail
          refine (lawspgClauses ps ps _ _ _ _ _ rfl (Cl.sl_ext E38.out P.out) (Cl.sl_ext E8.out D.out)).mono ?_
          rintro e w9 ⟨rfl, e9⟩
          have BT := Lib.hid (B.out.trans (E8.out.trans e9))
          clear e9
          go_wp2_with fail
          refine (drawParseProgram _ _ (HV1.out.ext BT.out)).mono ?_
          rintro e x1 ⟨u, rfl, hu, f1⟩
          have B1 := Lib.hid (BT.out.trans f1)
          have hus : u.size ≤ 1048576 := by omega
          have HPX := Lib.hid (pr_text u)
          have HPU := Lib.hid (pr_len u)
          have IP2 := Lib.hid (fun w' (e : Ext w w') => implParseProgram u w' hus (HTAB.out.ext e))
          have SP2 := Lib.hid (fun w' => specParseProgram u w' hus)
          generalize parsePT u = cg at IP2 SP2 HPX HPU
          generalize parsePB u = bg at IP2 SP2 HPX
          clear f1
          go_wp2_with fail
          refine (IP2.out _ B1.out).mono ?_
          rintro e x2 ⟨ag, dg, rfl, ho, f2⟩
          have G := Lib.hid (ho.sl HPU.out)
          have B2 := Lib.hid (B1.out.trans f2)
          clear ho f2
          go_wp2_with fail
          refine (SP2.out _).mono ?_
          rintro e x3 ⟨aw, dw, rfl, ho, f3⟩
          have Wn := Lib.hid (ho.sl HPU.out)
          have G := Lib.hid (Cl.sl_ext f3 G.out)
          have B3 := Lib.hid (B2.out.trans f3)
          clear ho f3
          cases bg
          · go_wp2_with fail
            refine (lawspgClauses cg cg _ _ _ _ _ rfl G.out Wn.out).mono ?_
            rintro e x4 ⟨rfl, f4⟩
            go_wp2_with fail
            go_ret
            exact ⟨rfl, B3.out.trans f4⟩
          · have hcm := HPX.out rfl
            have hcm2 : (bs (formatPrF cg)).toList = u.toList := by simpa using hcm
            go_wp2_with fail
            refine (lawspgClauses cg cg _ _ _ _ _ rfl G.out Wn.out).mono ?_
            rintro e x4 ⟨rfl, f4⟩
            have G := Lib.hid (Cl.sl_ext f4 G.out)
            have B4 := Lib.hid (B3.out.trans f4)
            clear f4
            go_wp2_with fail
            refine (implFormatProgram cg _ _ _ G.out (HTAB.out.ext B4.out).1.1).mono ?_
            rintro e x5 ⟨rfl, f5⟩
            go_wp2_with fail
            go_ret
            first
            | exact ⟨rfl, B4.out.trans f5⟩
            | exact ⟨retB (by simp [hcm2]), B4.out.trans f5⟩
    · go_enter Tryz.func5, Tryz.ntmps5
      go_wp2_with fail
      go_ret
      exact ⟨rfl, Below.refl _ _⟩
  · go_enter Tryz.func5, Tryz.ntmps5
    go_wp2_with fail
    go_ret
    exact ⟨rfl, Below.refl _ _⟩
end Go.Proofs.YtognkaebiafgbaaGreatDoor.fnProgramText
