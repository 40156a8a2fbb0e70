/-
  The program's ParseProgram.
-/
import Derived.ProofKit
import Derived.Shelf.Vars
import Derived.HandedShaped
import Derived.Test.YtognkaebiafgbaaGreatDoorMr24
import Derived.Test.YtognkaebiafgbaaGreatDoorMr37
import Derived.Test.YtognkaebiafgbaaGreatDoorMr49
import Derived.Test.YtognkaebiafgbaaGreatDoorMr12
import Derived.Test.YtognkaebiafgbaaGreatDoorMr36
namespace Go.Proofs.YtognkaebiafgbaaGreatDoor
open Go.RowKit
set_option linter.unusedVariables false
def LibM (w : World) : Prop := LibG w ∧ ∃ m : Int, w.cell? ⟨0, 0, none⟩ = some (.int .i64 m)
theorem LibM.ext {w w' : World} (h : LibM w) (e : Ext w w') : LibM w' := by
  obtain ⟨h1, m, h2⟩ := h
  exact ⟨h1.ext e, m, e.cell h2⟩
theorem split_lines (s : ByteArray) (w : World) (hs : s.size ≤ 1048576) (hL : LibM w) : Calls Tryz.prog 75 #[.string s, .string ⟨#[10]⟩] w (LinesO s w) := by
  obtain ⟨_, m, hm⟩ := hL
  refine (Tryz.strings_Split s ⟨#[10]⟩ m w (by omega) hm (by decide)).mono ?_
  rintro e w' ⟨rfl, rfl⟩
  have hlen := Lib.splitB_all ⟨#[10]⟩ (by decide) 0 _ s rfl
  rw [split_cut, List.length_map] at hlen
  rw [split_cut, ← hlen]
  refine ⟨w.heap.size, _, rfl, Nat.le_refl _, ⟨w.heap.size, (cutL s.toList).length, by rw [List.length_map], by simp, by rw [List.length_map]; omega, by have := cutL_le s.toList; rw [bl_len] at this; omega, fun j x hx => ?_⟩, Ext.alloc _ _⟩
  have := cell_new w (((cutL s.toList).map bs).map Value.string).toArray 9 j (.string x) (by simpa using hx)
  rwa [Nat.zero_add] at this
set_option maxRecDepth 100000 in
set_option maxHeartbeats 4000000 in
theorem implParseProgram (s : ByteArray) (w : World) (hs : s.size ≤ 1048576) (hL : LibM w) : Calls Tryz.prog 22 #[.string s] w (PrBO (parsePT s) (parsePB s) w) := by
  obtain ⟨i0, hi, hz0, hz1, hz2⟩ := info_parts info_cl
  have HNO := Lib.hid (fun h => pr_none (s := s) h)
  have HYES := Lib.hid (fun cs h => pr_some (s := s) (cs := cs) h)
  have HLN := Lib.hid (fun (x : List UInt8) (h : x ∈ cutL s.toList) => (show x.length ≤ 1048576 by have := cut_line s.toList x h; rw [bl_len] at this; omega))
  have HL1 := cutL_len s.toList
  have HLL : (cutL s.toList).length ≤ 1048577 := by have := cutL_le s.toList; rw [bl_len] at this; omega
  have SC := Lib.hid (split_lines s w hs hL)
  have HLIB := Lib.hid hL
  clear hL
  go_enter Tryz.func22, Tryz.ntmps22
  go_wp2_with fail
  refine SC.out.mono ?_
  rintro e w1 ⟨g, c, rfl, hgl, hv, e1⟩
  generalize cutL s.toList = ls at HNO HYES HLN HL1 HLL hv
  obtain ⟨g', c', hgc, hg, hc1, hc2, hcl⟩ := hv
  simp only [Value.slice.injEq, Option.some.injEq, Addr.mk.injEq, and_true] at hgc
  obtain ⟨rfl, _, rfl⟩ := hgc
  rw [List.length_map] at hc1
  have HCL := Lib.hid hcl
  have E1 := Lib.hid e1
  obtain ⟨N, hN⟩ : ∃ N, ls.length = N + 1 := ⟨ls.length - 1, by omega⟩
  rw [hN] at hc1 HLL ⊢
  have HN := Lib.hid hN
  obtain ⟨x, hx⟩ : ∃ x, ls[N]? = some x := ⟨_, List.getElem?_eq_getElem (by omega)⟩
  have cx := hcl N (bs x) (by rw [List.getElem?_map, hx]; rfl)
  have HX := Lib.hid hx
  have hlast : ((N + 1 : Nat) : Int) - 1 = (N : Int) := by omega
  obtain ⟨y, hy⟩ : ∃ y, bs x = y := ⟨_, rfl⟩
  rw [hy] at cx
  clear hcl e1 SC hN hx HL1
  by_cases hx0 : x = []
  · have hemp : y.toList.isEmpty = true := by rw [← hy, bs_list, hx0]; rfl
    by_cases h21 : 20 < N
    · have HQ := Lib.hid (HNO.out (linesPr_no1 (by have := HN.out; omega)))
      clear hy
      go_wp2_with fail
      go_ret2
      rw [HQ.out.1, HQ.out.2]
      exact ⟨_, _, rfl, OwnP.nil _ _, E1.out⟩
    · have h21' : (N : Int) ≤ 20 := by omega
      have HLT := Lib.hid (show ls[ls.length - 1]? = some [] by rw [show ls.length - 1 = N by have := HN.out; omega, HX.out, hx0])
      have HYS := Lib.hid (fun cs h => HYES.out cs (linesPr_yes (by have := HN.out; omega) HLT.out h))
      have HNN := Lib.hid (fun (j : Nat) (x : List UInt8) (h1 : j < N) (h2 : ls[j]? = some x) (h3 : parseC (bs x) = none) => HNO.out (linesPr_no3 (by have := HN.out; omega) h2 h3))
      clear hy hx0 HX
      go_wp2_with fail
      go_loopw [6, 29] (fun ov iv wr => ∃ (j : Nat) (cs : List Cl) (av : Option Addr) (cv : Nat), j ≤ N ∧ iv = .int .i64 j ∧ ov = .slice av cs.length cv ∧ cs.length = j ∧ Hid (mapO (fun x => parseC (bs x)) (ls.take j) = some cs) ∧ Hid (OwnP (fun b => w.heap.size ≤ b ∧ b < wr.heap.size ∧ ¬ b = g) cs (.slice av cs.length cv) wr) ∧ Hid (Ext w wr) ∧ Hid (Fr (fun b => w.heap.size ≤ b ∧ ¬ b = g) w1 wr)) (fun _ i _ => N - (intOf i).toNat)
      case atStart => exact ⟨0, [], none, 0, Nat.zero_le _, rfl, rfl, rfl, Lib.hid rfl, Lib.hid (OwnP.nil _ _), E1, Lib.hid (Fr.refl _ _)⟩
      case round =>
        obtain ⟨j, cs, av, cv, hj, rfl, rfl, hcj, HM, HP, HE, HE1⟩ := hrel
        have HCJ := Lib.hid hcj
        clear hcj
        by_cases hlt : j < N
        · obtain ⟨z, hz⟩ : ∃ z, ls[j]? = some z := ⟨_, List.getElem?_eq_getElem (by have := HN.out; omega)⟩
          have cz := HE1.out.cell (by simp) (HCL.out j (bs z) (by rw [List.getElem?_map, hz]; rfl))
          have hzl : (bs z).size ≤ 1048576 := by rw [bs_size]; exact HLN.out z (List.mem_of_getElem? hz)
          have HZ := Lib.hid hz
          have PC := Lib.hid (implParseClause (bs z) wr hzl (HLIB.out.ext HE.out).1)
          have hsz := Below.size HE.out
          obtain ⟨zb, hzb⟩ : ∃ zb, bs z = zb := ⟨_, rfl⟩
          rw [hzb] at cz PC
          have HZB := Lib.hid hzb
          clear hz hzb hzl
          cases hpc : parseC zb with
          | none =>
            have HQ := Lib.hid (HNN.out j z hlt HZ.out (by rw [HZB.out]; exact hpc))
            have hl9 := line_no hpc
            rw [hl9.1, hl9.2] at PC
            clear hpc hl9
            go_wp2_with fail
            refine PC.out.mono ?_
            rintro e w3 ⟨v, rfl, hv, e3⟩
            obtain ⟨a3, ca3, b3, cb3, m3, rfl, _⟩ := hv
            go_wp2_with fail
            go_ret2
            rw [HQ.out.1, HQ.out.2]
            exact ⟨_, _, rfl, OwnP.nil _ _, HE.out.trans (e3.trans (Ext.alloc _ _))⟩
          | some c =>
            have hbl := line_small hpc
            have hl9 := line_yes hpc
            have HNX := Lib.hid (mapO_snoc (f := fun x => parseC (bs x)) HM.out (show parseC (bs z) = some c by rw [HZB.out]; exact hpc))
            rw [hl9.1, hl9.2] at PC
            clear hpc hl9
            go_wp2_with fail
            refine PC.out.mono ?_
            rintro e w3 ⟨v, rfl, hv, e3⟩
            obtain ⟨a3, ca3, b3, cb3, rfl, hcp⟩ := hv.ownP hbl
            have e34 := e3.trans (Ext.alloc w3 (.cells #[.int .i64 c.head.kind, .int .i64 c.head.n, .string c.head.name, .slice a3 c.head.kids.length ca3, .slice b3 c.body.length cb3] 27))
            have CP := Lib.hid ((hcp.zone (F' := fun b => wr.heap.size ≤ b ∧ ¬ b = g) (fun b hb => ⟨hb, by have := HE1.out.size; have hb' : wr.heap.size ≤ b := hb; omega⟩)).ext (Ext.alloc w3 (.cells #[.int .i64 c.head.kind, .int .i64 c.head.n, .string c.head.name, .slice a3 c.head.kids.length ca3, .slice b3 c.body.length cb3] 27)))
            have HP4 := Lib.hid (HP.out.ext e34)
            have E4 := Lib.hid (HE.out.trans e34)
            have E41 := Lib.hid (HE1.out.trans (Fr.of_ext e34))
            have hgw : g < wr.heap.size := by have := HE1.out.size; omega
            have CB := Lib.hid (BoxC.new w3 (.int .i64 c.head.kind) (.int .i64 c.head.n) (.string c.head.name) (.slice a3 c.head.kids.length ca3) (.slice b3 c.body.length cb3) 27 rfl)
            have s34 := Below.size e34
            clear hv hcp e3 e34
            go_upto_region 12 with (fail)
            obtain ⟨w4, hw4⟩ : ∃ z, z = w3.alloc (.cells #[.int .i64 c.head.kind, .int .i64 c.head.n, .string c.head.name, .slice a3 c.head.kids.length ca3, .slice b3 c.body.length cb3] 27) := ⟨_, rfl⟩
            rw [← hw4] at CP HP4 E4 E41 CB s34 ⊢
            clear hw4
            obtain ⟨k0, k1, k2, k3, k4, _, _, _, _, _⟩ := CB.out
            have hcl9 : cs.length < 1048576 := by have := HCJ.out; omega
            go_wp2_with (at_builtin; refine wpList_append_clx (w0 := wr) (fun b => b = g) rfl (.tmp 40) (.tmp 42) 36 rfl w.heap.size i0 Tryz.underlying36 hi hz0 hz1 hz2 (.slice av cs.length cv) cs c a3 b3 ca3 cb3 rfl HP4.out rfl CP.out s34 hsz (fun b hb => by have hb' : b = g := hb; omega) hcl9 rfl ?_; intro av2 cv2 w5 hP2 hF2)
            go_roundw
            case rel =>
              refine ⟨j + 1, cs ++ [c], av2, cv2, by omega, by go_num, by simp, by simp [HCJ.out], Lib.hid ?_, Lib.hid (by simpa using hP2), Lib.hid (((Fr.of_ext E4.out).trans hF2).toExt (fun k hk h => by have h' : w.heap.size ≤ k := h.1; omega)), Lib.hid (E41.out.trans hF2)⟩
              rw [take_snoc_of HZ.out]; exact HNX.out
            case measure => simp [intOf]; omega
        · obtain rfl : j = N := by omega
          have HQ := Lib.hid (HYS.out cs (by rw [show ls.length - 1 = j by have := HN.out; omega]; exact HM.out))
          have HPO := Lib.hid (HP.out.zone (F' := fun b => w.heap.size ≤ b) (fun b hb => hb.1))
          go_wp2_with fail
          go_ret2
          rw [HQ.out.1, HQ.out.2]
          exact ⟨av, cv, rfl, HPO.out, HE.out⟩
  · have hemp : y.toList.isEmpty = false := by rw [← hy, bs_list]; cases x with
      | nil => exact absurd rfl hx0
      | cons _ _ => rfl
    have HQ := Lib.hid (HNO.out (linesPr_no2 (by have h := HX.out; rw [show ls.length - 1 = N by have := HN.out; omega]; exact h) hx0))
    clear hy
    go_wp2_with fail
    go_ret2
    rw [HQ.out.1, HQ.out.2]
    exact ⟨_, _, rfl, OwnP.nil _ _, E1.out⟩
end Go.Proofs.YtognkaebiafgbaaGreatDoor

namespace Go.Proofs.YtognkaebiafgbaaGreatDoor
open Go.RowKit
set_option linter.unusedVariables false
theorem handed_and_shaped {H : Type} {enc : TypeId × Value → H} {a : Assume} {C : Checked} {os : Os} {f : FuncId} {fn : Func} {s : ChangeSpec} {conds : List PathCond} {apart fresh handsOn again : Bool} {X : World → Array Value → Prop}
    (hX : ∀ (w w' : World) (args : Array Value), w.heap = w'.heap → X w args → X w' args)
    (own : ownKnob C.prog.godebug = none) (started : os.Started) (noInit : C.prog.inits.idxOf? f = none) (hfn : C.prog.funcs[f]? = some fn)
    (witness : ∃ (w : World) (tape : Tape) (i : Input), w.os = os ∧ (w.forCall tape i).Shaped C.prog ∧ i.vars = [] ∧ Input.okWide C.prog (w.forCall tape i) .any w.heap.size f i ∧
      ((s.pre enc C.prog fn conds apart (w.forCall tape i).memory i.args ∧ X (w.forCall tape i).memory i.args) ∧ sizedMet enc C.prog fn (OpenSpec.ofChange s) apart (w.forCall tape i).memory i.args) ∧ a.holds C.prog (lone (Frame.enter C.prog f i.args .normal) [] (w.forCall tape i)))
    (contract : ∀ (W : World) (base : Nat) (args : Array Value) (ds gs : List (DataW H)) (before : List MemPlace),
      (∀ (j : Nat) t v, fn.params[j]? = some t → args[j]? = some v → Value.okWide C.prog W .any base t v) → DataW.Whole enc C.prog fn.params.toList s.vars apart W args.toList ds gs before → X W args → W.ShapedOpen C.prog →
      Calls C.prog f args W fun e W' => ∃ v, e = .returned v ∧ s.post enc C.prog fn apart fresh handsOn again W args v W') :
    ReturnsInHanded a C os f .any (fun w args => (s.pre enc C.prog fn conds apart w args ∧ X w args) ∧ sizedMet enc C.prog fn (OpenSpec.ofChange s) apart w args) (s.post enc C.prog fn apart fresh handsOn again) := by
  refine returnsInHanded_of_calls own started noInit witness ?_
  intro w tape i _ hshape _ hok hpre _
  obtain ⟨_, _, _, g, hg, _, _, _, _, hval⟩ := hok
  obtain rfl : g = fn := Option.some.inj (hg.symm.trans hfn)
  obtain ⟨⟨⟨ds, gs, before, hw, _⟩, hx⟩, _⟩ := hpre
  refine (contract (w.forCall tape i) w.heap.size i.args ds gs before hval (DataW.Whole.of_heap (w' := w.forCall tape i) (by rfl) hw) (hX _ _ _ (by rfl) hx) hshape).mono ?_
  rintro e W' ⟨v, rfl, hp⟩
  exact ChangeSpec.post_blind hp
theorem max_cell {W : World} (h : W.ShapedOpen Tryz.prog) : ∃ m : Int, W.cell? ⟨0, 0, none⟩ = some (.int .i64 m) :=
  cell_of_shapedOpen_int (P := Tryz.prog) (g := 0) (t := 3) (zero := #[.int .i64 0]) h (of_decide_eq_true (by kernel_rfl)) (by kernel_rfl) rfl (by kernel_rfl) (by kernel_rfl) Tryz.underlying3
end Go.Proofs.YtognkaebiafgbaaGreatDoor

namespace Go.Proofs.YtognkaebiafgbaaGreatDoor
open Go.RowKit
set_option linter.unusedVariables false
set_option maxRecDepth 100000 in
set_option maxHeartbeats 4000000 in
theorem specParseProgram (s : ByteArray) (w : World) (hs : s.size ≤ 1048576) : Calls Tryz.prog 21 #[.string s] w (PrBO (parsePT s) (parsePB s) w) := by
  obtain ⟨i0, hi, hz0, hz1, hz2⟩ := info_parts info_cl
  have P0 := Lib.hid (OwnP.empty (w := w) (b := w.heap.size) (F := fun b => w.heap.size ≤ b) rfl (Nat.le_refl _))
  have E0 := Lib.hid (Ext.alloc w (.cells #[] 27))
  have HNO := Lib.hid (fun h => pr_none (s := s) h)
  have HYES := Lib.hid (fun cs h => pr_some (s := s) (cs := cs) h)
  have HLN := Lib.hid (fun (x : List UInt8) (h : x ∈ cutL s.toList) => (show x.length ≤ 1048576 by have := cut_line s.toList x h; rw [bl_len] at this; omega))
  have HL1 := cutL_len s.toList
  have HLL : (cutL s.toList).length ≤ 1048577 := by have := cutL_le s.toList; rw [bl_len] at this; omega
  have SC := Lib.hid (specl18Cut s (w.alloc (.cells #[] 27)) hs)
  go_enter Tryz.func21, Tryz.ntmps21
  go_wp2_with fail
  refine SC.out.mono ?_
  rintro e w1 ⟨g, c, rfl, hgl, hv, e1⟩
  have hgl : w.heap.size + 1 ≤ g := by simpa using hgl
  generalize cutL s.toList = ls at HNO HYES HLN HL1 HLL hv
  obtain ⟨g', c', hgc, hg, hc1, hc2, hcl⟩ := hv
  simp only [Value.slice.injEq, Option.some.injEq, Addr.mk.injEq, and_true] at hgc
  obtain ⟨rfl, _, rfl⟩ := hgc
  rw [List.length_map] at hc1
  have HCL := Lib.hid hcl
  have E1 := Lib.hid (E0.out.trans e1)
  have P1 := Lib.hid (P0.out.ext e1)
  have P2 := Lib.hid (((OwnP.empty (w := w) (b := w.heap.size) (F := fun b => b = w.heap.size) rfl rfl).ext e1).zone (F' := fun b => w.heap.size ≤ b ∧ b < w1.heap.size ∧ ¬ b = g) (fun b hb => by have := Below.size e1; simp at this; omega))
  obtain ⟨N, hN⟩ : ∃ N, ls.length = N + 1 := ⟨ls.length - 1, by omega⟩
  rw [hN] at hc1 HLL ⊢
  have HN := Lib.hid hN
  obtain ⟨x, hx⟩ : ∃ x, ls[N]? = some x := ⟨_, List.getElem?_eq_getElem (by omega)⟩
  have cx := hcl N (bs x) (by rw [List.getElem?_map, hx]; rfl)
  have HX := Lib.hid hx
  clear hcl e1 P0 E0 SC hN hx HL1
  by_cases h21 : 21 < N + 1
  · have HQ := Lib.hid (HNO.out (linesPr_no1 (by have := HN.out; omega)))
    go_wp2_with fail
    go_ret2
    rw [HQ.out.1, HQ.out.2]
    exact ⟨_, _, rfl, P1.out, E1.out⟩
  · have hlast : ((N + 1 : Nat) : Int) - 1 = (N : Int) := by omega
    obtain ⟨y, hy⟩ : ∃ y, bs x = y := ⟨_, rfl⟩
    rw [hy] at cx
    have h21' : (N : Int) + 1 ≤ 21 := by omega
    by_cases hx0 : x = []
    · have hemp : y.toList.isEmpty = true := by rw [← hy, bs_list, hx0]; rfl
      have HLT := Lib.hid (show ls[ls.length - 1]? = some [] by rw [show ls.length - 1 = N by have := HN.out; omega, HX.out, hx0])
      have HYS := Lib.hid (fun cs h => HYES.out cs (linesPr_yes (by have := HN.out; omega) HLT.out h))
      have HNN := Lib.hid (fun (j : Nat) (x : List UInt8) (h1 : j < N) (h2 : ls[j]? = some x) (h3 : parseC (bs x) = none) => HNO.out (linesPr_no3 (by have := HN.out; omega) h2 h3))
      clear hy hx0 HX
      go_wp2_with fail
      go_loopw [4, 6] (fun ov iv wr => ∃ (j : Nat) (cs : List Cl) (av : Option Addr) (cv : Nat), j ≤ N ∧ iv = .int .i64 j ∧ ov = .slice av cs.length cv ∧ cs.length = j ∧ Hid (mapO (fun x => parseC (bs x)) (ls.take j) = some cs) ∧ Hid (OwnP (fun b => w.heap.size ≤ b ∧ b < wr.heap.size ∧ ¬ b = g) cs (.slice av cs.length cv) wr) ∧ Hid (Ext w wr) ∧ Hid (Fr (fun b => w.heap.size ≤ b ∧ ¬ b = g) w1 wr)) (fun _ i _ => N - (intOf i).toNat)
      case atStart => exact ⟨0, [], _, 0, Nat.zero_le _, rfl, rfl, rfl, Lib.hid rfl, Lib.hid P2.out, E1, Lib.hid (Fr.refl _ _)⟩
      case round =>
        obtain ⟨j, cs, av, cv, hj, rfl, rfl, hcj, HM, HP, HE, HE1⟩ := hrel
        have HCJ := Lib.hid hcj
        clear hcj
        by_cases hlt : j < N
        · obtain ⟨z, hz⟩ : ∃ z, ls[j]? = some z := ⟨_, List.getElem?_eq_getElem (by have := HN.out; omega)⟩
          have cz := HE1.out.cell (by simp) (HCL.out j (bs z) (by rw [List.getElem?_map, hz]; rfl))
          have hzl : (bs z).size ≤ 1048576 := by rw [bs_size]; exact HLN.out z (List.mem_of_getElem? hz)
          have HZ := Lib.hid hz
          have hlt' : (j : Int) + 1 < (N : Int) + 1 := by omega
          have PC := Lib.hid (specParseClause (bs z) wr hzl)
          have hsz := Below.size HE.out
          obtain ⟨zb, hzb⟩ : ∃ zb, bs z = zb := ⟨_, rfl⟩
          rw [hzb] at cz PC
          have HZB := Lib.hid hzb
          clear hz hzb hzl
          cases hpc : parseC zb with
          | none =>
            have HQ := Lib.hid (HNN.out j z hlt HZ.out (by rw [HZB.out]; exact hpc))
            have hl9 := line_no hpc
            rw [hl9.1, hl9.2] at PC
            clear hpc hl9
            go_wp2_with fail
            refine PC.out.mono ?_
            rintro e w3 ⟨v, rfl, hv, e3⟩
            obtain ⟨a3, ca3, b3, cb3, m3, rfl, _⟩ := hv
            go_wp2_with fail
            go_ret2
            rw [HQ.out.1, HQ.out.2]
            exact ⟨_, _, rfl, (OwnP.empty (F := fun b => w.heap.size ≤ b) (by simp) (by have := Below.size e3; omega)), HE.out.trans (e3.trans ((Ext.alloc _ _).trans (Ext.alloc _ _)))⟩
          | some c =>
            have hbl := line_small hpc
            have hl9 := line_yes hpc
            have HNX := Lib.hid (mapO_snoc (f := fun x => parseC (bs x)) HM.out (show parseC (bs z) = some c by rw [HZB.out]; exact hpc))
            rw [hl9.1, hl9.2] at PC
            clear hpc hl9
            go_wp2_with fail
            refine PC.out.mono ?_
            rintro e w3 ⟨v, rfl, hv, e3⟩
            obtain ⟨a3, ca3, b3, cb3, rfl, hcp⟩ := hv.ownP hbl
            have e34 := e3.trans (Ext.alloc w3 (.cells #[.int .i64 c.head.kind, .int .i64 c.head.n, .string c.head.name, .slice a3 c.head.kids.length ca3, .slice b3 c.body.length cb3] 27))
            have CP := Lib.hid ((hcp.zone (F' := fun b => wr.heap.size ≤ b ∧ ¬ b = g) (fun b hb => ⟨hb, by have := HE1.out.size; have hb' : wr.heap.size ≤ b := hb; omega⟩)).ext (Ext.alloc w3 (.cells #[.int .i64 c.head.kind, .int .i64 c.head.n, .string c.head.name, .slice a3 c.head.kids.length ca3, .slice b3 c.body.length cb3] 27)))
            have HP4 := Lib.hid (HP.out.ext e34)
            have E4 := Lib.hid (HE.out.trans e34)
            have E41 := Lib.hid (HE1.out.trans (Fr.of_ext e34))
            have hgw : g < wr.heap.size := by have := HE1.out.size; omega
            have CB := Lib.hid (BoxC.new w3 (.int .i64 c.head.kind) (.int .i64 c.head.n) (.string c.head.name) (.slice a3 c.head.kids.length ca3) (.slice b3 c.body.length cb3) 27 rfl)
            have s34 := Below.size e34
            clear hv hcp e3 e34
            go_upto_region 11 with (fail)
            obtain ⟨w4, hw4⟩ : ∃ z, z = w3.alloc (.cells #[.int .i64 c.head.kind, .int .i64 c.head.n, .string c.head.name, .slice a3 c.head.kids.length ca3, .slice b3 c.body.length cb3] 27) := ⟨_, rfl⟩
            rw [← hw4] at CP HP4 E4 E41 CB s34 ⊢
            clear hw4
            obtain ⟨k0, k1, k2, k3, k4, _, _, _, _, _⟩ := CB.out
            have hcl9 : cs.length < 1048576 := by have := HCJ.out; omega
            go_wp2_with (at_builtin; refine wpList_append_clx (w0 := wr) (fun b => b = g) rfl (.tmp 43) (.tmp 45) 36 rfl w.heap.size i0 Tryz.underlying36 hi hz0 hz1 hz2 (.slice av cs.length cv) cs c a3 b3 ca3 cb3 rfl HP4.out rfl CP.out s34 hsz (fun b hb => by have hb' : b = g := hb; omega) hcl9 rfl ?_; intro av2 cv2 w5 hP2 hF2)
            go_roundw
            case rel =>
              refine ⟨j + 1, cs ++ [c], av2, cv2, by omega, by go_num, by simp, by simp [HCJ.out], Lib.hid ?_, Lib.hid (by simpa using hP2), Lib.hid (((Fr.of_ext E4.out).trans hF2).toExt (fun k hk h => by have h' : w.heap.size ≤ k := h.1; omega)), Lib.hid ?_⟩
              · rw [take_snoc_of HZ.out]; exact HNX.out
              · exact E41.out.trans hF2
            case measure => simp [intOf]; omega
        · obtain rfl : j = N := by omega
          have HQ := Lib.hid (HYS.out cs (by rw [show ls.length - 1 = j by have := HN.out; omega]; exact HM.out))
          have hge : ¬ (j : Int) + 1 < (j : Int) + 1 := by omega
          have HPO := Lib.hid (HP.out.zone (F' := fun b => w.heap.size ≤ b) (fun b hb => hb.1))
          go_wp2_with fail
          go_ret2
          rw [HQ.out.1, HQ.out.2]
          exact ⟨av, cv, rfl, HPO.out, HE.out⟩
    · have hemp : y.toList.isEmpty = false := by rw [← hy, bs_list]; cases x with
        | nil => exact absurd rfl hx0
        | cons _ _ => rfl
      have HQ := Lib.hid (HNO.out (linesPr_no2 (by have h := HX.out; rw [show ls.length - 1 = N by have := HN.out; omega]; exact h) hx0))
      clear hy
      go_wp2_with fail
      go_ret2
      rw [HQ.out.1, HQ.out.2]
      exact ⟨_, _, rfl, P1.out, E1.out⟩
end Go.Proofs.YtognkaebiafgbaaGreatDoor
