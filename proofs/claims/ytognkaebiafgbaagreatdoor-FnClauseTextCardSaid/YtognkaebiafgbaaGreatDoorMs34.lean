/-
  How large a clause is that has been read.
-/
import Derived.Deep.CutBlock
import Derived.Test.YtognkaebiafgbaaGreatDoorMs25
import Derived.Test.YtognkaebiafgbaaGreatDoorMs33
import Derived.Test.YtognkaebiafgbaaGreatDoorMs24
import Derived.Test.YtognkaebiafgbaaGreatDoorMs23
import Derived.Test.YtognkaebiafgbaaGreatDoorMs6
import Derived.Test.YtognkaebiafgbaaGreatDoorMs7
namespace Go.Proofs.YtognkaebiafgbaaGreatDoor
open Go.RowKit
set_option linter.unusedVariables false
theorem val_small {t : Tm} (hv : validF t = true) : Tm.sz t ≤ 120 ∧ t.name.size ≤ 1048576 ∧ t.kids.length ≤ 1048576 := by
  have h2 := (valid_parts hv).2
  have h1 := (valid_parts hv).1
  obtain ⟨k, n, nm, ks⟩ := t
  have hl : ks.length ≤ 4 := by
    rcases shape_own h1 with ⟨_, _, h⟩ | ⟨_, _, h⟩ | ⟨rfl, _⟩
    · rw [h]; decide
    · rw [h]; decide
    · exact (shape_name h1).2
  refine ⟨h2, ?_, by simp only [Tm.kids]; omega⟩
  simp only [Tm.name]
  rcases shape_own h1 with ⟨_, h, _⟩ | ⟨_, h, _⟩ | ⟨rfl, _⟩
  · rw [← bl_len, h]; decide
  · rw [← bl_len, h]; decide
  · have := (name_len (shape_name h1).1).2
    rw [bl_len] at this
    omega
theorem szL_of : ∀ (ts : List Tm), (∀ (j : Nat) (t : Tm), ts[j]? = some t → Tm.sz t ≤ 120) → Tm.szL ts ≤ ts.length * 120
  | [], _ => by simp [Tm.szL]
  | t :: ts, h => by
    have h1 := h 0 t rfl
    have h2 := szL_of ts (fun j x hx => h (j + 1) x (by simpa using hx))
    simp only [Tm.szL, List.length_cons, Nat.add_mul, Nat.one_mul]
    omega
theorem cl_small {c : Cl} (hc : clValidF c = true) : Cl.mk3 c ≤ 6000 ∧ c.head.name.size ≤ 1048576 ∧ c.head.kids.length ≤ 1048576 ∧ c.body.length ≤ 1048576 := by
  obtain ⟨h1, h2, h3⟩ := cl_parts hc
  obtain ⟨a1, a2, a3⟩ := val_small h1
  have h4 := szL_of c.body (fun j t ht => (val_small (h3 j t ht)).1)
  refine ⟨?_, a2, a3, by omega⟩
  unfold Cl.mk3
  have h5 : Tm.szL c.head.kids ≤ 120 := by
    obtain ⟨⟨k, n, nm, ks⟩, b⟩ := c
    simp only [Tm.sz] at a1
    simp only [Tm.kids]
    omega
  omega
theorem parse_small (s : ByteArray) : Cl.mk3 (parseCT s) ≤ 6000 ∧ (parseCT s).head.name.size ≤ 1048576 ∧ (parseCT s).head.kids.length ≤ 1048576 ∧ (parseCT s).body.length ≤ 1048576 := by
  cases e : parseC s with
  | none =>
    rw [(parseC_no e).1]
    exact ⟨by decide, by decide, by decide, by decide⟩
  | some c =>
    have e2 : parseCT s = c := by unfold parseCT; rw [e]; rfl
    rw [e2]
    unfold parseC at e
    split at e
    · exact cl_small (parseClO_spec e).1
    · cases e
end Go.Proofs.YtognkaebiafgbaaGreatDoor

namespace Go.Proofs.YtognkaebiafgbaaGreatDoor
open Go.RowKit
set_option linter.unusedVariables false
def PrBO (cs : List Cl) (b : Bool) (w : World) (e : Ending) (w' : World) : Prop := ∃ a c, e = .returned (.tuple #[.slice a cs.length c, .bool b]) ∧ OwnP (fun k => w.heap.size ≤ k) cs (.slice a cs.length c) w' ∧ Ext w w'
noncomputable def linesPr (ls : List (List UInt8)) : Option (List Cl) := if ls.length ≤ 21 ∧ ls.getLast? = some [] then mapO (fun x => parseC (bs x)) ls.dropLast else none
theorem linesPr_no1 {ls : List (List UInt8)} (h : 21 < ls.length) : linesPr ls = none := by
  unfold linesPr
  rw [if_neg]
  rintro ⟨h1, _⟩
  omega
theorem linesPr_no2 {ls : List (List UInt8)} {x : List UInt8} (h : ls[ls.length - 1]? = some x) (hx : x ≠ []) : linesPr ls = none := by
  unfold linesPr
  rw [if_neg]
  rintro ⟨_, h2⟩
  rw [List.getLast?_eq_getElem?, h] at h2
  exact hx (Option.some.inj h2)
theorem linesPr_no3 {ls : List (List UInt8)} {j : Nat} {x : List UInt8} (hj : j + 1 < ls.length) (h : ls[j]? = some x) (hx : parseC (bs x) = none) : linesPr ls = none := by
  unfold linesPr
  split
  · refine mapO_none (j := j) (x := x) ?_ hx
    rw [List.dropLast_eq_take, List.getElem?_take, if_pos (by omega)]
    exact h
  · rfl
theorem linesPr_yes {ls : List (List UInt8)} {cs : List Cl} (h1 : ls.length ≤ 21) (h2 : ls[ls.length - 1]? = some []) (h3 : mapO (fun x => parseC (bs x)) (ls.take (ls.length - 1)) = some cs) : linesPr ls = some cs := by
  unfold linesPr
  rw [if_pos ⟨h1, by rw [List.getLast?_eq_getElem?, h2]⟩, List.dropLast_eq_take]
  exact h3
theorem cut_line : ∀ (l x : List UInt8), x ∈ cutL l → x.length ≤ l.length
  | [], x, h => by simp [cutL] at h; subst h; simp
  | b :: l, x, h => by
    rw [cutL] at h
    split at h
    · rcases List.mem_cons.1 h with rfl | h
      · simp
      · have := cut_line l x h; simp only [List.length_cons]; omega
    · rcases List.mem_cons.1 h with rfl | h
      · have hm : (cutL l).headD [] ∈ cutL l := by
          cases e : cutL l with
          | nil => exact absurd e (cutL_ne l)
          | cons y ys => simp
        have := cut_line l _ hm
        simp only [List.length_cons]; omega
      · have := cut_line l x (List.mem_of_mem_tail h); simp only [List.length_cons]; omega
theorem pr_none {s : ByteArray} (h : linesPr (cutL s.toList) = none) : parsePT s = [] ∧ parsePB s = false := by
  have e : parsePr s.toList = none := h
  exact ⟨by unfold parsePT; rw [e]; rfl, by unfold parsePB; rw [e]; rfl⟩
theorem pr_some {s : ByteArray} {cs : List Cl} (h : linesPr (cutL s.toList) = some cs) : parsePT s = cs ∧ parsePB s = true := by
  have e : parsePr s.toList = some cs := h
  exact ⟨by unfold parsePT; rw [e]; rfl, by unfold parsePB; rw [e]; rfl⟩
theorem line_no {x : ByteArray} (h : parseC x = none) : parseCT x = zCl ∧ parseCB x = false := parseC_no h
theorem line_yes {x : ByteArray} {c : Cl} (h : parseC x = some c) : parseCT x = c ∧ parseCB x = true := ⟨by unfold parseCT; rw [h]; rfl, by unfold parseCB; rw [h]; rfl⟩
theorem line_small {x : ByteArray} {c : Cl} (h : parseC x = some c) : c.body.length ≤ 1048576 := by
  have := (parse_small x).2.2.2
  rw [(line_yes h).1] at this
  exact this
end Go.Proofs.YtognkaebiafgbaaGreatDoor

namespace Go.Proofs.YtognkaebiafgbaaGreatDoor
open Go.RowKit
set_option linter.unusedVariables false
set_option maxRecDepth 100000 in
set_option maxHeartbeats 4000000 in
theorem specParseProgram (s : ByteArray) (w : World) (hs : s.size ≤ 1048576) : Calls Tryz.prog 21 #[.string s] w (PrBO (parsePT s) (parsePB s) w) := by
  obtain ⟨i0, hi, hz0, hz1, hz2⟩ := info_parts info_cl
  have P0 := Lib.hid (OwnP.empty (w := w) (b := w.heap.size) (F := fun b => w.heap.size ≤ b) rfl (Nat.le_refl _))
  have E0 := Lib.hid (Ext.alloc w (.cells #[] 27))
  have HNO := Lib.hid (fun h => pr_none (s := s) h)
  have HYES := Lib.hid (fun cs h => pr_some (s := s) (cs := cs) h)
  have HLN := Lib.hid (fun (x : List UInt8) (h : x ∈ cutL s.toList) => (show x.length ≤ 1048576 by have := cut_line s.toList x h; rw [bl_len] at this; omega))
  have HL1 := cutL_len s.toList
  have HLL : (cutL s.toList).length ≤ 1048577 := by have := cutL_le s.toList; rw [bl_len] at this; omega
  have SC := Lib.hid (specl18Cut s (w.alloc (.cells #[] 27)) hs)
  go_enter Tryz.func21, Tryz.ntmps21
  go_wp2_with fail
  refine SC.out.mono ?_
  rintro e w1 ⟨g, c, rfl, hgl, hv, e1⟩
  have hgl : w.heap.size + 1 ≤ g := by simpa using hgl
  generalize cutL s.toList = ls at HNO HYES HLN HL1 HLL hv
  obtain ⟨g', c', hgc, hg, hc1, hc2, hcl⟩ := hv
  simp only [Value.slice.injEq, Option.some.injEq, Addr.mk.injEq, and_true] at hgc
  obtain ⟨rfl, _, rfl⟩ := hgc
  rw [List.length_map] at hc1
  have HCL := Lib.hid hcl
  have E1 := Lib.hid (E0.out.trans e1)
  have P1 := Lib.hid (P0.out.ext e1)
  have P2 := Lib.hid (((OwnP.empty (w := w) (b := w.heap.size) (F := fun b => b = w.heap.size) rfl rfl).ext e1).zone (F' := fun b => w.heap.size ≤ b ∧ b < w1.heap.size ∧ ¬ b = g) (fun b hb => by have := Below.size e1; simp at this; omega))
  obtain ⟨N, hN⟩ : ∃ N, ls.length = N + 1 := ⟨ls.length - 1, by omega⟩
  rw [hN] at hc1 HLL ⊢
  have HN := Lib.hid hN
  obtain ⟨x, hx⟩ : ∃ x, ls[N]? = some x := ⟨_, List.getElem?_eq_getElem (by omega)⟩
  have cx := hcl N (bs x) (by rw [List.getElem?_map, hx]; rfl)
  have HX := Lib.hid hx
  clear hcl e1 P0 E0 SC hN hx HL1
  by_cases h21 : 21 < N + 1
  · have HQ := Lib.hid (HNO.out (linesPr_no1 (by have := HN.out; omega)))
    go_wp2_with fail
    go_ret2
    rw [HQ.out.1, HQ.out.2]
    exact ⟨_, _, rfl, P1.out, E1.out⟩
  · have hlast : ((N + 1 : Nat) : Int) - 1 = (N : Int) := by omega
    obtain ⟨y, hy⟩ : ∃ y, bs x = y := ⟨_, rfl⟩
    rw [hy] at cx
    have h21' : (N : Int) + 1 ≤ 21 := by omega
    by_cases hx0 : x = []
    · have hemp : y.toList.isEmpty = true := by rw [← hy, bs_list, hx0]; rfl
      have HLT := Lib.hid (show ls[ls.length - 1]? = some [] by rw [show ls.length - 1 = N by have := HN.out; omega, HX.out, hx0])
      have HYS := Lib.hid (fun cs h => HYES.out cs (linesPr_yes (by have := HN.out; omega) HLT.out h))
      have HNN := Lib.hid (fun (j : Nat) (x : List UInt8) (h1 : j < N) (h2 : ls[j]? = some x) (h3 : parseC (bs x) = none) => HNO.out (linesPr_no3 (by have := HN.out; omega) h2 h3))
      clear hy hx0 HX
      go_wp2_with fail
      go_loopw [4, 6] (fun ov iv wr => ∃ (j : Nat) (cs : List Cl) (av : Option Addr) (cv : Nat), j ≤ N ∧ iv = .int .i64 j ∧ ov = .slice av cs.length cv ∧ cs.length = j ∧ Hid (mapO (fun x => parseC (bs x)) (ls.take j) = some cs) ∧ Hid (OwnP (fun b => w.heap.size ≤ b ∧ b < wr.heap.size ∧ ¬ b = g) cs (.slice av cs.length cv) wr) ∧ Hid (Ext w wr) ∧ Hid (Fr (fun b => w.heap.size ≤ b ∧ ¬ b = g) w1 wr)) (fun _ i _ => N - (intOf i).toNat)
      case atStart => exact ⟨0, [], _, 0, Nat.zero_le _, rfl, rfl, rfl, Lib.hid rfl, Lib.hid P2.out, E1, Lib.hid (Fr.refl _ _)⟩
      case round =>
        obtain ⟨j, cs, av, cv, hj, rfl, rfl, hcj, HM, HP, HE, HE1⟩ := hrel
        have HCJ := Lib.hid hcj
        clear hcj
        by_cases hlt : j < N
        · obtain ⟨z, hz⟩ : ∃ z, ls[j]? = some z := ⟨_, List.getElem?_eq_getElem (by have := HN.out; omega)⟩
          have cz := HE1.out.cell (by simp) (HCL.out j (bs z) (by rw [List.getElem?_map, hz]; rfl))
          have hzl : (bs z).size ≤ 1048576 := by rw [bs_size]; exact HLN.out z (List.mem_of_getElem? hz)
          have HZ := Lib.hid hz
          have hlt' : (j : Int) + 1 < (N : Int) + 1 := by omega
          have PC := Lib.hid (specParseClause (bs z) wr hzl)
          have hsz := Below.size HE.out
          obtain ⟨zb, hzb⟩ : ∃ zb, bs z = zb := ⟨_, rfl⟩
          rw [hzb] at cz PC
          have HZB := Lib.hid hzb
          clear hz hzb hzl
          cases hpc : parseC zb with
          | none =>
            have HQ := Lib.hid (HNN.out j z hlt HZ.out (by rw [HZB.out]; exact hpc))
            have hl9 := line_no hpc
            rw [hl9.1, hl9.2] at PC
            clear hpc hl9
            go_wp2_with fail
            refine PC.out.mono ?_
            rintro e w3 ⟨v, rfl, hv, e3⟩
            obtain ⟨a3, ca3, b3, cb3, m3, rfl, _⟩ := hv
            go_wp2_with fail
            go_ret2
            rw [HQ.out.1, HQ.out.2]
            exact ⟨_, _, rfl, (OwnP.empty (F := fun b => w.heap.size ≤ b) (by simp) (by have := Below.size e3; omega)), HE.out.trans (e3.trans ((Ext.alloc _ _).trans (Ext.alloc _ _)))⟩
          | some c =>
            have hbl := line_small hpc
            have hl9 := line_yes hpc
            have HNX := Lib.hid (mapO_snoc (f := fun x => parseC (bs x)) HM.out (show parseC (bs z) = some c by rw [HZB.out]; exact hpc))
            rw [hl9.1, hl9.2] at PC
            clear hpc hl9
            go_wp2_with fail
            refine PC.out.mono ?_
            rintro e w3 ⟨v, rfl, hv, e3⟩
            obtain ⟨a3, ca3, b3, cb3, rfl, hcp⟩ := hv.ownP hbl
            have e34 := e3.trans (Ext.alloc w3 (.cells #[.int .i64 c.head.kind, .int .i64 c.head.n, .string c.head.name, .slice a3 c.head.kids.length ca3, .slice b3 c.body.length cb3] 27))
            have CP := Lib.hid ((hcp.zone (F' := fun b => wr.heap.size ≤ b ∧ ¬ b = g) (fun b hb => ⟨hb, by have := HE1.out.size; have hb' : wr.heap.size ≤ b := hb; omega⟩)).ext (Ext.alloc w3 (.cells #[.int .i64 c.head.kind, .int .i64 c.head.n, .string c.head.name, .slice a3 c.head.kids.length ca3, .slice b3 c.body.length cb3] 27)))
            have HP4 := Lib.hid (HP.out.ext e34)
            have E4 := Lib.hid (HE.out.trans e34)
            have E41 := Lib.hid (HE1.out.trans (Fr.of_ext e34))
            have hgw : g < wr.heap.size := by have := HE1.out.size; omega
            have CB := Lib.hid (BoxC.new w3 (.int .i64 c.head.kind) (.int .i64 c.head.n) (.string c.head.name) (.slice a3 c.head.kids.length ca3) (.slice b3 c.body.length cb3) 27 rfl)
            have s34 := Below.size e34
            clear hv hcp e3 e34
            go_upto_region 11 with (fail)
            obtain ⟨w4, hw4⟩ : ∃ z, z = w3.alloc (.cells #[.int .i64 c.head.kind, .int .i64 c.head.n, .string c.head.name, .slice a3 c.head.kids.length ca3, .slice b3 c.body.length cb3] 27) := ⟨_, rfl⟩
            rw [← hw4] at CP HP4 E4 E41 CB s34 ⊢
            clear hw4
            obtain ⟨k0, k1, k2, k3, k4, _, _, _, _, _⟩ := CB.out
            have hcl9 : cs.length < 1048576 := by have := HCJ.out; omega
            go_wp2_with (at_builtin; refine wpList_append_clx (w0 := wr) (fun b => b = g) rfl (.tmp 43) (.tmp 45) 36 rfl w.heap.size i0 Tryz.underlying36 hi hz0 hz1 hz2 (.slice av cs.length cv) cs c a3 b3 ca3 cb3 rfl HP4.out rfl CP.out s34 hsz (fun b hb => by have hb' : b = g := hb; omega) hcl9 rfl ?_; intro av2 cv2 w5 hP2 hF2)
            go_roundw
            case rel =>
              refine ⟨j + 1, cs ++ [c], av2, cv2, by omega, by go_num, by simp, by simp [HCJ.out], Lib.hid ?_, Lib.hid (by simpa using hP2), Lib.hid (((Fr.of_ext E4.out).trans hF2).toExt (fun k hk h => by have h' : w.heap.size ≤ k := h.1; omega)), Lib.hid ?_⟩
              · rw [take_snoc_of HZ.out]; exact HNX.out
              · exact E41.out.trans hF2
            case measure => simp [intOf]; omega
        · obtain rfl : j = N := by omega
          have HQ := Lib.hid (HYS.out cs (by rw [show ls.length - 1 = j by have := HN.out; omega]; exact HM.out))
          have hge : ¬ (j : Int) + 1 < (j : Int) + 1 := by omega
          have HPO := Lib.hid (HP.out.zone (F' := fun b => w.heap.size ≤ b) (fun b hb => hb.1))
          go_wp2_with fail
          go_ret2
          rw [HQ.out.1, HQ.out.2]
          exact ⟨av, cv, rfl, HPO.out, HE.out⟩
    · have hemp : y.toList.isEmpty = false := by rw [← hy, bs_list]; cases x with
        | nil => exact absurd rfl hx0
        | cons _ _ => rfl
      have HQ := Lib.hid (HNO.out (linesPr_no2 (by have h := HX.out; rw [show ls.length - 1 = N by have := HN.out; omega]; exact h) hx0))
      clear hy
      go_wp2_with fail
      go_ret2
      rw [HQ.out.1, HQ.out.2]
      exact ⟨_, _, rfl, P1.out, E1.out⟩
end Go.Proofs.YtognkaebiafgbaaGreatDoor

namespace Go.Proofs.YtognkaebiafgbaaGreatDoor
open Go.RowKit
set_option linter.unusedVariables false
set_option maxRecDepth 100000 in
theorem specl4Texts (w : World) : Calls Tryz.prog 124 #[] w fun e w' => e = .returned (.slice (some ⟨w.heap.size, 0, none⟩) 11 11) ∧ StrsAt w' drawnTx (.slice (some ⟨w.heap.size, 0, none⟩) 11 11) ∧ Ext w w' := by
  have hs := Lib.hid (strs_at_new drawnTx 11 rfl w 9 (drawnTx.map Value.string).toArray rfl (by decide) (by decide +kernel))
  have hx := Lib.hid (Ext.alloc w (.cells (drawnTx.map Value.string).toArray 9))
  go_enter Tryz.func124, Tryz.ntmps124
  go_wp2_with fail
  go_ret
  exact ⟨rfl, hs.out, hx.out⟩
def PrPost (r p : Nat) (w : World) (e : Ending) (w' : World) : Prop := ∃ cs a c, e = .returned (.slice a cs.length c) ∧ Cl.sl (fun b => w.heap.size ≤ b) w' cs (.slice a cs.length c) ∧ prValidF cs = true ∧ cs ≠ [] ∧ cs.length ≤ 20 ∧ Rd w' r (p + 1) ∧ ExtR r w w'
set_option maxRecDepth 100000 in
set_option maxHeartbeats 2000000 in
theorem specl4Program (r p : Nat) (w : World) (hp : p + 1 ≤ 1099511627776) (hr : Rd w r p) : Calls Tryz.prog 82 #[.pointer (some ⟨r, 0, none⟩)] w (PrPost r p w) := by
  have hrl := hr.lt
  have R0 := Lib.hid hr
  clear hr
  go_enter Tryz.func82, Tryz.ntmps82
  go_wp2_with fail
  refine (specl4Texts w).mono ?_
  rintro e w1 ⟨rfl, hs, e1⟩
  have HS := Lib.hid hs
  have E1 := Lib.hid e1
  have R1 := Lib.hid (R0.out.ext e1)
  have s1 := Below.size e1
  clear hs e1
  go_wp2_with fail
  refine (rdpick r p 11 _ (by omega) (by decide) (by decide) R1.out).mono ?_
  rintro e w2 ⟨x, rfl, hx0, hx1, hr2, he2⟩
  obtain ⟨k, rfl⟩ := Int.eq_ofNat_of_zero_le hx0
  have hk : k < 11 := by omega
  obtain ⟨t, ht⟩ : ∃ t, drawnTx[k]? = some t := ⟨_, List.getElem?_eq_getElem (show k < drawnTx.length from hk)⟩
  have hst := HS.out
  obtain ⟨a5, cap5, hv5, _, _, hsz5, h5⟩ := hst
  obtain ⟨b, off, hb, hcs⟩ := h5.resolve_left (by simp [drawnTx])
  simp only [Value.slice.injEq] at hv5
  obtain ⟨rfl, _, rfl⟩ := hv5
  simp only [Option.some.injEq, Addr.mk.injEq, and_true] at hb
  obtain ⟨rfl, rfl⟩ := hb
  have ck := he2.cell (by omega) (hcs k t ht)
  rw [Nat.zero_add] at ck
  have htm := List.mem_of_getElem? ht
  obtain ⟨cs, h1, h2, h3, h4, _⟩ := drawn_texts t htm
  have hts := hsz5 t htm
  have SP := Lib.hid (specParseProgram t w2 hts)
  rw [h1, h2] at SP
  have R2 := Lib.hid hr2
  have E2 := Lib.hid ((ExtR.of_ext E1.out).trans he2)
  have H3 := Lib.hid h3
  have H4 := Lib.hid h4
  have hlen := (pr_mem h3).1
  have s2 := he2.1.size
  clear h5 hcs hr2 he2 ht htm h1 h2 h3 h4 hsz5
  go_wp2_with fail
  refine SP.out.mono ?_
  rintro e w3 ⟨a, c, rfl, hP, e3⟩
  have P3 := Lib.hid ((hP.sl (by omega)))
  have E3 := Lib.hid (E2.out.trans (ExtR.of_ext e3))
  have R3 := Lib.hid (R2.out.ext e3)
  clear hP e3
  go_wp2_with fail
  go_ret
  exact ⟨cs, a, c, rfl, Cl.sl_mono (fun b hb => by omega) (Agree.refl _) P3.out, H3.out, H4.out, hlen, R3.out, E3.out⟩
end Go.Proofs.YtognkaebiafgbaaGreatDoor

namespace Go.Proofs.YtognkaebiafgbaaGreatDoor
open Go.RowKit
set_option linter.unusedVariables false
theorem rdof_newd (ss : List ByteArray) {r p : Nat} {w : World} {T : Nat} {cs : Array Value} (n : Nat) (hn : ss.length = n) (hcs : cs = (ss.map Value.string).toArray) (hl : n ≤ 1048576) (hs : ∀ s ∈ ss, s.size ≤ 1048576) (h0 : ss ≠ []) (hp : p ≤ 1099511627776) (hr : Rd w r p) {b : Nat} (hb : b = w.heap.size) :
    Calls Tryz.prog 116 #[.pointer (some ⟨r, 0, none⟩), .slice (some ⟨b, 0, none⟩) n n] ((w.alloc (.cells cs T)).drew) (OfPost r p ss w) := by
  subst hb
  have hlt := hr.lt
  refine (rdof r p ss _ _ hp (hr.ext ((Ext.alloc _ _).trans (Ext.drew _))) h0 ?_ (StrsAt.ext (strs_at_new ss n hn w T cs hcs hl hs) (Ext.drew _))).mono ?_
  · rintro b o c l h
    simp at h; omega
  · rintro e w' ⟨s, h1, h2, h3, h4⟩
    exact ⟨s, h1, h2, h3, (ExtR.of_ext ((Ext.alloc _ _).trans (Ext.drew _))).trans h4⟩
def ClPost (r p C K : Nat) (w : World) (e : Ending) (w' : World) : Prop := ∃ c v P, e = .returned v ∧ c.body.length ≤ K ∧ Cl.at (fun b => w.heap.size ≤ b) w' c v ∧ Rd w' r P ∧ P ≤ p + C ∧ ExtR r w w'
theorem cl_end {B r p P q C K : Nat} {w wk X : World} {c : Cl} {v : Value} (hB : w.heap.size ≤ B) (hX : wk.grownBy X (some B)) (he : ExtR r w wk) (hr0 : Rd w r q) (hr : Rd wk r P)
    (hv : Cl.at (fun b => w.heap.size ≤ b ∧ b ≠ B) wk c v) (hp : P ≤ p + C) (hk : c.body.length ≤ K) : ClPost r p C K w (.returned v) X := by
  have hrk := hr0.lt
  have f : Fr (fun k => k = B) wk X := Fr.of_grown hX (fun k e => by cases e; rfl)
  exact ⟨c, v, P, rfl, hk, Cl.at_mono (fun b h => h.1) (f.agree (S := fun b => w.heap.size ≤ b ∧ b ≠ B) (fun k hk h => hk.2 h)) hv, Rd.fr hr0 he hr f (fun k _ h => by omega), hp, he.fr f (fun k _ h => by omega)⟩
theorem BoxC.extR {w w' : World} {r b : Nat} {v0 v1 v2 v3 v4 : Value} (h : BoxC w b v0 v1 v2 v3 v4) (e : ExtR r w w') (hb : b ≠ r) : BoxC w' b v0 v1 v2 v3 v4 := h.fr (M := fun k => k = r) (Fr.of_extR e rfl) hb
set_option maxRecDepth 100000 in
set_option maxHeartbeats 4000000 in
theorem specl4Clause (r p : Nat) (w : World) (hp : p + 100 ≤ 1099511627776) (hr : Rd w r p) : Calls Tryz.prog 69 #[.pointer (some ⟨r, 0, none⟩)] w (ClPost r p 100 6 w) := by
  have hrl := hr.lt
  have HR0 := Lib.hid hr
  have n0 : w.heap.size ≠ r := by omega
  obtain ⟨W0, hW0⟩ : ∃ z, z = w.alloc (.cells #[.int .i64 0, .int .i64 0, .string ⟨#[]⟩, .slice none 0 0, .slice none 0 0] 27) := ⟨_, rfl⟩
  have hE0 : Ext w W0 := by rw [hW0]; exact Ext.alloc _ _
  have hB0 : BoxCZ W0 w.heap.size := by rw [hW0]; exact BoxC.new _ _ _ _ _ _ 27 rfl
  have E0 := Lib.hid (ExtR.of_ext (r := r) hE0)
  have B0 := Lib.hid hB0
  have R0 := Lib.hid (hr.ext hE0)
  have s0 : W0.heap.size = w.heap.size + 1 := by rw [hW0]; simp
  obtain ⟨i0, hi, hz0, hz1, hz2⟩ := info_parts info_term3
  have HI := Lib.hid hi
  have HZ := Lib.hid hz0
  have HZ1 := Lib.hid hz1
  have HZ2 := Lib.hid hz2
  clear hi hz0 hz1 hz2 hr hE0 hB0
  go_enter Tryz.func69, Tryz.ntmps69
  go_upto_region 1 with (fail)
  rw [← hW0]
  clear hW0
  go_wp2_with fail
  refine (specl4Program r p _ (by omega) R0.out).mono ?_
  rintro e w1 ⟨cs, ap, cp, rfl, hP, hval, hne, hlen, hr1, he1⟩
  have P1 := Lib.hid hP
  have R1 := Lib.hid hr1
  have E1 := Lib.hid (E0.out.trans he1)
  have B1 := Lib.hid (B0.out.extR he1 n0)
  have hpos : 1 ≤ cs.length := List.length_pos_iff.2 hne
  have s1 := he1.1.size
  have HVAL := Lib.hid hval
  clear hP hr1 he1 hval hne
  go_wp2_with fail
  refine (rdpick r (p + 1) 4 _ (by omega) (by decide) (by decide) R1.out).mono ?_
  rintro e w2 ⟨x, rfl, hx0, hx1, hr2, he2⟩
  have P2 := Lib.hid (Cl.sl_mono (fun _ h => h) (he2.agree (S := fun b => W0.heap.size ≤ b) (by omega)) P1.out)
  have R2 := Lib.hid hr2
  have E2 := Lib.hid (E1.out.trans he2)
  have B2 := Lib.hid (B1.out.extR he2 n0)
  have s2 := he2.1.size
  clear hr2 he2
  by_cases hx : 0 < x
  · go_wp2_with fail
    refine (rdpick r (p + 1 + 1) cs.length _ (by omega) (by omega) (by omega) R2.out).mono ?_
    rintro e w3 ⟨y, rfl, hy0, hy1, hr3, he3⟩
    obtain ⟨k, rfl⟩ := Int.eq_ofNat_of_zero_le hy0
    have hk : k < cs.length := by omega
    have hP3 := Cl.sl_mono (fun _ h => h) (he3.agree (S := fun b => W0.heap.size ≤ b) (by omega)) P2.out
    have R3 := Lib.hid hr3
    have E3 := Lib.hid (E2.out.trans he3)
    have B3 := Lib.hid (B2.out.extR he3 n0)
    obtain ⟨_, _, hsl, _, _, _, h4⟩ := hP3
    simp only [Value.slice.injEq, true_and] at hsl
    obtain ⟨rfl, rfl⟩ := hsl
    obtain ⟨c, hc⟩ := cgetk hk
    obtain ⟨b, off, ak, ck, al, cl, rfl, k0, k1, k2, k3, k4, hat, hbd⟩ := Cl.get h4 hc (Ext.refl _)
    have V := Lib.hid (And.intro hat hbd)
    have HBL := Lib.hid ((cl_parts ((pr_mem HVAL.out).2 c (List.mem_of_getElem? hc))).2.1)
    obtain ⟨q0, q1, q2, q3, q4, f0, f1, f2, f3, f4⟩ := B3.out
    clear hr3 he3 h4 hc hat hbd
    go_wp2_with fail
    refine ret5_set (p := 2) (T := 27) (b := w.heap.size) (by kernel_rfl) (fun _ => by kernel_rfl) (fun _ => by kernel_rfl) rfl rfl B3.out ?_
    intro X hX
    exact cl_end (c := c) (Nat.le_refl _) hX E3.out HR0.out R3.out ⟨_, _, rfl, Tm.at_mono (fun b hb => ⟨by omega, by omega⟩) (Agree.refl _) V.out.1, Tm.sl_mono (fun b hb => ⟨by omega, by omega⟩) (Agree.refl _) V.out.2⟩ (by omega) HBL.out
  · go_wp2_with fail
    refine (rdof_new [⟨#[112]⟩, ⟨#[113]⟩, ⟨#[102, 111, 111]⟩] 3 rfl rfl (by decide) (by decide) (by simp) (by omega) R2.out (by simp)).mono ?_
    rintro e w3 ⟨nm, rfl, hnm, hr3, he3⟩
    have hnms : nm.size ≤ 1048576 := (show ∀ z ∈ ([⟨#[112]⟩, ⟨#[113]⟩, ⟨#[102, 111, 111]⟩] : List ByteArray), z.size ≤ 1048576 by decide) nm hnm
    have R3 := Lib.hid hr3
    have E3 := Lib.hid (E2.out.trans he3)
    have B3 := Lib.hid (B2.out.extR he3 n0)
    have s3 := he3.1.size
    clear hr3 he3 hnm
    go_wp2_with fail
    refine (specl1Draw 1 2 r (p + 1 + 1 + 1) _ (by omega) (by omega) (by omega) (by show p + 1 + 1 + 1 + 16 ≤ _; omega) R3.out).mono ?_
    rintro e w4 ⟨t1, v1, p1, rfl, hv1, _, hr4, hp1, he4⟩
    have hp1 : p1 ≤ p + 1 + 1 + 1 + 16 := hp1
    obtain ⟨a1, c1, rfl⟩ := at_form hv1
    have V1 := Lib.hid hv1
    have R4 := Lib.hid hr4
    have E4 := Lib.hid (E3.out.trans he4)
    have B4 := Lib.hid (B3.out.extR he4 n0)
    have s4 := he4.1.size
    clear hr4 he4 hv1
    go_wp2_with fail
    refine (specl1Struct nm [t1] hnms (by simp) _ (fun b => W0.heap.size ≤ b ∨ b = w4.heap.size) _ (sl_new (S := fun b => W0.heap.size ≤ b) (xs := tcells t1 a1 c1 ++ []) ⟨a1, c1, _, rfl, Tm.at_mono (fun b h => by omega) (Agree.refl _) V1.out, rfl⟩ rfl rfl (by simp))).mono ?_
    rintro e w5 ⟨v, rfl, hv, e5⟩
    obtain ⟨a5, c5, rfl⟩ := at_form hv
    have e45 := (Ext.alloc w4 _).trans e5
    have s5 := Below.size e45
    obtain ⟨hd, hhd⟩ : ∃ z, z = Tm.mk 3 0 nm [t1] := ⟨_, rfl⟩
    clear hnms
    rw [← hhd] at hv ⊢
    have hv9 : Tm.at (fun b => W0.heap.size ≤ b ∧ b < w5.heap.size) w5 hd (.agg #[.int .i64 hd.kind, .int .i64 hd.n, .string hd.name, .slice a5 hd.kids.length c5]) := Tm.at_mono (fun b h => by have h1 := h.1; have h2 := h.2; (try simp at h1); omega) (Agree.refl _) (Tm.at_bound hv)
    have R5 := Lib.hid (R4.out.ext e45)
    have E5 := Lib.hid (E4.out.trans (ExtR.of_ext e45))
    have B5 := Lib.hid (B4.out.ext e45)
    have HV9 := Lib.hid hv9
    have c6 := BoxC.new w5 (.int .i64 hd.kind) (.int .i64 hd.n) (.string hd.name) (.slice a5 hd.kids.length c5) (.slice none 0 0) 27 rfl
    have e6 := Ext.alloc w5 (.cells #[.int .i64 hd.kind, .int .i64 hd.n, .string hd.name, .slice a5 hd.kids.length c5, .slice none 0 0] 27)
    have s6 : (w5.alloc (.cells #[.int .i64 hd.kind, .int .i64 hd.n, .string hd.name, .slice a5 hd.kids.length c5, .slice none 0 0] 27)).heap.size = w5.heap.size + 1 := by simp
    have C6 := Lib.hid c6
    have E56 := Lib.hid e6
    clear hv hv9 e5 e45 V1 hhd c6 e6
    go_upto_region 5 with (fail)
    obtain ⟨w6, hw6⟩ : ∃ z, z = w5.alloc (.cells #[.int .i64 hd.kind, .int .i64 hd.n, .string hd.name, .slice a5 hd.kids.length c5, .slice none 0 0] 27) := ⟨_, rfl⟩
    rw [← hw6] at C6 E56 s6 ⊢
    clear hw6
    obtain ⟨O, hO⟩ : ∃ O, O = w5.heap.size := ⟨_, rfl⟩
    rw [← hO] at C6 s6 HV9 ⊢
    have H6 := Lib.hid (Tm.at_ext E56.out HV9.out)
    have R6 := Lib.hid (R5.out.ext E56.out)
    have E6 := Lib.hid (E5.out.trans (ExtR.of_ext E56.out))
    have B6 := Lib.hid (B5.out.ext E56.out)
    have nO : O ≠ r := by omega
    have hOw : W0.heap.size ≤ O := by omega
    clear hO HV9 E56 E5 B5 R5
    go_wp2_with fail
    refine (rdpick r p1 3 _ (by omega) (by decide) (by decide) R6.out).mono ?_
    rintro e w7 ⟨n, rfl, hn0, hn1, hr7, he7⟩
    obtain ⟨n, rfl⟩ := Int.eq_ofNat_of_zero_le hn0
    have R7 := Lib.hid hr7
    have E7 := Lib.hid (E6.out.trans he7)
    have B7 := Lib.hid (B6.out.extR he7 n0)
    have C7 := Lib.hid (C6.out.extR he7 nO)
    have H7 := Lib.hid (Tm.at_mono (fun _ h => h) (he7.agree (S := fun b => W0.heap.size ≤ b ∧ b < O) (by omega)) H6.out)
    have s7 := he7.1.size
    clear hr7 he7 C6 H6 E6 B6 R6 R4 E4 B4 R3 E3 B3 R2 E2 B2 P2 R1 E1 B1 P1
    go_wp2_with fail
    go_loopw [5] (fun i wr => ∃ (k : Nat) (ts : List Tm) (av : Option Addr) (cv P : Nat), ts.length + k ≤ 2 ∧ i = .int .i64 k ∧ Hid (AppI 25 (fun b => O + 1 ≤ b) ts (.slice av ts.length cv) wr) ∧ Hid (Rd wr r P) ∧ P + k * 33 ≤ p + 90 ∧ Hid (ExtR r w wr) ∧
        Hid (BoxC wr w.heap.size (.int .i64 0) (.int .i64 0) (.string ⟨#[]⟩) (.slice none 0 0) (.slice none 0 0)) ∧ Hid (BoxC wr O (.int .i64 hd.kind) (.int .i64 hd.n) (.string hd.name) (.slice a5 hd.kids.length c5) (.slice av ts.length cv)) ∧
        Hid (Tm.at (fun b => W0.heap.size ≤ b ∧ b < O) wr hd (.agg #[.int .i64 hd.kind, .int .i64 hd.n, .string hd.name, .slice a5 hd.kids.length c5]))) (fun i _ => (intOf i).toNat)
    case atStart => exact ⟨n, [], none, 0, _, by simp; omega, rfl, Lib.hid (AppI.nil _ _ _), R7, by omega, E7, B7, C7, H7⟩
    case round =>
      obtain ⟨k, ts, av, cv, P, hk, rfl, A, R, hP, E, B, C, H⟩ := hrel
      clear R7 E7 B7 C7 H7
      have szO := C.out.lt
      by_cases hk0 : k = 0
      · subst hk0
        obtain ⟨c0, c1, c2, c3, c4, _, _, _, _, _⟩ := C.out
        obtain ⟨q0, q1, q2, q3, q4, f0, f1, f2, f3, f4⟩ := B.out
        have hts : ts.length ≤ 1048576 := by omega
        have HTS := Lib.hid hts
        have HT6 := Lib.hid (show ts.length ≤ 6 by omega)
        clear hts
        go_wp2_with fail
        refine ret5_set (p := 2) (T := 27) (b := w.heap.size) (by kernel_rfl) (fun _ => by kernel_rfl) (fun _ => by kernel_rfl) rfl rfl B.out ?_
        intro X hX
        exact cl_end (c := ⟨hd, ts⟩) (Nat.le_refl _) hX E.out HR0.out R.out ⟨_, _, rfl, Tm.at_mono (fun b hb => ⟨by omega, by omega⟩) (Agree.refl _) H.out, Tm.sl_mono (fun b hb => ⟨by omega, by omega⟩) (Agree.refl _) (A.out.sl HTS.out)⟩ (by omega) HT6.out
      · have hpos : (0 : Int) < (k : Int) := by omega
        obtain ⟨_, _, _, _, c4, _, _, _, _, f4⟩ := C.out
        have hP2 : P + 33 ≤ p + 90 := by omega
        have HP := Lib.hid hP
        have hl1 : ts.length < 1048576 := by omega
        clear hP
        go_wp2_with fail
        go_region_law (first
          | (go_simp; go_at_call 116; refine (rdof_newd [⟨#[112]⟩, ⟨#[61]⟩, ⟨#[60]⟩, ⟨#[113]⟩] 4 rfl rfl (by decide) (by decide) (by simp) (by omega) R.out (by simp)).mono ?_; rintro e x1 ⟨y, rfl, hy, hr1, he1⟩; have hys : y.size ≤ 1048576 := (show ∀ z ∈ ([⟨#[112]⟩, ⟨#[61]⟩, ⟨#[60]⟩, ⟨#[113]⟩] : List ByteArray), z.size ≤ 1048576 by decide) y hy; have RA := Lib.hid hr1; have EA := Lib.hid he1; have z1 := he1.1.size; have y1 : O < x1.heap.size := (by omega); have u4 := he1.cell nO c4; have g4 := he1.frozen szO nO f4; clear hr1 he1 hy; dsimp only)
          | (go_simp; go_at_call 118; refine (specl1Draw 1 2 r q1 _ (by omega) (by omega) (by omega) (by show q1 + 16 ≤ _; omega) RB.out).mono ?_; rintro e x3 ⟨t3, v3, q2, rfl, hv3, _, hr3, hq2, he3⟩; have hq2 : q2 ≤ q1 + 16 := hq2; have V2 := Lib.hid (Tm.at_mono (fun _ h => h) (he3.agree (S := fun b => x1.heap.size ≤ b) (by omega)) V1.out); have V3 := Lib.hid hv3; have RC := Lib.hid hr3; have EC := Lib.hid he3; have z3 := he3.1.size; have y3 : O < x3.heap.size := (by omega); have u6 := he3.cell nO u5; have g6 := he3.frozen (by omega) nO g5; obtain ⟨a3, d3, rfl⟩ := at_form hv3; clear hr3 he3 hv3; dsimp only)
          | (go_simp; go_at_call 118; refine (specl1Draw 1 2 r (P + 1) _ (by omega) (by omega) (by omega) (by show P + 1 + 16 ≤ _; omega) RA.out).mono ?_; rintro e x2 ⟨t2, v2, q1, rfl, hv2, _, hr2, hq1, he2⟩; have hq1 : q1 ≤ P + 1 + 16 := hq1; have V1 := Lib.hid hv2; have RB := Lib.hid hr2; have EB := Lib.hid he2; have z2 := he2.1.size; have y2 : O < x2.heap.size := (by omega); have u5 := he2.cell nO u4; have g5 := he2.frozen (by omega) nO g4; obtain ⟨a2, d2, rfl⟩ := at_form hv2; clear hr2 he2 hv2; dsimp only)
          | (go_simp; go_at_call 117; refine (specl1Struct y [t2, t3] hys (by simp) _ (fun b => wr.heap.size ≤ b ∨ b = x3.heap.size) _ (sl_new (S := fun b => wr.heap.size ≤ b) (xs := tcells t2 a2 d2 ++ (tcells t3 a3 d3 ++ [])) ⟨a2, d2, _, rfl, Tm.at_mono (fun b h => by omega) (Agree.refl _) V2.out, a3, d3, _, rfl, Tm.at_mono (fun b h => by omega) (Agree.refl _) V3.out, rfl⟩ rfl rfl (by simp))).mono ?_; rintro e x4 ⟨v4, rfl, hv4, e4⟩; obtain ⟨a4, d4, rfl⟩ := at_form hv4; have e34 := (Ext.alloc x3 _).trans e4; have E4 := Lib.hid e34; have z4 := Below.size e34; have y4 : O < x4.heap.size := (by omega); have V4 := Lib.hid (Tm.at_mono (S' := fun b => wr.heap.size ≤ b) (fun b h => by have h1 := h; simp at h1; omega) (Agree.refl _) hv4); have u7 := e34.cell u6; have g7 := e34.frozen (a := ⟨O, 4, none⟩) (by show O < _; omega) g6; clear hv4 e4 e34; dsimp only)
          | (refine step_append_tm rfl (.tmp 33) (.tmp 43) 23 rfl (fun b => O + 1 ≤ b) 25 i0 Tryz.underlying23 HI.out HZ.out HZ1.out HZ2.out (.slice av ts.length cv) ts (.mk 3 0 y [t2, t3]) a4 d4 rfl (((A.out.keep (M := fun k => k = r) (Fr.of_extR ((EA.out.trans EB.out).trans EC.out) rfl) (fun k _ h => by omega))).ext E4.out) rfl (A.out.apart (fun b hb => by omega) V4.out) hl1 (fun b hb => by omega) ?_; intro av2 cv2 x5 hA2 hf2; have A2 := Lib.hid hA2; have F2 := Lib.hid hf2; have z5 := hf2.size; have y5 : O < x5.heap.size := (by omega); have u8 := hf2.cell (fun h => by omega) u7; have g8 := hf2.frozen (k := O) (by omega) (fun h => by omega) g7; clear hA2 hf2))
        all_goals go_wp2_with fail
        all_goals
          have EX : ExtR r wr x4 := ((EA.out.trans EB.out).trans EC.out).trans (ExtR.of_ext E4.out)
          have FF : ∀ u, Fr (fun b => O ≤ b) x4 (x5.setCell ⟨O, 4, none⟩ u) := fun u => (F2.out.mono (fun _ _ h => by omega)).trans (Fr.setCell _ (Nat.le_refl _))
          have hlen : (ts ++ [Tm.mk 3 0 y [t2, t3]]).length = ts.length + 1 := by simp
          have hmul : k * 33 = (k - 1) * 33 + 33 := by omega
          have hPP : q2 + (k - 1) * 33 ≤ p + 90 := by have := HP.out; omega
          go_roundw
          case rel =>
            refine ⟨k - 1, ts ++ [Tm.mk 3 0 y [t2, t3]], av2, cv2, q2, by rw [hlen]; omega, by congr 1; omega, Lib.hid ?_, Lib.hid ?_, hPP, Lib.hid ?_, Lib.hid ?_, Lib.hid ?_, Lib.hid ?_⟩
            · rw [hlen]
              exact A2.out.keep (M := fun k => k = O) (Fr.setCell _ rfl) (fun k _ h hz => by omega)
            · exact Rd.fr HR0.out (E.out.trans EX) (RC.out.ext E4.out) (FF _) (fun k _ h => by omega)
            · exact (E.out.trans EX).fr (FF _) (fun k _ h => by omega)
            · exact (B.out.extR EX n0).fr (FF _) (by omega)
            · rw [hlen]
              exact ((C.out.extR EX nO).fr F2.out (by omega)).setBody _
            · exact Tm.at_mono (fun _ h => h) ((EX.agree (S := fun b => W0.heap.size ≤ b ∧ b < O) (by omega)).trans ((FF _).agree (fun k hk h => by omega))) H.out
          case measure => simp [intOf]; omega
end Go.Proofs.YtognkaebiafgbaaGreatDoor
