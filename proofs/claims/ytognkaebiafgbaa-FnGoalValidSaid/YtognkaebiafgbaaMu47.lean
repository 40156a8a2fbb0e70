/-
  How large a clause is that has been read.
-/
import Derived.Test.YtognkaebiafgbaaMu34
import Derived.Test.YtognkaebiafgbaaMu46
import Derived.Test.YtognkaebiafgbaaMu32
import Derived.Test.YtognkaebiafgbaaMu31
import Derived.Test.YtognkaebiafgbaaMu8
import Derived.Test.YtognkaebiafgbaaMu9
namespace Go.Proofs.Ytognkaebiafgbaa
open Go.RowKit
set_option linter.unusedVariables false
theorem val_small {t : Tm} (hv : validF t = true) : Tm.sz t ≤ 120 ∧ t.name.size ≤ 1048576 ∧ t.kids.length ≤ 1048576 := by
  have h2 := (valid_parts hv).2
  have h1 := (valid_parts hv).1
  obtain ⟨k, n, nm, ks⟩ := t
  have hl : ks.length ≤ 4 := by
    rcases shape_own h1 with ⟨_, _, h⟩ | ⟨_, _, h⟩ | ⟨rfl, _⟩
    · rw [h]; decide
    · rw [h]; decide
    · exact (shape_name h1).2
  refine ⟨h2, ?_, by simp only [Tm.kids]; omega⟩
  simp only [Tm.name]
  rcases shape_own h1 with ⟨_, h, _⟩ | ⟨_, h, _⟩ | ⟨rfl, _⟩
  · rw [← bl_len, h]; decide
  · rw [← bl_len, h]; decide
  · have := (name_len (shape_name h1).1).2
    rw [bl_len] at this
    omega
theorem szL_of : ∀ (ts : List Tm), (∀ (j : Nat) (t : Tm), ts[j]? = some t → Tm.sz t ≤ 120) → Tm.szL ts ≤ ts.length * 120
  | [], _ => by simp [Tm.szL]
  | t :: ts, h => by
    have h1 := h 0 t rfl
    have h2 := szL_of ts (fun j x hx => h (j + 1) x (by simpa using hx))
    simp only [Tm.szL, List.length_cons, Nat.add_mul, Nat.one_mul]
    omega
theorem cl_small {c : Cl} (hc : clValidF c = true) : Cl.mk3 c ≤ 6000 ∧ c.head.name.size ≤ 1048576 ∧ c.head.kids.length ≤ 1048576 ∧ c.body.length ≤ 1048576 := by
  obtain ⟨h1, h2, h3⟩ := cl_parts hc
  obtain ⟨a1, a2, a3⟩ := val_small h1
  have h4 := szL_of c.body (fun j t ht => (val_small (h3 j t ht)).1)
  refine ⟨?_, a2, a3, by omega⟩
  unfold Cl.mk3
  have h5 : Tm.szL c.head.kids ≤ 120 := by
    obtain ⟨⟨k, n, nm, ks⟩, b⟩ := c
    simp only [Tm.sz] at a1
    simp only [Tm.kids]
    omega
  omega
theorem parse_small (s : ByteArray) : Cl.mk3 (parseCT s) ≤ 6000 ∧ (parseCT s).head.name.size ≤ 1048576 ∧ (parseCT s).head.kids.length ≤ 1048576 ∧ (parseCT s).body.length ≤ 1048576 := by
  cases e : parseC s with
  | none =>
    rw [(parseC_no e).1]
    exact ⟨by decide, by decide, by decide, by decide⟩
  | some c =>
    have e2 : parseCT s = c := by unfold parseCT; rw [e]; rfl
    rw [e2]
    unfold parseC at e
    split at e
    · exact cl_small (parseClO_spec e).1
    · cases e
end Go.Proofs.Ytognkaebiafgbaa

namespace Go.Proofs.Ytognkaebiafgbaa
open Go.RowKit
set_option linter.unusedVariables false
def PrBO (cs : List Cl) (b : Bool) (w : World) (e : Ending) (w' : World) : Prop := ∃ a c, e = .returned (.tuple #[.slice a cs.length c, .bool b]) ∧ OwnP (fun k => w.heap.size ≤ k) cs (.slice a cs.length c) w' ∧ Ext w w'
noncomputable def linesPr (ls : List (List UInt8)) : Option (List Cl) := if ls.length ≤ 21 ∧ ls.getLast? = some [] then mapO (fun x => parseC (bs x)) ls.dropLast else none
theorem linesPr_no1 {ls : List (List UInt8)} (h : 21 < ls.length) : linesPr ls = none := by
  unfold linesPr
  rw [if_neg]
  rintro ⟨h1, _⟩
  omega
theorem linesPr_no2 {ls : List (List UInt8)} {x : List UInt8} (h : ls[ls.length - 1]? = some x) (hx : x ≠ []) : linesPr ls = none := by
  unfold linesPr
  rw [if_neg]
  rintro ⟨_, h2⟩
  rw [List.getLast?_eq_getElem?, h] at h2
  exact hx (Option.some.inj h2)
theorem linesPr_no3 {ls : List (List UInt8)} {j : Nat} {x : List UInt8} (hj : j + 1 < ls.length) (h : ls[j]? = some x) (hx : parseC (bs x) = none) : linesPr ls = none := by
  unfold linesPr
  split
  · refine mapO_none (j := j) (x := x) ?_ hx
    rw [List.dropLast_eq_take, List.getElem?_take, if_pos (by omega)]
    exact h
  · rfl
theorem linesPr_yes {ls : List (List UInt8)} {cs : List Cl} (h1 : ls.length ≤ 21) (h2 : ls[ls.length - 1]? = some []) (h3 : mapO (fun x => parseC (bs x)) (ls.take (ls.length - 1)) = some cs) : linesPr ls = some cs := by
  unfold linesPr
  rw [if_pos ⟨h1, by rw [List.getLast?_eq_getElem?, h2]⟩, List.dropLast_eq_take]
  exact h3
theorem cut_line : ∀ (l x : List UInt8), x ∈ cutL l → x.length ≤ l.length
  | [], x, h => by simp [cutL] at h; subst h; simp
  | b :: l, x, h => by
    rw [cutL] at h
    split at h
    · rcases List.mem_cons.1 h with rfl | h
      · simp
      · have := cut_line l x h; simp only [List.length_cons]; omega
    · rcases List.mem_cons.1 h with rfl | h
      · have hm : (cutL l).headD [] ∈ cutL l := by
          cases e : cutL l with
          | nil => exact absurd e (cutL_ne l)
          | cons y ys => simp
        have := cut_line l _ hm
        simp only [List.length_cons]; omega
      · have := cut_line l x (List.mem_of_mem_tail h); simp only [List.length_cons]; omega
theorem pr_none {s : ByteArray} (h : linesPr (cutL s.toList) = none) : parsePT s = [] ∧ parsePB s = false := by
  have e : parsePr s.toList = none := h
  exact ⟨by unfold parsePT; rw [e]; rfl, by unfold parsePB; rw [e]; rfl⟩
theorem pr_some {s : ByteArray} {cs : List Cl} (h : linesPr (cutL s.toList) = some cs) : parsePT s = cs ∧ parsePB s = true := by
  have e : parsePr s.toList = some cs := h
  exact ⟨by unfold parsePT; rw [e]; rfl, by unfold parsePB; rw [e]; rfl⟩
theorem line_no {x : ByteArray} (h : parseC x = none) : parseCT x = zCl ∧ parseCB x = false := parseC_no h
theorem line_yes {x : ByteArray} {c : Cl} (h : parseC x = some c) : parseCT x = c ∧ parseCB x = true := ⟨by unfold parseCT; rw [h]; rfl, by unfold parseCB; rw [h]; rfl⟩
theorem line_small {x : ByteArray} {c : Cl} (h : parseC x = some c) : c.body.length ≤ 1048576 := by
  have := (parse_small x).2.2.2
  rw [(line_yes h).1] at this
  exact this
end Go.Proofs.Ytognkaebiafgbaa

namespace Go.Proofs.Ytognkaebiafgbaa
open Go.RowKit
set_option linter.unusedVariables false
set_option maxRecDepth 100000 in
set_option maxHeartbeats 4000000 in
theorem specParseProgram (s : ByteArray) (w : World) (hs : s.size ≤ 1048576) : Calls Try.prog 41 #[.string s] w (PrBO (parsePT s) (parsePB s) w) := by
  obtain ⟨i0, hi, hz0, hz1, hz2⟩ := info_parts info_cl
  have P0 := Lib.hid (OwnP.empty (w := w) (b := w.heap.size) (F := fun b => w.heap.size ≤ b) rfl (Nat.le_refl _))
  have E0 := Lib.hid (Ext.alloc w (.cells #[] 33))
  have HNO := Lib.hid (fun h => pr_none (s := s) h)
  have HYES := Lib.hid (fun cs h => pr_some (s := s) (cs := cs) h)
  have HLN := Lib.hid (fun (x : List UInt8) (h : x ∈ cutL s.toList) => (show x.length ≤ 1048576 by have := cut_line s.toList x h; rw [bl_len] at this; omega))
  have HL1 := cutL_len s.toList
  have HLL : (cutL s.toList).length ≤ 1048577 := by have := cutL_le s.toList; rw [bl_len] at this; omega
  have SC := Lib.hid (specl18Cut s (w.alloc (.cells #[] 33)) hs)
  go_enter Try.func41, Try.ntmps41
  go_wp2_with fail
  refine SC.out.mono ?_
  rintro e w1 ⟨g, c, rfl, hgl, hv, e1⟩
  have hgl : w.heap.size + 1 ≤ g := by simpa using hgl
  generalize cutL s.toList = ls at HNO HYES HLN HL1 HLL hv
  obtain ⟨g', c', hgc, hg, hc1, hc2, hcl⟩ := hv
  simp only [Value.slice.injEq, Option.some.injEq, Addr.mk.injEq, and_true] at hgc
  obtain ⟨rfl, _, rfl⟩ := hgc
  rw [List.length_map] at hc1
  have HCL := Lib.hid hcl
  have E1 := Lib.hid (E0.out.trans e1)
  have P1 := Lib.hid (P0.out.ext e1)
  have P2 := Lib.hid (((OwnP.empty (w := w) (b := w.heap.size) (F := fun b => b = w.heap.size) rfl rfl).ext e1).zone (F' := fun b => w.heap.size ≤ b ∧ b < w1.heap.size ∧ ¬ b = g) (fun b hb => by have := Below.size e1; simp at this; omega))
  obtain ⟨N, hN⟩ : ∃ N, ls.length = N + 1 := ⟨ls.length - 1, by omega⟩
  rw [hN] at hc1 HLL ⊢
  have HN := Lib.hid hN
  obtain ⟨x, hx⟩ : ∃ x, ls[N]? = some x := ⟨_, List.getElem?_eq_getElem (by omega)⟩
  have cx := hcl N (bs x) (by rw [List.getElem?_map, hx]; rfl)
  have HX := Lib.hid hx
  clear hcl e1 P0 E0 SC hN hx HL1
  by_cases h21 : 21 < N + 1
  · have HQ := Lib.hid (HNO.out (linesPr_no1 (by have := HN.out; omega)))
    go_wp2_with fail
    go_ret2
    rw [HQ.out.1, HQ.out.2]
    exact ⟨_, _, rfl, P1.out, E1.out⟩
  · have hlast : ((N + 1 : Nat) : Int) - 1 = (N : Int) := by omega
    obtain ⟨y, hy⟩ : ∃ y, bs x = y := ⟨_, rfl⟩
    rw [hy] at cx
    have h21' : (N : Int) + 1 ≤ 21 := by omega
    by_cases hx0 : x = []
    · have hemp : y.toList.isEmpty = true := by rw [← hy, bs_list, hx0]; rfl
      have HLT := Lib.hid (show ls[ls.length - 1]? = some [] by rw [show ls.length - 1 = N by have := HN.out; omega, HX.out, hx0])
      have HYS := Lib.hid (fun cs h => HYES.out cs (linesPr_yes (by have := HN.out; omega) HLT.out h))
      have HNN := Lib.hid (fun (j : Nat) (x : List UInt8) (h1 : j < N) (h2 : ls[j]? = some x) (h3 : parseC (bs x) = none) => HNO.out (linesPr_no3 (by have := HN.out; omega) h2 h3))
      clear hy hx0 HX
      go_wp2_with fail
      go_loopw [4, 6] (fun ov iv wr => ∃ (j : Nat) (cs : List Cl) (av : Option Addr) (cv : Nat), j ≤ N ∧ iv = .int .i64 j ∧ ov = .slice av cs.length cv ∧ cs.length = j ∧ Hid (mapO (fun x => parseC (bs x)) (ls.take j) = some cs) ∧ Hid (OwnP (fun b => w.heap.size ≤ b ∧ b < wr.heap.size ∧ ¬ b = g) cs (.slice av cs.length cv) wr) ∧ Hid (Ext w wr) ∧ Hid (Fr (fun b => w.heap.size ≤ b ∧ ¬ b = g) w1 wr)) (fun _ i _ => N - (intOf i).toNat)
      case atStart => exact ⟨0, [], _, 0, Nat.zero_le _, rfl, rfl, rfl, Lib.hid rfl, Lib.hid P2.out, E1, Lib.hid (Fr.refl _ _)⟩
      case round =>
        obtain ⟨j, cs, av, cv, hj, rfl, rfl, hcj, HM, HP, HE, HE1⟩ := hrel
        have HCJ := Lib.hid hcj
        clear hcj
        by_cases hlt : j < N
        · obtain ⟨z, hz⟩ : ∃ z, ls[j]? = some z := ⟨_, List.getElem?_eq_getElem (by have := HN.out; omega)⟩
          have cz := HE1.out.cell (by simp) (HCL.out j (bs z) (by rw [List.getElem?_map, hz]; rfl))
          have hzl : (bs z).size ≤ 1048576 := by rw [bs_size]; exact HLN.out z (List.mem_of_getElem? hz)
          have HZ := Lib.hid hz
          have hlt' : (j : Int) + 1 < (N : Int) + 1 := by omega
          have PC := Lib.hid (specParseClause (bs z) wr hzl)
          have hsz := Below.size HE.out
          obtain ⟨zb, hzb⟩ : ∃ zb, bs z = zb := ⟨_, rfl⟩
          rw [hzb] at cz PC
          have HZB := Lib.hid hzb
          clear hz hzb hzl
          cases hpc : parseC zb with
          | none =>
            have HQ := Lib.hid (HNN.out j z hlt HZ.out (by rw [HZB.out]; exact hpc))
            have hl9 := line_no hpc
            rw [hl9.1, hl9.2] at PC
            clear hpc hl9
            go_wp2_with fail
            refine PC.out.mono ?_
            rintro e w3 ⟨v, rfl, hv, e3⟩
            obtain ⟨a3, ca3, b3, cb3, m3, rfl, _⟩ := hv
            go_wp2_with fail
            go_ret2
            rw [HQ.out.1, HQ.out.2]
            exact ⟨_, _, rfl, (OwnP.empty (F := fun b => w.heap.size ≤ b) (by simp) (by have := Below.size e3; omega)), HE.out.trans (e3.trans ((Ext.alloc _ _).trans (Ext.alloc _ _)))⟩
          | some c =>
            have hbl := line_small hpc
            have hl9 := line_yes hpc
            have HNX := Lib.hid (mapO_snoc (f := fun x => parseC (bs x)) HM.out (show parseC (bs z) = some c by rw [HZB.out]; exact hpc))
            rw [hl9.1, hl9.2] at PC
            clear hpc hl9
            go_wp2_with fail
            refine PC.out.mono ?_
            rintro e w3 ⟨v, rfl, hv, e3⟩
            obtain ⟨a3, ca3, b3, cb3, rfl, hcp⟩ := hv.ownP hbl
            have e34 := e3.trans (Ext.alloc w3 (.cells #[.int .i64 c.head.kind, .int .i64 c.head.n, .string c.head.name, .slice a3 c.head.kids.length ca3, .slice b3 c.body.length cb3] 33))
            have CP := Lib.hid ((hcp.zone (F' := fun b => wr.heap.size ≤ b ∧ ¬ b = g) (fun b hb => ⟨hb, by have := HE1.out.size; have hb' : wr.heap.size ≤ b := hb; omega⟩)).ext (Ext.alloc w3 (.cells #[.int .i64 c.head.kind, .int .i64 c.head.n, .string c.head.name, .slice a3 c.head.kids.length ca3, .slice b3 c.body.length cb3] 33)))
            have HP4 := Lib.hid (HP.out.ext e34)
            have E4 := Lib.hid (HE.out.trans e34)
            have E41 := Lib.hid (HE1.out.trans (Fr.of_ext e34))
            have hgw : g < wr.heap.size := by have := HE1.out.size; omega
            have CB := Lib.hid (BoxC.new w3 (.int .i64 c.head.kind) (.int .i64 c.head.n) (.string c.head.name) (.slice a3 c.head.kids.length ca3) (.slice b3 c.body.length cb3) 33 rfl)
            have s34 := Below.size e34
            clear hv hcp e3 e34
            go_upto_region 11 with (fail)
            obtain ⟨w4, hw4⟩ : ∃ z, z = w3.alloc (.cells #[.int .i64 c.head.kind, .int .i64 c.head.n, .string c.head.name, .slice a3 c.head.kids.length ca3, .slice b3 c.body.length cb3] 33) := ⟨_, rfl⟩
            rw [← hw4] at CP HP4 E4 E41 CB s34 ⊢
            clear hw4
            obtain ⟨k0, k1, k2, k3, k4, _, _, _, _, _⟩ := CB.out
            have hcl9 : cs.length < 1048576 := by have := HCJ.out; omega
            go_wp2_with (at_builtin; refine wpList_append_clx (w0 := wr) (fun b => b = g) rfl (.tmp 43) (.tmp 45) 48 rfl w.heap.size i0 Try.underlying48 hi hz0 hz1 hz2 (.slice av cs.length cv) cs c a3 b3 ca3 cb3 rfl HP4.out rfl CP.out s34 hsz (fun b hb => by have hb' : b = g := hb; omega) hcl9 rfl ?_; intro av2 cv2 w5 hP2 hF2)
            go_roundw
            case rel =>
              refine ⟨j + 1, cs ++ [c], av2, cv2, by omega, by go_num, by simp, by simp [HCJ.out], Lib.hid ?_, Lib.hid (by simpa using hP2), Lib.hid (((Fr.of_ext E4.out).trans hF2).toExt (fun k hk h => by have h' : w.heap.size ≤ k := h.1; omega)), Lib.hid ?_⟩
              · rw [take_snoc_of HZ.out]; exact HNX.out
              · exact E41.out.trans hF2
            case measure => simp [intOf]; omega
        · obtain rfl : j = N := by omega
          have HQ := Lib.hid (HYS.out cs (by rw [show ls.length - 1 = j by have := HN.out; omega]; exact HM.out))
          have hge : ¬ (j : Int) + 1 < (j : Int) + 1 := by omega
          have HPO := Lib.hid (HP.out.zone (F' := fun b => w.heap.size ≤ b) (fun b hb => hb.1))
          go_wp2_with fail
          go_ret2
          rw [HQ.out.1, HQ.out.2]
          exact ⟨av, cv, rfl, HPO.out, HE.out⟩
    · have hemp : y.toList.isEmpty = false := by rw [← hy, bs_list]; cases x with
        | nil => exact absurd rfl hx0
        | cons _ _ => rfl
      have HQ := Lib.hid (HNO.out (linesPr_no2 (by have h := HX.out; rw [show ls.length - 1 = N by have := HN.out; omega]; exact h) hx0))
      clear hy
      go_wp2_with fail
      go_ret2
      rw [HQ.out.1, HQ.out.2]
      exact ⟨_, _, rfl, P1.out, E1.out⟩
end Go.Proofs.Ytognkaebiafgbaa

namespace Go.Proofs.Ytognkaebiafgbaa
open Go.RowKit
set_option linter.unusedVariables false
set_option maxRecDepth 100000 in
theorem specl4Texts (w : World) : Calls Try.prog 40 #[] w fun e w' => e = .returned (.slice (some ⟨w.heap.size, 0, none⟩) 11 11) ∧ StrsAt w' drawnTx (.slice (some ⟨w.heap.size, 0, none⟩) 11 11) ∧ Ext w w' := by
  have hs := Lib.hid (strs_at_new drawnTx 11 rfl w 9 (drawnTx.map Value.string).toArray rfl (by decide) (by decide +kernel))
  have hx := Lib.hid (Ext.alloc w (.cells (drawnTx.map Value.string).toArray 9))
  go_enter Try.func40, Try.ntmps40
  go_wp2_with fail
  go_ret
  exact ⟨rfl, hs.out, hx.out⟩
def PrPost (r p : Nat) (w : World) (e : Ending) (w' : World) : Prop := ∃ cs a c, e = .returned (.slice a cs.length c) ∧ Cl.sl (fun b => w.heap.size ≤ b) w' cs (.slice a cs.length c) ∧ prValidF cs = true ∧ cs ≠ [] ∧ cs.length ≤ 20 ∧ Rd w' r (p + 1) ∧ ExtR r w w'
set_option maxRecDepth 100000 in
set_option maxHeartbeats 2000000 in
theorem specl4Program (r p : Nat) (w : World) (hp : p + 1 ≤ 1099511627776) (hr : Rd w r p) : Calls Try.prog 25 #[.pointer (some ⟨r, 0, none⟩)] w (PrPost r p w) := by
  have hrl := hr.lt
  have R0 := Lib.hid hr
  clear hr
  go_enter Try.func25, Try.ntmps25
  go_wp2_with fail
  refine (specl4Texts w).mono ?_
  rintro e w1 ⟨rfl, hs, e1⟩
  have HS := Lib.hid hs
  have E1 := Lib.hid e1
  have R1 := Lib.hid (R0.out.ext e1)
  have s1 := Below.size e1
  clear hs e1
  go_wp2_with fail
  refine (rdpick r p 11 _ (by omega) (by decide) (by decide) R1.out).mono ?_
  rintro e w2 ⟨x, rfl, hx0, hx1, hr2, he2⟩
  obtain ⟨k, rfl⟩ := Int.eq_ofNat_of_zero_le hx0
  have hk : k < 11 := by omega
  obtain ⟨t, ht⟩ : ∃ t, drawnTx[k]? = some t := ⟨_, List.getElem?_eq_getElem (show k < drawnTx.length from hk)⟩
  have hst := HS.out
  obtain ⟨a5, cap5, hv5, _, _, hsz5, h5⟩ := hst
  obtain ⟨b, off, hb, hcs⟩ := h5.resolve_left (by simp [drawnTx])
  simp only [Value.slice.injEq] at hv5
  obtain ⟨rfl, _, rfl⟩ := hv5
  simp only [Option.some.injEq, Addr.mk.injEq, and_true] at hb
  obtain ⟨rfl, rfl⟩ := hb
  have ck := he2.cell (by omega) (hcs k t ht)
  rw [Nat.zero_add] at ck
  have htm := List.mem_of_getElem? ht
  obtain ⟨cs, h1, h2, h3, h4, _⟩ := drawn_texts t htm
  have hts := hsz5 t htm
  have SP := Lib.hid (specParseProgram t w2 hts)
  rw [h1, h2] at SP
  have R2 := Lib.hid hr2
  have E2 := Lib.hid ((ExtR.of_ext E1.out).trans he2)
  have H3 := Lib.hid h3
  have H4 := Lib.hid h4
  have hlen := (pr_mem h3).1
  have s2 := he2.1.size
  clear h5 hcs hr2 he2 ht htm h1 h2 h3 h4 hsz5
  go_wp2_with fail
  refine SP.out.mono ?_
  rintro e w3 ⟨a, c, rfl, hP, e3⟩
  have P3 := Lib.hid ((hP.sl (by omega)))
  have E3 := Lib.hid (E2.out.trans (ExtR.of_ext e3))
  have R3 := Lib.hid (R2.out.ext e3)
  clear hP e3
  go_wp2_with fail
  go_ret
  exact ⟨cs, a, c, rfl, Cl.sl_mono (fun b hb => by omega) (Agree.refl _) P3.out, H3.out, H4.out, hlen, R3.out, E3.out⟩
end Go.Proofs.Ytognkaebiafgbaa
