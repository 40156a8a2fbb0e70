/-
  The reference's readers with operators: l2Read, whole.
-/
import Derived.Test.YtognkaebiafgbaaGreatMv32
namespace Go.Proofs.YtognkaebiafgbaaGreat
open Go.RowKit
set_option linter.unusedVariables false
theorem loopS_none {G e L : Nat} {t : Tm} {q : List UInt8} (h : opS q = none) : loopS (G + 1) e L t q = some (t, q) := by rw [loopS, h]
theorem loopS_lev {G e L : Nat} {t : Tm} {q nm r : List UInt8} (h : opS q = some (nm, r)) (hl : ¬ opLevelF nm = ((L + 1 : Nat) : Int)) : loopS (G + 1) e L t q = some (t, q) := by rw [loopS, h]; simp only [if_pos hl, ne_eq]
theorem loopS_no {G e L : Nat} {t : Tm} {q nm r : List UInt8} (h : opS q = some (nm, r)) (hl : opLevelF nm = ((L + 1 : Nat) : Int)) (hr : rdF G e L r = none) : loopS (G + 1) e L t q = none := by rw [loopS, h]; simp only [hl, hr, ne_eq, not_true_eq_false, if_false]
theorem loopS_three {G e L : Nat} {t b : Tm} {q nm r r' : List UInt8} (h : opS q = some (nm, r)) (hl : opLevelF nm = ((L + 1 : Nat) : Int)) (hr : rdF G e L r = some (b, r')) (h3 : L + 1 = 3) : loopS (G + 1) e L t q = some (sT (bs nm) [t, b], r') := by
  rw [loopS, h]; simp only [hl, hr, ne_eq, not_true_eq_false, if_false, if_pos h3]
theorem loopS_more {G e L : Nat} {t b : Tm} {q nm r r' : List UInt8} (h : opS q = some (nm, r)) (hl : opLevelF nm = ((L + 1 : Nat) : Int)) (hr : rdF G e L r = some (b, r')) (h3 : ¬ L + 1 = 3) : loopS (G + 1) e L t q = loopS G e L (sT (bs nm) [t, b]) r' := by
  rw [loopS, h]; simp only [hl, hr, ne_eq, not_true_eq_false, if_false, if_neg h3]
theorem opS_ne {rest s r : List UInt8} (h : opS rest = some (s, r)) : s ≠ [] ∧ s.length ≤ rest.length := by
  have k0 : ∀ s' : List UInt8, ¬ opLevelF s' = 0 → s' ≠ [] := fun s' h0 e => h0 (by rw [e]; rfl)
  have key : ∀ q : List UInt8, q.length ≤ rest.length → ∀ s' r', nameP q = some (s', r') → s'.length ≤ rest.length := fun q hq s' r' hn => by
    have := (nameP_len hn).2
    omega
  unfold opS at h
  by_cases hsp : rest.head? = some 32
  · simp only [hsp, if_true, true_and] at h
    split at h
    · cases h
    · cases hn : nameP (rest.drop 1) with
      | none => rw [hn] at h; cases h
      | some p =>
        obtain ⟨s', r'⟩ := p
        have hl := key _ (by rw [List.length_drop]; omega) _ _ hn
        rw [hn] at h
        simp only at h
        split at h
        · cases h
        · rename_i h0
          split at h
          · split at h
            · cases h
              exact ⟨k0 _ h0, hl⟩
            · cases h
          · cases h
  · simp only [hsp, if_false, false_and] at h
    split at h
    · cases h
    · cases hn : nameP rest with
      | none => rw [hn] at h; cases h
      | some p =>
        obtain ⟨s', r'⟩ := p
        have hl := key _ (Nat.le_refl _) _ _ hn
        rw [hn] at h
        simp only at h
        split at h
        · cases h
        · rename_i h0
          split at h
          · cases h
          · cases h
            exact ⟨k0 _ h0, hl⟩
def OpNone (s : ByteArray) (q : List UInt8) (i : Int) (wr : World) : Prop := Calls Tryz.prog 84 #[.string s, .int .i64 i] wr fun e w' => ∃ i1, e = .returned (.tuple #[.string ⟨#[]⟩, .int .i64 i1]) ∧ Ext wr w'
def OpSome (s : ByteArray) (nm r : List UInt8) (i : Int) (wr : World) : Prop := Calls Tryz.prog 84 #[.string s, .int .i64 i] wr fun e w' => ∃ i1, e = .returned (.tuple #[.string (bs nm), .int .i64 i1]) ∧ Ext wr w' ∧ AtR s (some r) i1
theorem op_none {s : ByteArray} {q : List UInt8} {i : Int} {wr : World} (hs : s.size ≤ 1048576) (hat : AtR s (some q) i) (h : opS q = none) : OpNone s q i wr := by
  refine (specl2Op hs hat wr).mono fun e w' H => ?_
  rw [h] at H
  obtain ⟨i1, he, hx, _⟩ := H
  exact ⟨i1, he, hx⟩
theorem op_some {s : ByteArray} {q nm r : List UInt8} {i : Int} {wr : World} (hs : s.size ≤ 1048576) (hat : AtR s (some q) i) (h : opS q = some (nm, r)) : OpSome s nm r i wr := by
  refine (specl2Op hs hat wr).mono fun e w' H => ?_
  rw [h] at H
  obtain ⟨i1, he, hx, ha⟩ := H
  exact ⟨i1, he, hx, ha nm r rfl⟩
set_option maxRecDepth 100000 in
set_option maxHeartbeats 8000000 in
theorem specl2Read0 (F : Nat) (hT : TrC F) (hR : RdC F) (s : ByteArray) (rest : List UInt8) (i : Int) (d : Nat) (w : World) (hs : s.size ≤ 1000) (hd : d ≤ 100) (hat : AtR s (some rest) i) (hF : 6 * rest.length ≤ F) :
    Calls Tryz.prog 73 #[.string s, .int .i64 i, .int .i64 d, .int .i64 0] w (SpTm s (rdF (F + 1) d 0 rest) w) := by
  have PC := Lib.hid (fun w' => specl2Prime F hT hR s rest i d w' hs hd hat hF)
  have ZB := Lib.hid (BoxT.new w (.int .i64 0) (.int .i64 0) (.string ⟨#[]⟩) (.slice none 0 0) 26 rfl)
  have EB := Lib.hid (Ext.alloc w (.cells #[.int .i64 0, .int .i64 0, .string ⟨#[]⟩, .slice none 0 0] 26))
  clear hT hR hat hF
  go_enter Tryz.func73, Tryz.ntmps73
  go_wp2_with fail
  refine (PC.out _).mono ?_
  rintro e w5 ⟨t, ta, tc, i5, rfl, hat5, e5, ha5, hX5⟩
  have T5 := Lib.hid hat5
  have A5 := Lib.hid ha5
  have X5 := Lib.hid hX5
  have sk := Below.size EB.out
  have E5 := Lib.hid (EB.out.trans e5)
  have Z5 := Lib.hid (ZB.out.ext e5)
  have bz := Z5.out
  obtain ⟨z0, z1, z2, z3, y0, y1, y2, y3⟩ := bz
  have lz9 := Z5.out.lt
  clear hat5 ha5 hX5 e5
  go_wp2_with fail
  refine ret4b_set (p := 8) (q := 9) (T := 26) (b := w.heap.size) (y := .int .i64 (i5)) (by kernel_rfl) (fun _ => by kernel_rfl) (fun _ => by kernel_rfl) rfl rfl rfl Z5.out ?_
  intro Z fZ
  exact ⟨t, ta, tc, i5, rfl, Tm.at_mono (fun b hb => by have hb' : _ ≤ b := hb; simp at hb'; show w.heap.size ≤ b; omega) (Agree.refl _) (fZ.at T5.out (fun b hb e => by have hb' : _ ≤ b := hb; simp at hb'; omega)), ((Fr.of_ext E5.out).trans fZ).toExt (fun q hq h => by omega), A5.out, X5.out⟩
set_option maxRecDepth 100000 in
set_option maxHeartbeats 16000000 in
theorem specl2ReadS (F : Nat) (hR : ∀ G, G ≤ F → RdC G) (s : ByteArray) (rest : List UInt8) (i : Int) (d L : Nat) (w : World) (hs : s.size ≤ 1000) (hd : d ≤ 100) (hL : L ≤ 2) (hat : AtR s (some rest) i) (hF : 6 * rest.length + L + 1 ≤ F) :
    Calls Tryz.prog 73 #[.string s, .int .i64 i, .int .i64 d, .int .i64 ((L + 1 : Nat) : Int)] w (SpTm s (rdF (F + 1) d (L + 1) rest) w) := by
  obtain ⟨lv, hlv⟩ : ∃ z, z = ((L + 1 : Nat) : Int) := ⟨_, rfl⟩
  rw [← hlv]
  have hz : ¬ lv = 0 := by omega
  have hsub : lv - 1 = (L : Int) := by omega
  have HLV := Lib.hid hlv
  obtain ⟨X, hX⟩ : ∃ X, rdF (F + 1) d (L + 1) rest = X := ⟨_, rfl⟩
  rw [hX]
  have RC := Lib.hid (fun w' => hR F (Nat.le_refl _) s rest i d L w' hs hd (by omega) hat hF)
  have HR := Lib.hid hR
  have HX0 := Lib.hid hX
  have hs' : s.size ≤ 1048576 := by omega
  have hlen := hat.len
  have hi0 : 0 ≤ i := by obtain ⟨n, rfl, _⟩ := hat.good; omega
  have ZB := Lib.hid (BoxT.new w (.int .i64 0) (.int .i64 0) (.string ⟨#[]⟩) (.slice none 0 0) 26 rfl)
  have EB := Lib.hid (Ext.alloc w (.cells #[.int .i64 0, .int .i64 0, .string ⟨#[]⟩, .slice none 0 0] 26))
  clear hR hX hat hlv
  go_enter Tryz.func73, Tryz.ntmps73
  go_wp2_with fail
  refine (RC.out _).mono ?_
  rintro e w3 ⟨t, ta, tc, i3, rfl, hat3, e3, ha3, hX3⟩
  have sk := Below.size EB.out
  have lzk := ZB.out.lt
  have s3 : w.heap.size + 1 ≤ w3.heap.size := by have := Below.size e3; simp at this; omega
  have E3 := Lib.hid (EB.out.trans (e3.trans (Ext.alloc w3 (.cells #[.int .i64 t.kind, .int .i64 t.n, .string t.name, .slice ta t.kids.length tc] 26))))
  have Z3 := Lib.hid ((ZB.out.ext e3).ext (Ext.alloc w3 (.cells #[.int .i64 t.kind, .int .i64 t.n, .string t.name, .slice ta t.kids.length tc] 26)))
  have L3 := Lib.hid (BoxT.new w3 (.int .i64 t.kind) (.int .i64 t.n) (.string t.name) (.slice ta t.kids.length tc) 26 rfl)
  have HV3 := Lib.hid (Tm.at_ext (Ext.alloc w3 (.cells #[.int .i64 t.kind, .int .i64 t.n, .string t.name, .slice ta t.kids.length tc] 26)) (Tm.at_mono (S' := fun b => w.heap.size + 1 ≤ b ∧ b ≠ w3.heap.size) (fun b hb => by have hb' := hb.1; have hb2 : b < w3.heap.size := hb.2; simp at hb'; exact ⟨hb', by omega⟩) (Agree.refl _) (Tm.at_bound hat3)))
  have A3 := Lib.hid ha3
  have X3 := Lib.hid hX3
  have l3 := ha3.le hs'
  clear hat3 e3 ha3 hX3
  go_upto_region 4 with (fail)
  obtain ⟨w4, hw4⟩ : ∃ z, z = w3.alloc (.cells #[.int .i64 t.kind, .int .i64 t.n, .string t.name, .slice ta t.kids.length tc] 26) := ⟨_, rfl⟩
  rw [← hw4] at E3 Z3 L3 HV3 ⊢
  clear hw4
  cases hr : rdF F d L rest with
  | none =>
    rw [hr] at A3
    have HNG := Lib.hid A3.out.bad
    have hneg := HNG.out.1
    have HXN := Lib.hid (show X = none by rw [← HX0.out, rdF, hr])
    clear hr
    go_loopg [11] 1 (fun g iv wr => iv = .int .i64 i3 ∧ wr = w4 ∧ g = 1)
    case atStart => exact ⟨rfl, rfl, rfl⟩
    case round =>
      obtain ⟨rfl, rfl, hg⟩ := hrel
      have bz := Z3.out
      obtain ⟨z0, z1, z2, z3, y0, y1, y2, y3⟩ := bz
      have lz9 := Z3.out.lt
      go_wp2_with fail
      refine ret4b_set (p := 8) (q := 9) (T := 26) (b := w.heap.size) (v0 := .int .i64 0) (v1 := .int .i64 0) (v2 := .string ⟨#[]⟩) (v3 := .slice none 0 0) (y := .int .i64 (i3)) (by kernel_rfl) (fun _ => by kernel_rfl) (fun _ => by kernel_rfl) rfl rfl rfl Z3.out ?_
      intro Z fZ
      rw [HXN.out]
      exact SpTm.failI rfl HNG.out.1 HNG.out.2 (((Fr.of_ext E3.out).trans fZ).toExt (fun q hq h => by omega))
  | some p =>
    obtain ⟨t', q0⟩ := p
    have htl := X3.out t' q0 hr
    subst htl
    have hql := (sl_all F).1 _ _ _ _ _ hr
    have HXL := Lib.hid (show loopS F d L t q0 = X by rw [← HX0.out, rdF, hr])
    rw [hr] at A3
    clear hr
    go_loopg [11] (q0.length + 1) (fun g iv wr => ∃ (t : Tm) (ta : Option Addr) (tc : Nat) (i : Int) (q : List UInt8) (G : Nat), iv = .int .i64 i ∧ g = q.length + 1 ∧ G ≤ F ∧ 6 * q.length + 1 ≤ G ∧ q.length ≤ s.size ∧
      Hid (BoxT wr w3.heap.size (.int .i64 t.kind) (.int .i64 t.n) (.string t.name) (.slice ta t.kids.length tc)) ∧ Hid (BoxT wr w.heap.size (.int .i64 0) (.int .i64 0) (.string ⟨#[]⟩) (.slice none 0 0)) ∧
      Hid (Tm.at (fun b => w.heap.size + 1 ≤ b ∧ b ≠ w3.heap.size) wr t (.agg #[.int .i64 t.kind, .int .i64 t.n, .string t.name, .slice ta t.kids.length tc])) ∧ Hid (Ext w wr) ∧ Hid (AtR s (some q) i) ∧ Hid (loopS G d L t q = X))
    case atStart =>
      exact ⟨t, ta, tc, i3, q0, F, rfl, rfl, Nat.le_refl _, by omega, by omega, L3, Z3, HV3, E3, A3, HXL⟩
    case round =>
      clear HXL HV3 L3 Z3 E3 A3 X3
      obtain ⟨t, ta, tc, i, q, G, rfl, hg, hGF, hG, hqs, LB, ZB, HA, HE, HAt, HXr⟩ := hrel
      obtain ⟨G, rfl⟩ : ∃ z, G = z + 1 := ⟨G - 1, by omega⟩
      subst hg
      have hpos : 0 ≤ i := by obtain ⟨n, rfl, _⟩ := HAt.out.good; omega
      have l0 := HAt.out.le hs'
      have sE : w.heap.size ≤ wr.heap.size := Below.size HE.out
      cases ho : opS q with
      | none =>
        have OP := Lib.hid (op_none (wr := wr) hs' HAt.out ho)
        have HXN := Lib.hid (show X = some (t, q) by rw [← HXr.out]; exact loopS_none ho)
        clear ho
        go_wp2_with fail
        refine OP.out.mono ?_
        rintro e w5 ⟨i5, rfl, e5⟩
        have E5 := Lib.hid (HE.out.trans e5)
        have L5 := Lib.hid (LB.out.ext e5)
        have Z5 := Lib.hid (ZB.out.ext e5)
        have T5 := Lib.hid (Tm.at_ext e5 HA.out)
        clear e5
        have bm := L5.out
        obtain ⟨m0, m1, m2, m3, n0, n1, n2, n3⟩ := bm
        have lm9 := L5.out.lt
        have bz := Z5.out
        obtain ⟨z0, z1, z2, z3, y0, y1, y2, y3⟩ := bz
        have lz9 := Z5.out.lt
        go_wp2_with fail
        refine ret4b_set (p := 8) (q := 9) (T := 26) (b := w.heap.size) (y := .int .i64 (i)) (by kernel_rfl) (fun _ => by kernel_rfl) (fun _ => by kernel_rfl) rfl rfl rfl Z5.out ?_
        intro Z fZ
        rw [HXN.out]
        exact ⟨t, ta, tc, i, rfl, Tm.at_mono (fun b hb => by have hb' : w.heap.size + 1 ≤ b ∧ b ≠ w3.heap.size := hb; show w.heap.size ≤ b; omega) (Agree.refl _) (fZ.at T5.out (fun b hb e => by have hb' : w.heap.size + 1 ≤ b ∧ b ≠ w3.heap.size := hb; omega)), ((Fr.of_ext E5.out).trans fZ).toExt (fun q hq h => by omega), HAt.out, fun u r h => by cases h; rfl⟩
      | some p =>
        obtain ⟨nm, r⟩ := p
        have OP := Lib.hid (op_some (wr := wr) hs' HAt.out ho)
        have hnm := opS_ne ho
        have hrl := opS_len ho
        have hns : (bs nm).size ≤ 1048576 := by rw [bs_size]; omega
        have hne : ¬ (bs nm).toList = [] := by rw [bs_list]; exact hnm.1
        have hne2 : (bs nm).toList.isEmpty = false := by
          rw [bs_list]
          cases nm with
          | nil => exact absurd rfl hnm.1
          | cons c l => rfl
        have hne3 : ((bs nm).toList == []) = false := by rw [beq_eq_false_iff_ne]; exact hne
        have LVC := Lib.hid (fun w' => specl2Level_x (bs nm) w')
        by_cases hl : opLevelF nm = lv
        · have hl' : ((opLevelF (bs nm).toList) != lv) = false := by rw [bs_list]; simpa using hl
          have HLL := Lib.hid (show opLevelF nm = ((L + 1 : Nat) : Int) by rw [hl]; exact HLV.out)
          have HO := Lib.hid ho
          have LVT := Lib.hid (fun w' => show Calls Tryz.prog 51 #[.string (bs nm)] w' (fun e w'' => e = .returned (.int .i64 lv) ∧ Ext w' w'') from (LVC.out w').mono (fun e w'' H => by rw [bs_list, hl] at H; exact H))
          clear ho hl hl' hnm
          go_wp2_with fail
          refine OP.out.mono ?_
          rintro e w5 ⟨i5, rfl, e5, ha5⟩
          have E5 := Lib.hid (HE.out.trans e5)
          have L5 := Lib.hid (LB.out.ext e5)
          have Z5 := Lib.hid (ZB.out.ext e5)
          have T5 := Lib.hid (Tm.at_ext e5 HA.out)
          have A5 := Lib.hid ha5
          have l5 := ha5.le hs'
          have s5 := Below.size e5
          clear e5 ha5
          go_wp2_with fail
          refine (LVT.out _).mono ?_
          rintro e w6 ⟨rfl, e6⟩
          have E6 := Lib.hid (E5.out.trans e6)
          have L6 := Lib.hid (L5.out.ext e6)
          have Z6 := Lib.hid (Z5.out.ext e6)
          have T6 := Lib.hid (Tm.at_ext e6 T5.out)
          have s6 := Below.size e6
          clear e6
          have RC2 := Lib.hid (HR.out G (by omega) s r i5 d L w6 hs hd (by omega) A5.out (by omega))
          go_wp2_with fail
          refine RC2.out.mono ?_
          rintro e w7 ⟨u, ua, uc, i7, rfl, hat7, e7, ha7, hX7⟩
          have E7 := Lib.hid (E6.out.trans (e7.trans (Ext.alloc w7 (.cells #[.int .i64 u.kind, .int .i64 u.n, .string u.name, .slice ua u.kids.length uc] 26))))
          have L7 := Lib.hid ((L6.out.ext e7).ext (Ext.alloc w7 (.cells #[.int .i64 u.kind, .int .i64 u.n, .string u.name, .slice ua u.kids.length uc] 26)))
          have Z7 := Lib.hid ((Z6.out.ext e7).ext (Ext.alloc w7 (.cells #[.int .i64 u.kind, .int .i64 u.n, .string u.name, .slice ua u.kids.length uc] 26)))
          have T7 := Lib.hid (Tm.at_ext (Ext.alloc w7 (.cells #[.int .i64 u.kind, .int .i64 u.n, .string u.name, .slice ua u.kids.length uc] 26)) (Tm.at_ext e7 T6.out))
          have B7 := Lib.hid (BoxT.new w7 (.int .i64 u.kind) (.int .i64 u.n) (.string u.name) (.slice ua u.kids.length uc) 26 rfl)
          have s7 := Below.size e7
          have lz6 := Z6.out.lt
          have ll6 := L6.out.lt
          have U7 := Lib.hid (Tm.at_ext (Ext.alloc w7 (.cells #[.int .i64 u.kind, .int .i64 u.n, .string u.name, .slice ua u.kids.length uc] 26)) (Tm.at_mono (S' := fun b => w.heap.size + 1 ≤ b ∧ b ≠ w3.heap.size) (fun b hb => by have hb' : w6.heap.size ≤ b := hb; exact ⟨by omega, by omega⟩) (Agree.refl _) hat7))
          have A7 := Lib.hid ha7
          have X7 := Lib.hid hX7
          have l7 := ha7.le hs'
          clear hat7 e7 ha7 hX7
          go_upto_region 9 with (fail)
          obtain ⟨w8, hw8⟩ : ∃ z, z = w7.alloc (.cells #[.int .i64 u.kind, .int .i64 u.n, .string u.name, .slice ua u.kids.length uc] 26) := ⟨_, rfl⟩
          have S8 := Lib.hid (show w8.heap.size = w7.heap.size + 1 by rw [hw8]; simp)
          rw [← hw8] at E7 Z7 L7 T7 B7 U7 ⊢
          clear hw8
          cases hr : rdF G d L r with
          | none =>
            rw [hr] at A7
            have HNG := Lib.hid A7.out.bad
            have hneg := HNG.out.1
            have HXN := Lib.hid (show X = none by rw [← HXr.out]; exact loopS_no HO.out HLL.out hr)
            clear hr
            have bz := Z7.out
            obtain ⟨z0, z1, z2, z3, y0, y1, y2, y3⟩ := bz
            have lz9 := Z7.out.lt
            go_wp2_with fail
            refine ret4b_set (p := 8) (q := 9) (T := 26) (b := w.heap.size) (v0 := .int .i64 0) (v1 := .int .i64 0) (v2 := .string ⟨#[]⟩) (v3 := .slice none 0 0) (y := .int .i64 (i7)) (by kernel_rfl) (fun _ => by kernel_rfl) (fun _ => by kernel_rfl) rfl rfl rfl Z7.out ?_
            intro Z fZ
            rw [HXN.out]
            exact SpTm.failI rfl HNG.out.1 HNG.out.2 (((Fr.of_ext E7.out).trans fZ).toExt (fun q hq h => by omega))
          | some p =>
            obtain ⟨u', q7⟩ := p
            have htu := X7.out u' q7 hr
            subst htu
            have hq7 := (sl_all G).1 _ _ _ _ _ hr
            rw [hr] at A7
            have hpos7 : ¬ i7 < 0 := by obtain ⟨n7, rfl, _⟩ := A7.out.good; omega
            have hsl := sl_new (w := w8) (T := 26) (ts := [t, u]) (cs := #[.int .i64 t.kind, .int .i64 t.n, .string t.name, .slice ta t.kids.length tc, .int .i64 u.kind, .int .i64 u.n, .string u.name, .slice ua u.kids.length uc]) (S := fun b => w.heap.size + 1 ≤ b ∧ b ≠ w3.heap.size) (xs := tcells t ta tc ++ (tcells u ua uc ++ [])) ⟨ta, tc, _, rfl, T7.out, ua, uc, _, rfl, U7.out, rfl⟩ rfl (n := 2) rfl (by decide)
            have SC := Lib.hid (fun (W : World) (e : Ext (w8.alloc (.cells #[.int .i64 t.kind, .int .i64 t.n, .string t.name, .slice ta t.kids.length tc, .int .i64 u.kind, .int .i64 u.n, .string u.name, .slice ua u.kids.length uc] 26)) W) => specl1Struct (bs nm) [t, u] hns (by simp) _ _ W (Tm.sl_ext e hsl))
            have bm := L7.out
            obtain ⟨m0, m1, m2, m3, n0, n1, n2, n3⟩ := bm
            have bn := B7.out
            obtain ⟨k0, k1, k2, k3, j0, j1, j2, j3⟩ := bn
            have lm9 := L7.out.lt
            have ln9 := B7.out.lt
            clear hsl
            go_wp2_with fail
            refine (SC.out _ (Ext.refl _)).mono ?_
            rintro e w9 ⟨v9, rfl, hv9, e9⟩
            obtain ⟨a9, c9, rfl⟩ := at_form hv9
            have E9 := Lib.hid ((Ext.alloc w8 (.cells #[.int .i64 t.kind, .int .i64 t.n, .string t.name, .slice ta t.kids.length tc, .int .i64 u.kind, .int .i64 u.n, .string u.name, .slice ua u.kids.length uc] 26)).trans e9)
            have HV9 := Lib.hid hv9
            have bx9 := L7.out.ext E9.out
            have l9 := bx9.lt
            obtain ⟨d0, d1, d2, d3, g0, g1, g2, g3⟩ := bx9
            have s8 := S8.out
            clear hv9 e9
            go_upto_region 12 with (fail)
            obtain ⟨wX, hwX⟩ : ∃ z, z = ((((w9.setCell ⟨w3.heap.size, 0, none⟩ (.int .i64 (Tm.mk 3 0 (bs nm) [t, u]).kind)).setCell ⟨w3.heap.size, 1, none⟩ (.int .i64 (Tm.mk 3 0 (bs nm) [t, u]).n)).setCell ⟨w3.heap.size, 2, none⟩ (.string (Tm.mk 3 0 (bs nm) [t, u]).name)).setCell ⟨w3.heap.size, 3, none⟩ (.slice a9 (Tm.mk 3 0 (bs nm) [t, u]).kids.length c9)) := ⟨_, rfl⟩
            have fX : Fr (fun q => q = w3.heap.size) w9 wX := by rw [hwX]; exact put4_frw (M := fun q => q = w3.heap.size) w9 _ _ _ _ rfl
            have BX := Lib.hid (show BoxT wX w3.heap.size (.int .i64 (Tm.mk 3 0 (bs nm) [t, u]).kind) (.int .i64 (Tm.mk 3 0 (bs nm) [t, u]).n) (.string (Tm.mk 3 0 (bs nm) [t, u]).name) (.slice a9 (Tm.mk 3 0 (bs nm) [t, u]).kids.length c9) by rw [hwX]; exact (L7.out.ext E9.out).put4 _ _ _ _)
            rw [← hwX]
            have ZX := Lib.hid ((Z7.out.ext E9.out).fr fX (by omega))
            have s9 : w8.heap.size ≤ w9.heap.size := Below.size E9.out
            have hlt : ∀ b, ((((w.heap.size + 1 ≤ b ∧ b ≠ w3.heap.size)) ∨ b = w8.heap.size) ∨ (w8.alloc (.cells #[.int .i64 t.kind, .int .i64 t.n, .string t.name, .slice ta t.kids.length tc, .int .i64 u.kind, .int .i64 u.n, .string u.name, .slice ua u.kids.length uc] 26)).heap.size ≤ b) → w.heap.size + 1 ≤ b ∧ b ≠ w3.heap.size := fun b hb => by
              rcases hb with (hb | hb) | hb
              · exact hb
              · exact ⟨by omega, by omega⟩
              · simp at hb; exact ⟨by omega, by omega⟩
            have AX := Lib.hid (Tm.at_mono (S' := fun b => w.heap.size + 1 ≤ b ∧ b ≠ w3.heap.size) (fun q hq => hlt q hq) (Agree.refl _) (fX.at HV9.out (fun q hq e => (hlt q hq).2 e)))
            have EX := Lib.hid (((Fr.of_ext (M := fun q => q = w3.heap.size) (E7.out.trans E9.out)).trans fX).toExt (fun q hq h => by omega))
            clear hwX fX d0 d1 d2 d3 g0 g1 g2 g3 hlt
            by_cases h3 : L + 1 = 3
            · have hl3 : (lv == 3) = true := by have := HLV.out; simp only [beq_iff_eq]; omega
              have hl3' : lv = 3 := by simpa using hl3
              have HXN := Lib.hid (show X = some (sT (bs nm) [t, u], q7) by rw [← HXr.out]; exact loopS_three HO.out HLL.out hr h3)
              clear hr h3
              obtain ⟨z0, z1, z2, z3, y0, y1, y2, y3⟩ := ZX.out
              obtain ⟨x0, x1, x2, x3, _⟩ := BX.out
              have lz9 := ZX.out.lt
              go_wp2_with fail
              refine ret4b_set (p := 8) (q := 9) (T := 26) (b := w.heap.size) (y := .int .i64 (i7)) (by kernel_rfl) (fun _ => by kernel_rfl) (fun _ => by kernel_rfl) rfl rfl rfl ZX.out ?_
              intro Z fZ
              rw [HXN.out]
              exact ⟨.mk 3 0 (bs nm) [t, u], a9, c9, i7, rfl, Tm.at_mono (fun b hb => by have hb' : w.heap.size + 1 ≤ b ∧ b ≠ w3.heap.size := hb; show w.heap.size ≤ b; omega) (Agree.refl _) (fZ.at AX.out (fun b hb e => by have hb' : w.heap.size + 1 ≤ b ∧ b ≠ w3.heap.size := hb; omega)), ((Fr.of_ext EX.out).trans fZ).toExt (fun q hq h => by omega), A7.out, fun u r h => by cases h; rfl⟩
            · have hl3 : (lv == 3) = false := by have := HLV.out; simp only [beq_eq_false_iff_ne]; omega
              have hl3' : ¬ lv = 3 := by simpa using hl3
              have HXN := Lib.hid (show loopS G d L (sT (bs nm) [t, u]) q7 = X by rw [← HXr.out]; exact (loopS_more HO.out HLL.out hr h3).symm)
              clear hr h3
              go_wp2_with fail
              go_roundg (q7.length + 1)
              case measure => omega
              case rel =>
                exact ⟨.mk 3 0 (bs nm) [t, u], a9, c9, i7, q7, G, rfl, rfl, by omega, by omega, by omega, BX, ZX, AX, EX, A7, HXN⟩
        · have hl' : ((opLevelF (bs nm).toList) != lv) = true := by rw [bs_list]; simpa using hl
          have HXN := Lib.hid (show X = some (t, q) by rw [← HXr.out]; exact loopS_lev ho (by rw [← HLV.out]; exact hl))
          clear ho hnm
          go_wp2_with fail
          refine OP.out.mono ?_
          rintro e w4 ⟨i5, rfl, e5, _⟩
          have E4 := Lib.hid (HE.out.trans e5)
          have L4 := Lib.hid (LB.out.ext e5)
          have Z4 := Lib.hid (ZB.out.ext e5)
          have T4 := Lib.hid (Tm.at_ext e5 HA.out)
          clear e5
          go_wp2_with fail
          refine (LVC.out _).mono ?_
          rintro e w5 ⟨rfl, e5⟩
          have E5 := Lib.hid (E4.out.trans e5)
          have L5 := Lib.hid (L4.out.ext e5)
          have Z5 := Lib.hid (Z4.out.ext e5)
          have T5 := Lib.hid (Tm.at_ext e5 T4.out)
          clear e5
          have bm := L5.out
          obtain ⟨m0, m1, m2, m3, n0, n1, n2, n3⟩ := bm
          have lm9 := L5.out.lt
          have bz := Z5.out
          obtain ⟨z0, z1, z2, z3, y0, y1, y2, y3⟩ := bz
          have lz9 := Z5.out.lt
          go_wp2_with fail
          refine ret4b_set (p := 8) (q := 9) (T := 26) (b := w.heap.size) (y := .int .i64 (i)) (by kernel_rfl) (fun _ => by kernel_rfl) (fun _ => by kernel_rfl) rfl rfl rfl Z5.out ?_
          intro Z fZ
          rw [HXN.out]
          exact ⟨t, ta, tc, i, rfl, Tm.at_mono (fun b hb => by have hb' : w.heap.size + 1 ≤ b ∧ b ≠ w3.heap.size := hb; show w.heap.size ≤ b; omega) (Agree.refl _) (fZ.at T5.out (fun b hb e => by have hb' : w.heap.size + 1 ≤ b ∧ b ≠ w3.heap.size := hb; omega)), ((Fr.of_ext E5.out).trans fZ).toExt (fun q hq h => by omega), HAt.out, fun u r h => by cases h; rfl⟩
theorem rd_all : ∀ F : Nat, RdC F := by
  intro F
  induction F using Nat.strongRecOn with
  | _ F ih =>
    cases F with
    | zero => intro s rest i e L w _ _ _ _ hF; omega
    | succ F =>
      intro s rest i e L w hs he hL hat hF
      cases L with
      | zero => exact specl2Read0 F (specl2Terms F (fun G hG => ih G (by omega))) (ih F (by omega)) s rest i e w hs he hat (by omega)
      | succ L => exact specl2ReadS F (fun G hG => ih G (by omega)) s rest i e L w hs he (by omega) hat (by omega)
end Go.Proofs.YtognkaebiafgbaaGreat
