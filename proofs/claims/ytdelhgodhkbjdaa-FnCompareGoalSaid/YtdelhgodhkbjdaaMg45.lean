/-
  The reference's l5Solve: solving a goal that is built in.
-/
import Derived.Deep.CutBlock
import Derived.StillTailTactics
import Derived.Test.YtdelhgodhkbjdaaMg40
import Derived.Test.YtdelhgodhkbjdaaMg42
import Derived.Test.YtdelhgodhkbjdaaMg4
import Derived.Test.YtdelhgodhkbjdaaMg3
namespace Go.Proofs.Ytdelhgodhkbjdaa
open Go.RowKit
set_option linter.unusedVariables false

def CallK (S : Nat → Prop) (kb : Nat) (r : Int × List Tm) (w : World) (e : Ending) (w' : World) : Prop :=
  e = .returned (.int .i64 r.1) ∧ Fr (fun k => k = kb) w w' ∧ (r.1 = 0 → Kn S w' kb r.2)
theorem specl5Code (b : Bool) (w : World) : Calls Try.prog 81 #[.bool b] w fun e w' => e = .returned (.int .i64 (holdsN b)) ∧ w = w' := by
  cases b
  all_goals
    go_enter Try.func81, Try.ntmps81
    go_wp2_with fail
    go_ret
    exact ⟨rfl, rfl⟩
theorem sz_le120 {ks : List Tm} (h : Tm.szL ks ≤ 119) {i : Nat} {t : Tm} (ht : ks[i]? = some t) : Tm.sz t ≤ 120 := by
  have h1 := szL_add ht
  have h2 := szL_le2 ks (i + 1)
  omega

set_option maxRecDepth 100000 in
set_option maxHeartbeats 8000000 in
theorem specl5_true (n : Int) (s : ByteArray) (ks : List Tm) (v : Value) (S : Nat → Prop) (w : World) (kb : Nat) (hs : s.toList = [116, 114, 117, 101]) (hl : ks.length = 0) (hsh : shapeL ks 29 = true) (hsz : Tm.szL ks ≤ 119) (hB : ∀ b, S b → b < w.heap.size) (ht : Tm.at S w (.mk 3 n s ks) v) (hst : Kn S w kb known0) :
    Calls Try.prog 44 #[v, .slice (some ⟨kb, 0, none⟩) 26 26] w (CallK S kb (callR s.toList ks) w) := by
  have HF : Hid (callR s.toList ks = ((0 : Int), known0)) := Lib.hid (by unfold callR; rw [hs]; simp)
  have HB := Lib.hid hB
  have HT := Lib.hid ht
  have HST := Lib.hid hst
  have HSH := Lib.hid hsh
  have HSZ := Lib.hid hsz
  have lkb := hst.lt
  have HL := Lib.hid hl
  have HKB := Lib.hid hst.1
  obtain ⟨hs1, sv, rfl, a, c, rfl, h1, h2, h3, h4⟩ := Tm.at_iff.1 ht
  have H4 := Lib.hid h4
  simp only [Tm.kind, Tm.n, Tm.name, Tm.kids] at HT H4 ⊢
  clear hB ht hst hsh h4 h1 h2 h3 hl hsz
  go_enter Try.func44, Try.ntmps44
  go_upto_region 1 with (fail)
  obtain ⟨w2, hw2⟩ : ∃ z, z = w.alloc (.cells #[.int .i64 3, .int .i64 n, .string s, .slice a ks.length c] 25) := ⟨_, rfl⟩
  have E2 : Hid (Ext w w2) := Lib.hid (by rw [hw2]; exact Ext.alloc _ _)
  have X2 : Hid (BoxT w2 w.heap.size (.int .i64 3) (.int .i64 n) (.string s) (.slice a ks.length c)) := Lib.hid (by rw [hw2]; exact BoxT.new _ _ _ _ _ _ rfl)
  rw [← hw2]
  clear hw2
  have ST2 := Lib.hid (HST.out.ext E2.out)
  obtain ⟨x0, x1, x2, x3, _, _, _, _⟩ := X2.out
  have lx2 := X2.out.lt
  go_wp2_with fail
  go_ret
  exact ⟨by rw [HF.out]; rfl, Fr.of_ext E2.out, fun _ => by rw [HF.out]; exact ST2.out⟩

set_option maxRecDepth 100000 in
set_option maxHeartbeats 8000000 in
theorem specl5_fail (n : Int) (s : ByteArray) (ks : List Tm) (v : Value) (S : Nat → Prop) (w : World) (kb : Nat) (hs : s.toList = [102, 97, 105, 108]) (hl : ks.length = 0) (hsh : shapeL ks 29 = true) (hsz : Tm.szL ks ≤ 119) (hB : ∀ b, S b → b < w.heap.size) (ht : Tm.at S w (.mk 3 n s ks) v) (hst : Kn S w kb known0) :
    Calls Try.prog 44 #[v, .slice (some ⟨kb, 0, none⟩) 26 26] w (CallK S kb (callR s.toList ks) w) := by
  have HF : Hid (callR s.toList ks = ((1 : Int), known0)) := Lib.hid (by unfold callR; rw [hs]; simp)
  have HB := Lib.hid hB
  have HT := Lib.hid ht
  have HST := Lib.hid hst
  have HSH := Lib.hid hsh
  have HSZ := Lib.hid hsz
  have lkb := hst.lt
  have HL := Lib.hid hl
  have HKB := Lib.hid hst.1
  obtain ⟨hs1, sv, rfl, a, c, rfl, h1, h2, h3, h4⟩ := Tm.at_iff.1 ht
  have H4 := Lib.hid h4
  simp only [Tm.kind, Tm.n, Tm.name, Tm.kids] at HT H4 ⊢
  clear hB ht hst hsh h4 h1 h2 h3 hl hsz
  go_enter Try.func44, Try.ntmps44
  go_upto_region 1 with (fail)
  obtain ⟨w2, hw2⟩ : ∃ z, z = w.alloc (.cells #[.int .i64 3, .int .i64 n, .string s, .slice a ks.length c] 25) := ⟨_, rfl⟩
  have E2 : Hid (Ext w w2) := Lib.hid (by rw [hw2]; exact Ext.alloc _ _)
  have X2 : Hid (BoxT w2 w.heap.size (.int .i64 3) (.int .i64 n) (.string s) (.slice a ks.length c)) := Lib.hid (by rw [hw2]; exact BoxT.new _ _ _ _ _ _ rfl)
  rw [← hw2]
  clear hw2
  have ST2 := Lib.hid (HST.out.ext E2.out)
  obtain ⟨x0, x1, x2, x3, _, _, _, _⟩ := X2.out
  have lx2 := X2.out.lt
  go_wp2_with fail
  go_ret
  exact ⟨by rw [HF.out]; rfl, Fr.of_ext E2.out, fun _ => by rw [HF.out]; exact ST2.out⟩

set_option maxRecDepth 100000 in
set_option maxHeartbeats 8000000 in
theorem specl5_eq (n : Int) (s : ByteArray) (ks : List Tm) (v : Value) (S : Nat → Prop) (w : World) (kb : Nat) (hs : s.toList = [61]) (hl : ks.length = 2) (hsh : shapeL ks 29 = true) (hsz : Tm.szL ks ≤ 119) (hB : ∀ b, S b → b < w.heap.size) (ht : Tm.at S w (.mk 3 n s ks) v) (hst : Kn S w kb known0) :
    Calls Try.prog 44 #[v, .slice (some ⟨kb, 0, none⟩) 26 26] w (CallK S kb (callR s.toList ks) w) := by
  have HF : Hid (callR s.toList ks = (holdsN (uniR (kidAt ks 0) (kidAt ks 1)).1, (uniR (kidAt ks 0) (kidAt ks 1)).2)) := Lib.hid (by unfold callR; rw [hs]; simp)
  have HB := Lib.hid hB
  have HT := Lib.hid ht
  have HST := Lib.hid hst
  have HSH := Lib.hid hsh
  have HSZ := Lib.hid hsz
  have lkb := hst.lt
  have HL := Lib.hid hl
  have HKB := Lib.hid hst.1
  obtain ⟨hs1, sv, rfl, a, c, rfl, h1, h2, h3, h4⟩ := Tm.at_iff.1 ht
  have H4 := Lib.hid h4
  simp only [Tm.kind, Tm.n, Tm.name, Tm.kids] at HT H4 ⊢
  clear hB ht hst hsh h4 h1 h2 h3 hl hsz
  go_enter Try.func44, Try.ntmps44
  go_upto_region 1 with (fail)
  obtain ⟨w2, hw2⟩ : ∃ z, z = w.alloc (.cells #[.int .i64 3, .int .i64 n, .string s, .slice a ks.length c] 25) := ⟨_, rfl⟩
  have E2 : Hid (Ext w w2) := Lib.hid (by rw [hw2]; exact Ext.alloc _ _)
  have X2 : Hid (BoxT w2 w.heap.size (.int .i64 3) (.int .i64 n) (.string s) (.slice a ks.length c)) := Lib.hid (by rw [hw2]; exact BoxT.new _ _ _ _ _ _ rfl)
  rw [← hw2]
  clear hw2
  have ST2 := Lib.hid (HST.out.ext E2.out)
  obtain ⟨x0, x1, x2, x3, _, _, _, _⟩ := X2.out
  have lx2 := X2.out.lt
  have hk0 : 0 < ks.length := by have := HL.out; omega
  obtain ⟨b, off, a0, c0, rfl, hSb0, l0, l1, l2, l3, hat0, hg0⟩ := kids1 H4.out hk0
  simp only [Nat.zero_mul, Nat.add_zero] at l0 l1 l2 l3
  have l0 := E2.out.cell l0
  have l1 := E2.out.cell l1
  have l2 := E2.out.cell l2
  have l3 := E2.out.cell l3
  have HA0 := Lib.hid (Tm.at_ext E2.out hat0)
  have SH0 := Lib.hid (shapeL_mem HSH.out (List.mem_of_getElem? hg0))
  have SZ0 := Lib.hid (sz_le120 HSZ.out hg0)
  clear hat0 hg0
  obtain ⟨t0, ht0⟩ : ∃ t, kidAt ks 0 = t := ⟨_, rfl⟩
  rw [ht0] at l0 l1 l2 l3 HA0 SH0 SZ0 HF
  clear ht0
  have hk1 : 1 < ks.length := by have := HL.out; omega
  obtain ⟨b1, off1, a1, c1, e1, hSb1, m0, m1, m2, m3, hat1, hg1⟩ := kids1 H4.out hk1
  cases e1
  simp only [Nat.one_mul] at m0 m1 m2 m3
  have hk1i : (1 : Int) < (ks.length : Int) := by omega
  have m0 := E2.out.cell m0
  have m1 := E2.out.cell m1
  have m2 := E2.out.cell m2
  have m3 := E2.out.cell m3
  have HA1 := Lib.hid (Tm.at_ext E2.out hat1)
  have SH1 := Lib.hid (shapeL_mem HSH.out (List.mem_of_getElem? hg1))
  have SZ1 := Lib.hid (sz_le120 HSZ.out hg1)
  clear hat1 hg1
  obtain ⟨t1, ht1⟩ : ∃ t, kidAt ks 1 = t := ⟨_, rfl⟩
  rw [ht1] at m0 m1 m2 m3 HA1 SH1 SZ1 HF
  clear ht1
  obtain ⟨f, hf⟩ := uniR_spec SH0.out SH1.out
  obtain ⟨cc, K, hr⟩ : ∃ c K, uniR t0 t1 = (c, K) := ⟨_, _, rfl⟩
  rw [hr] at hf HF
  have HU := Lib.hid hf
  clear hf hr
  have l0d : w2.drew.cell? _ = _ := l0
  have l1d : w2.drew.cell? _ = _ := l1
  have l2d : w2.drew.cell? _ = _ := l2
  have l3d : w2.drew.cell? _ = _ := l3
  have m0d : w2.drew.cell? _ = _ := m0
  have m1d : w2.drew.cell? _ = _ := m1
  have m2d : w2.drew.cell? _ = _ := m2
  have m3d : w2.drew.cell? _ = _ := m3
  have x0d : w2.drew.cell? _ = _ := x0
  have x1d : w2.drew.cell? _ = _ := x1
  have x2d : w2.drew.cell? _ = _ := x2
  have x3d : w2.drew.cell? _ = _ := x3
  have lx2d : w.heap.size < w2.drew.heap.size := lx2
  have HB2 : Hid (∀ b, S b → b < w2.drew.heap.size) := Lib.hid (fun b h => by have h1 : w2.drew.heap.size = w2.heap.size := rfl; have := HB.out b h; have := Below.size E2.out; omega)
  have WD := Lib.hid (ST2.out.ext (Ext.drew w2))
  go_wp2_with fail
  go_still_tail 9, (by kernel_rfl)
  change wpList _ _ _ _ _ w2.drew
  go_wp2_with fail
  refine (specl3Unify f known0 t0 t1 cc K 29 29 HU.out vk0 rk0 szk0 SH0.out SH1.out SZ0.out SZ1.out _ _ S _ kb 26 HB2.out (Tm.at_ext (Ext.drew _) HA0.out) (Tm.at_ext (Ext.drew _) HA1.out) WD.out ⟨by omega, by omega⟩).mono ?_
  rintro e3 w3 ⟨rfl, hk3, f3⟩
  have K3 := Lib.hid hk3
  have F3 := Lib.hid ((Fr.of_ext (E2.out.trans (Ext.drew _))).trans f3)
  clear hk3 f3
  go_wp2_with fail
  refine (specl5Code _ _).mono ?_
  rintro e4 w4 ⟨rfl, rfl⟩
  go_wp2_with fail
  go_ret
  exact ⟨by rw [HF.out]; rfl, F3.out, fun _ => by rw [HF.out]; exact K3.out⟩

set_option maxRecDepth 100000 in
set_option maxHeartbeats 8000000 in
theorem specl5_same (n : Int) (s : ByteArray) (ks : List Tm) (v : Value) (S : Nat → Prop) (w : World) (kb : Nat) (hs : s.toList = [61, 61]) (hl : ks.length = 2) (hsh : shapeL ks 29 = true) (hsz : Tm.szL ks ≤ 119) (hB : ∀ b, S b → b < w.heap.size) (ht : Tm.at S w (.mk 3 n s ks) v) (hst : Kn S w kb known0) :
    Calls Try.prog 44 #[v, .slice (some ⟨kb, 0, none⟩) 26 26] w (CallK S kb (callR s.toList ks) w) := by
  have HF : Hid (callR s.toList ks = (holdsN (Tm.same (kidAt ks 0) (kidAt ks 1)), known0)) := Lib.hid (by unfold callR; rw [hs]; simp)
  have HB := Lib.hid hB
  have HT := Lib.hid ht
  have HST := Lib.hid hst
  have HSH := Lib.hid hsh
  have HSZ := Lib.hid hsz
  have lkb := hst.lt
  have HL := Lib.hid hl
  have HKB := Lib.hid hst.1
  obtain ⟨hs1, sv, rfl, a, c, rfl, h1, h2, h3, h4⟩ := Tm.at_iff.1 ht
  have H4 := Lib.hid h4
  simp only [Tm.kind, Tm.n, Tm.name, Tm.kids] at HT H4 ⊢
  clear hB ht hst hsh h4 h1 h2 h3 hl hsz
  go_enter Try.func44, Try.ntmps44
  go_upto_region 1 with (fail)
  obtain ⟨w2, hw2⟩ : ∃ z, z = w.alloc (.cells #[.int .i64 3, .int .i64 n, .string s, .slice a ks.length c] 25) := ⟨_, rfl⟩
  have E2 : Hid (Ext w w2) := Lib.hid (by rw [hw2]; exact Ext.alloc _ _)
  have X2 : Hid (BoxT w2 w.heap.size (.int .i64 3) (.int .i64 n) (.string s) (.slice a ks.length c)) := Lib.hid (by rw [hw2]; exact BoxT.new _ _ _ _ _ _ rfl)
  rw [← hw2]
  clear hw2
  have ST2 := Lib.hid (HST.out.ext E2.out)
  obtain ⟨x0, x1, x2, x3, _, _, _, _⟩ := X2.out
  have lx2 := X2.out.lt
  have hk0 : 0 < ks.length := by have := HL.out; omega
  obtain ⟨b, off, a0, c0, rfl, hSb0, l0, l1, l2, l3, hat0, hg0⟩ := kids1 H4.out hk0
  simp only [Nat.zero_mul, Nat.add_zero] at l0 l1 l2 l3
  have l0 := E2.out.cell l0
  have l1 := E2.out.cell l1
  have l2 := E2.out.cell l2
  have l3 := E2.out.cell l3
  have HA0 := Lib.hid (Tm.at_ext E2.out hat0)
  have SH0 := Lib.hid (shapeL_mem HSH.out (List.mem_of_getElem? hg0))
  have SZ0 := Lib.hid (sz_le120 HSZ.out hg0)
  clear hat0 hg0
  obtain ⟨t0, ht0⟩ : ∃ t, kidAt ks 0 = t := ⟨_, rfl⟩
  rw [ht0] at l0 l1 l2 l3 HA0 SH0 SZ0 HF
  clear ht0
  have hk1 : 1 < ks.length := by have := HL.out; omega
  obtain ⟨b1, off1, a1, c1, e1, hSb1, m0, m1, m2, m3, hat1, hg1⟩ := kids1 H4.out hk1
  cases e1
  simp only [Nat.one_mul] at m0 m1 m2 m3
  have hk1i : (1 : Int) < (ks.length : Int) := by omega
  have m0 := E2.out.cell m0
  have m1 := E2.out.cell m1
  have m2 := E2.out.cell m2
  have m3 := E2.out.cell m3
  have HA1 := Lib.hid (Tm.at_ext E2.out hat1)
  have SH1 := Lib.hid (shapeL_mem HSH.out (List.mem_of_getElem? hg1))
  have SZ1 := Lib.hid (sz_le120 HSZ.out hg1)
  clear hat1 hg1
  obtain ⟨t1, ht1⟩ : ∃ t, kidAt ks 1 = t := ⟨_, rfl⟩
  rw [ht1] at m0 m1 m2 m3 HA1 SH1 SZ1 HF
  clear ht1
  have l0d : w2.drew.cell? _ = _ := l0
  have l1d : w2.drew.cell? _ = _ := l1
  have l2d : w2.drew.cell? _ = _ := l2
  have l3d : w2.drew.cell? _ = _ := l3
  have m0d : w2.drew.cell? _ = _ := m0
  have m1d : w2.drew.cell? _ = _ := m1
  have m2d : w2.drew.cell? _ = _ := m2
  have m3d : w2.drew.cell? _ = _ := m3
  have x0d : w2.drew.cell? _ = _ := x0
  have x1d : w2.drew.cell? _ = _ := x1
  have x2d : w2.drew.cell? _ = _ := x2
  have x3d : w2.drew.cell? _ = _ := x3
  have lx2d : w.heap.size < w2.drew.heap.size := lx2
  go_wp2_with fail
  go_still_tail 8, (by kernel_rfl)
  change wpList _ _ _ _ _ w2.drew
  go_wp2_with fail
  refine (specTermSame _ t0 t1 _ _ S S _ (Nat.le_refl _) (Tm.at_ext (Ext.drew _) HA0.out) (Tm.at_ext (Ext.drew _) HA1.out)).mono ?_
  obtain ⟨bb, hbb⟩ : ∃ b, Tm.same t0 t1 = b := ⟨_, rfl⟩
  rw [hbb] at HF ⊢
  rintro e3 w3 ⟨rfl, e3⟩
  have E3 := Lib.hid ((E2.out.trans (Ext.drew _)).trans e3)
  clear hbb e3
  go_wp2_with fail
  refine (specl5Code _ _).mono ?_
  rintro e4 w4 ⟨rfl, rfl⟩
  go_wp2_with fail
  go_ret
  exact ⟨by rw [HF.out]; rfl, Fr.of_ext E3.out, fun _ => by rw [HF.out]; exact HST.out.ext E3.out⟩

end Go.Proofs.Ytdelhgodhkbjdaa
