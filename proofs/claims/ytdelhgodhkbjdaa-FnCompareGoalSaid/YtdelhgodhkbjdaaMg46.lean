/-
  The reference's l5Solve: tests, comparisons.
-/
import Derived.Test.YtdelhgodhkbjdaaMg45
namespace Go.Proofs.Ytdelhgodhkbjdaa
open Go.RowKit
set_option linter.unusedVariables false

theorem specl5Holds (s : ByteArray) (a b : Int) (w : World) (hs : s.toList = [60] ∨ s.toList = [62] ∨ s.toList = [61, 60] ∨ s.toList = [62, 61] ∨ s.toList = [61, 58, 61]) : Calls Try.prog 102 #[.string s, .int .i64 a, .int .i64 b] w fun e w' => e = .returned (.bool (cmpN s.toList a b)) ∧ w = w' := by
  rcases hs with hs | hs | hs | hs | hs
  all_goals
    go_enter Try.func102, Try.ntmps102
    go_wp2_with fail
    go_ret
    exact ⟨by first | rfl | (simp [cmpN, hs]; done) | simp [cmpN], rfl⟩
set_option maxRecDepth 100000 in
set_option maxHeartbeats 8000000 in
theorem specl5Compare (n : Int) (s : ByteArray) (ks : List Tm) (v : Value) (S : Nat → Prop) (w : World) (hs : s.toList = [60] ∨ s.toList = [62] ∨ s.toList = [61, 60] ∨ s.toList = [62, 61] ∨ s.toList = [61, 58, 61]) (hl : ks.length = 2) (hsh : shapeL ks 29 = true) (ht : Tm.at S w (.mk 3 n s ks) v) :
    Calls Try.prog 84 #[v] w fun e w' => e = .returned (.int .i64 (cmpR s.toList (kidAt ks 0) (kidAt ks 1))) ∧ Ext w w' := by
  have HT := Lib.hid ht
  have HSH := Lib.hid hsh
  have HL := Lib.hid hl
  have HS := Lib.hid hs
  obtain ⟨hs1, sv, rfl, a, c, rfl, h1, h2, h3, h4⟩ := Tm.at_iff.1 ht
  have H4 := Lib.hid h4
  simp only [Tm.kind, Tm.n, Tm.name, Tm.kids] at HT H4 ⊢
  clear ht hsh h4 h1 h2 h3 hl hs
  have hk0 : 0 < ks.length := by have := HL.out; omega
  have hk1 : 1 < ks.length := by have := HL.out; omega
  have hk1i : (1 : Int) < (ks.length : Int) := by omega
  obtain ⟨b, off, a0, c0, rfl, hSb0, l0, l1, l2, l3, hat0, hg0⟩ := kids1 H4.out hk0
  obtain ⟨b1, off1, a1, c1, e1, hSb1, m0, m1, m2, m3, hat1, hg1⟩ := kids1 H4.out hk1
  cases e1
  simp only [Nat.zero_mul, Nat.add_zero] at l0 l1 l2 l3
  simp only [Nat.one_mul] at m0 m1 m2 m3
  have SH0 := Lib.hid (shapeL_mem HSH.out (List.mem_of_getElem? hg0))
  have SH1 := Lib.hid (shapeL_mem HSH.out (List.mem_of_getElem? hg1))
  obtain ⟨t0, ht0⟩ : ∃ t, kidAt ks 0 = t := ⟨_, rfl⟩
  obtain ⟨t1, ht1⟩ : ∃ t, kidAt ks 1 = t := ⟨_, rfl⟩
  rw [ht0] at l0 l1 l2 l3 hat0 SH0 ⊢
  rw [ht1] at m0 m1 m2 m3 hat1 SH1 ⊢
  have AR0 : Hid (∀ w' (e' : Ext w w'), Calls Try.prog 55 #[val4 t0 a0 c0] w' (ArOut (arF t0) w')) := Lib.hid (fun w' e' => specl5Arith _ t0 (Nat.le_refl _) _ S w' 29 SH0.out (Tm.at_ext e' hat0))
  have AR1 : Hid (∀ w' (e' : Ext w w'), Calls Try.prog 55 #[val4 t1 a1 c1] w' (ArOut (arF t1) w')) := Lib.hid (fun w' e' => specl5Arith _ t1 (Nat.le_refl _) _ S w' 29 SH1.out (Tm.at_ext e' hat1))
  obtain ⟨⟨x, cx⟩, hx⟩ : ∃ p, arF t0 = p := ⟨_, rfl⟩
  obtain ⟨⟨y, cy⟩, hy⟩ : ∃ p, arF t1 = p := ⟨_, rfl⟩
  have HF : Hid (cmpR s.toList t0 t1 = if cx ≠ 0 then cx else if cy ≠ 0 then cy else holdsN (cmpN s.toList x y)) := Lib.hid (by unfold cmpR; rw [hx, hy])
  rw [hx] at AR0
  rw [hy] at AR1
  have BX : Hid (-999 ≤ x ∧ x ≤ 999 ∧ -999 ≤ y ∧ y ≤ 999) := Lib.hid (by have h1 := ar_bd t0 _ SH0.out; have h2 := ar_bd t1 _ SH1.out; rw [hx] at h1; rw [hy] at h2; exact ⟨h1.1, h1.2, h2.1, h2.2⟩)
  have hbw := block_lt_of_cell l0
  simp only at hbw
  clear hx hy hat0 hat1 hg0 hg1 ht0 ht1
  go_enter Try.func84, Try.ntmps84
  go_wp2_with fail
  refine (AR0.out _ (Ext.alloc _ _)).mono ?_
  rintro e w2 ⟨rfl, e2⟩
  have X2 := Lib.hid ((BoxT.new w (.int .i64 3) (.int .i64 n) (.string s) (.slice (some ⟨b, off, none⟩) ks.length c) 25 rfl).ext e2)
  have E2 := Lib.hid ((Ext.alloc w _).trans e2)
  have m0 := E2.out.cell m0
  have m1 := E2.out.cell m1
  have m2 := E2.out.cell m2
  have m3 := E2.out.cell m3
  clear e2 l0 l1 l2 l3
  obtain ⟨x0, x1, x2, x3, _, _, _, _⟩ := X2.out
  by_cases hc : cx = 0
  · subst hc
    have hcn : ((0 : Int) != 0) = false := rfl
    go_wp2_with fail
    refine (AR1.out _ E2.out).mono ?_
    rintro e w3 ⟨rfl, e3⟩
    have X3 := Lib.hid (X2.out.ext e3)
    have E3 := Lib.hid (E2.out.trans e3)
    clear e3 m0 m1 m2 m3 x0 x1 x2 x3
    obtain ⟨x0, x1, x2, x3, _, _, _, _⟩ := X3.out
    by_cases hd : cy = 0
    · subst hd
      have HF2 : Hid (cmpR s.toList t0 t1 = holdsN (cmpN s.toList x y)) := Lib.hid (by rw [HF.out]; rfl)
      obtain ⟨b0, b1, b2, b3⟩ := BX.out
      go_wp2_with fail
      refine (specl5Holds s x y _ HS.out).mono ?_
      rintro e4 w4 ⟨rfl, rfl⟩
      go_wp2_with fail
      refine (specl5Code _ _).mono ?_
      rintro e4 w4 ⟨rfl, rfl⟩
      go_wp2_with fail
      go_ret
      exact ⟨by rw [HF2.out]; rfl, E3.out⟩
    · have hdn : (cy != 0) = true := by simpa using hd
      have HF2 : Hid (cmpR s.toList t0 t1 = cy) := Lib.hid (by rw [HF.out, if_neg (by simp), if_pos hd])
      clear hd
      go_wp2_with fail
      go_ret
      exact ⟨by rw [HF2.out]; rfl, E3.out⟩
  · have hcn : (cx != 0) = true := by simpa using hc
    have HF2 : Hid (cmpR s.toList t0 t1 = cx) := Lib.hid (by rw [HF.out, if_pos hc])
    clear hc
    go_wp2_with fail
    go_ret
    exact ⟨by rw [HF2.out]; rfl, E2.out⟩

set_option maxRecDepth 100000 in
set_option maxHeartbeats 2000000 in
theorem specl5Test_var (n : Int) (s : ByteArray) (ks : List Tm) (v : Value) (S : Nat → Prop) (w : World) (hs : s.toList = [118, 97, 114]) (hl : ks.length = 1) (ht : Tm.at S w (.mk 3 n s ks) v) :
    Calls Try.prog 85 #[v] w fun e w' => e = .returned (.int .i64 (holdsN ((kidAt ks 0).kind == 1))) ∧ Ext w w' := by
  have HL := Lib.hid hl
  obtain ⟨bb, hbb⟩ : ∃ x, ((kidAt ks 0).kind == 1) = x := ⟨_, rfl⟩
  rw [hbb]
  have HBB := Lib.hid hbb
  clear hbb
  obtain ⟨hs1, sv, rfl, a, c, rfl, h1, h2, h3, h4⟩ := Tm.at_iff.1 ht
  have H4 := Lib.hid h4
  simp only [Tm.kind, Tm.n, Tm.name, Tm.kids] at H4 ⊢
  clear ht h4 h1 h2 h3 hl
  have hk0 : 0 < ks.length := by have := HL.out; omega
  obtain ⟨b, off, a0, c0, rfl, hSb0, l0, l1, l2, l3, hat0, hg0⟩ := kids1 H4.out hk0
  simp only [Nat.zero_mul, Nat.add_zero] at l0 l1 l2 l3
  have hbw := block_lt_of_cell l0
  simp only at hbw
  obtain ⟨t0, ht0⟩ : ∃ t, kidAt ks 0 = t := ⟨_, rfl⟩
  rw [ht0] at l0 l1 l2 l3 HBB
  clear hat0 hg0 ht0
  have hbb := HBB.out
  go_enter Try.func85, Try.ntmps85
  go_wp2_with fail
  refine (specl5Code _ _).mono ?_
  rintro e4 w4 ⟨rfl, rfl⟩
  go_wp2_with fail
  go_ret
  exact ⟨rfl, (Ext.alloc _ _).trans (Ext.alloc _ _)⟩

set_option maxRecDepth 100000 in
set_option maxHeartbeats 8000000 in
theorem specl5_var (n : Int) (s : ByteArray) (ks : List Tm) (v : Value) (S : Nat → Prop) (w : World) (kb : Nat) (hs : s.toList = [118, 97, 114]) (hl : ks.length = 1) (hsh : shapeL ks 29 = true) (hsz : Tm.szL ks ≤ 119) (hB : ∀ b, S b → b < w.heap.size) (ht : Tm.at S w (.mk 3 n s ks) v) (hst : Kn S w kb known0) :
    Calls Try.prog 44 #[v, .slice (some ⟨kb, 0, none⟩) 26 26] w (CallK S kb (callR s.toList ks) w) := by
  have HF : Hid (callR s.toList ks = (holdsN ((kidAt ks 0).kind == 1), known0)) := Lib.hid (by unfold callR; rw [hs]; simp)
  have HB := Lib.hid hB
  have HT := Lib.hid ht
  have HST := Lib.hid hst
  have HSH := Lib.hid hsh
  have HSZ := Lib.hid hsz
  have lkb := hst.lt
  have HL := Lib.hid hl
  have HKB := Lib.hid hst.1
  obtain ⟨hs1, sv, rfl, a, c, rfl, h1, h2, h3, h4⟩ := Tm.at_iff.1 ht
  have H4 := Lib.hid h4
  simp only [Tm.kind, Tm.n, Tm.name, Tm.kids] at HT H4 ⊢
  clear hB ht hst hsh h4 h1 h2 h3 hl hsz
  go_enter Try.func44, Try.ntmps44
  go_upto_region 1 with (fail)
  obtain ⟨w2, hw2⟩ : ∃ z, z = w.alloc (.cells #[.int .i64 3, .int .i64 n, .string s, .slice a ks.length c] 25) := ⟨_, rfl⟩
  have E2 : Hid (Ext w w2) := Lib.hid (by rw [hw2]; exact Ext.alloc _ _)
  have X2 : Hid (BoxT w2 w.heap.size (.int .i64 3) (.int .i64 n) (.string s) (.slice a ks.length c)) := Lib.hid (by rw [hw2]; exact BoxT.new _ _ _ _ _ _ rfl)
  rw [← hw2]
  clear hw2
  have ST2 := Lib.hid (HST.out.ext E2.out)
  obtain ⟨x0, x1, x2, x3, _, _, _, _⟩ := X2.out
  have lx2 := X2.out.lt
  have CP := Lib.hid (fun (h : ks.length = 1) => specl5Test_var n s ks _ S w2 hs h (Tm.at_ext E2.out HT.out))
  have hcm : ∀ w', Calls Try.prog 51 #[.string s] w' fun e w'' => e = .returned (.bool (hasF five s)) ∧ Ext w' w'' := fun w' => (specl5Compares s w').mono (fun e w'' h => ⟨h.1, by first | exact h.2 | (rw [← h.2]; exact Ext.refl _)⟩)
  have hF5 : hasF five s = false := by unfold hasF five; simp [hs]
  rw [hF5] at hcm
  have HCM := Lib.hid hcm
  clear hcm hF5
  go_wp2_with fail
  refine (HCM.out _).mono ?_
  rintro e3 w3 ⟨rfl, e3⟩
  have X3 := Lib.hid (X2.out.ext e3)
  have E3 := Lib.hid (E2.out.trans e3)
  have HT3 := Lib.hid (Tm.at_ext E3.out HT.out)
  clear e3 x0 x1 x2 x3 CP
  obtain ⟨x0, x1, x2, x3, _, _, _, _⟩ := X3.out
  go_wp2_with fail
  refine (specl5Test_var n s ks _ S w3 hs HL.out HT3.out).mono ?_
  rintro e4 w4 ⟨rfl, e4⟩
  have E4 := Lib.hid (E3.out.trans e4)
  clear e4
  go_wp2_with fail
  go_ret
  exact ⟨by rw [HF.out]; rfl, Fr.of_ext E4.out, fun _ => by rw [HF.out]; exact HST.out.ext E4.out⟩

set_option maxRecDepth 100000 in
set_option maxHeartbeats 2000000 in
theorem specl5Test_nonvar (n : Int) (s : ByteArray) (ks : List Tm) (v : Value) (S : Nat → Prop) (w : World) (hs : s.toList = [110, 111, 110, 118, 97, 114]) (hl : ks.length = 1) (ht : Tm.at S w (.mk 3 n s ks) v) :
    Calls Try.prog 85 #[v] w fun e w' => e = .returned (.int .i64 (holdsN ((kidAt ks 0).kind != 1))) ∧ Ext w w' := by
  have HL := Lib.hid hl
  obtain ⟨bb, hbb⟩ : ∃ x, ((kidAt ks 0).kind != 1) = x := ⟨_, rfl⟩
  rw [hbb]
  have HBB := Lib.hid hbb
  clear hbb
  obtain ⟨hs1, sv, rfl, a, c, rfl, h1, h2, h3, h4⟩ := Tm.at_iff.1 ht
  have H4 := Lib.hid h4
  simp only [Tm.kind, Tm.n, Tm.name, Tm.kids] at H4 ⊢
  clear ht h4 h1 h2 h3 hl
  have hk0 : 0 < ks.length := by have := HL.out; omega
  obtain ⟨b, off, a0, c0, rfl, hSb0, l0, l1, l2, l3, hat0, hg0⟩ := kids1 H4.out hk0
  simp only [Nat.zero_mul, Nat.add_zero] at l0 l1 l2 l3
  have hbw := block_lt_of_cell l0
  simp only at hbw
  obtain ⟨t0, ht0⟩ : ∃ t, kidAt ks 0 = t := ⟨_, rfl⟩
  rw [ht0] at l0 l1 l2 l3 HBB
  clear hat0 hg0 ht0
  have hbb := HBB.out
  go_enter Try.func85, Try.ntmps85
  go_wp2_with fail
  refine (specl5Code _ _).mono ?_
  rintro e4 w4 ⟨rfl, rfl⟩
  go_wp2_with fail
  go_ret
  exact ⟨rfl, (Ext.alloc _ _).trans (Ext.alloc _ _)⟩

set_option maxRecDepth 100000 in
set_option maxHeartbeats 8000000 in
theorem specl5_nonvar (n : Int) (s : ByteArray) (ks : List Tm) (v : Value) (S : Nat → Prop) (w : World) (kb : Nat) (hs : s.toList = [110, 111, 110, 118, 97, 114]) (hl : ks.length = 1) (hsh : shapeL ks 29 = true) (hsz : Tm.szL ks ≤ 119) (hB : ∀ b, S b → b < w.heap.size) (ht : Tm.at S w (.mk 3 n s ks) v) (hst : Kn S w kb known0) :
    Calls Try.prog 44 #[v, .slice (some ⟨kb, 0, none⟩) 26 26] w (CallK S kb (callR s.toList ks) w) := by
  have HF : Hid (callR s.toList ks = (holdsN ((kidAt ks 0).kind != 1), known0)) := Lib.hid (by unfold callR; rw [hs]; simp)
  have HB := Lib.hid hB
  have HT := Lib.hid ht
  have HST := Lib.hid hst
  have HSH := Lib.hid hsh
  have HSZ := Lib.hid hsz
  have lkb := hst.lt
  have HL := Lib.hid hl
  have HKB := Lib.hid hst.1
  obtain ⟨hs1, sv, rfl, a, c, rfl, h1, h2, h3, h4⟩ := Tm.at_iff.1 ht
  have H4 := Lib.hid h4
  simp only [Tm.kind, Tm.n, Tm.name, Tm.kids] at HT H4 ⊢
  clear hB ht hst hsh h4 h1 h2 h3 hl hsz
  go_enter Try.func44, Try.ntmps44
  go_upto_region 1 with (fail)
  obtain ⟨w2, hw2⟩ : ∃ z, z = w.alloc (.cells #[.int .i64 3, .int .i64 n, .string s, .slice a ks.length c] 25) := ⟨_, rfl⟩
  have E2 : Hid (Ext w w2) := Lib.hid (by rw [hw2]; exact Ext.alloc _ _)
  have X2 : Hid (BoxT w2 w.heap.size (.int .i64 3) (.int .i64 n) (.string s) (.slice a ks.length c)) := Lib.hid (by rw [hw2]; exact BoxT.new _ _ _ _ _ _ rfl)
  rw [← hw2]
  clear hw2
  have ST2 := Lib.hid (HST.out.ext E2.out)
  obtain ⟨x0, x1, x2, x3, _, _, _, _⟩ := X2.out
  have lx2 := X2.out.lt
  have CP := Lib.hid (fun (h : ks.length = 1) => specl5Test_nonvar n s ks _ S w2 hs h (Tm.at_ext E2.out HT.out))
  have hcm : ∀ w', Calls Try.prog 51 #[.string s] w' fun e w'' => e = .returned (.bool (hasF five s)) ∧ Ext w' w'' := fun w' => (specl5Compares s w').mono (fun e w'' h => ⟨h.1, by first | exact h.2 | (rw [← h.2]; exact Ext.refl _)⟩)
  have hF5 : hasF five s = false := by unfold hasF five; simp [hs]
  rw [hF5] at hcm
  have HCM := Lib.hid hcm
  clear hcm hF5
  go_wp2_with fail
  refine (HCM.out _).mono ?_
  rintro e3 w3 ⟨rfl, e3⟩
  have X3 := Lib.hid (X2.out.ext e3)
  have E3 := Lib.hid (E2.out.trans e3)
  have HT3 := Lib.hid (Tm.at_ext E3.out HT.out)
  clear e3 x0 x1 x2 x3 CP
  obtain ⟨x0, x1, x2, x3, _, _, _, _⟩ := X3.out
  go_wp2_with fail
  refine (specl5Test_nonvar n s ks _ S w3 hs HL.out HT3.out).mono ?_
  rintro e4 w4 ⟨rfl, e4⟩
  have E4 := Lib.hid (E3.out.trans e4)
  clear e4
  go_wp2_with fail
  go_ret
  exact ⟨by rw [HF.out]; rfl, Fr.of_ext E4.out, fun _ => by rw [HF.out]; exact HST.out.ext E4.out⟩

set_option maxRecDepth 100000 in
set_option maxHeartbeats 2000000 in
theorem specl5Test_int (n : Int) (s : ByteArray) (ks : List Tm) (v : Value) (S : Nat → Prop) (w : World) (hs : s.toList = [105, 110, 116]) (hl : ks.length = 1) (ht : Tm.at S w (.mk 3 n s ks) v) :
    Calls Try.prog 85 #[v] w fun e w' => e = .returned (.int .i64 (holdsN ((kidAt ks 0).kind == 2))) ∧ Ext w w' := by
  have HL := Lib.hid hl
  obtain ⟨bb, hbb⟩ : ∃ x, ((kidAt ks 0).kind == 2) = x := ⟨_, rfl⟩
  rw [hbb]
  have HBB := Lib.hid hbb
  clear hbb
  obtain ⟨hs1, sv, rfl, a, c, rfl, h1, h2, h3, h4⟩ := Tm.at_iff.1 ht
  have H4 := Lib.hid h4
  simp only [Tm.kind, Tm.n, Tm.name, Tm.kids] at H4 ⊢
  clear ht h4 h1 h2 h3 hl
  have hk0 : 0 < ks.length := by have := HL.out; omega
  obtain ⟨b, off, a0, c0, rfl, hSb0, l0, l1, l2, l3, hat0, hg0⟩ := kids1 H4.out hk0
  simp only [Nat.zero_mul, Nat.add_zero] at l0 l1 l2 l3
  have hbw := block_lt_of_cell l0
  simp only at hbw
  obtain ⟨t0, ht0⟩ : ∃ t, kidAt ks 0 = t := ⟨_, rfl⟩
  rw [ht0] at l0 l1 l2 l3 HBB
  clear hat0 hg0 ht0
  have hbb := HBB.out
  go_enter Try.func85, Try.ntmps85
  go_wp2_with fail
  refine (specl5Code _ _).mono ?_
  rintro e4 w4 ⟨rfl, rfl⟩
  go_wp2_with fail
  go_ret
  exact ⟨rfl, (Ext.alloc _ _).trans (Ext.alloc _ _)⟩

set_option maxRecDepth 100000 in
set_option maxHeartbeats 8000000 in
theorem specl5_int (n : Int) (s : ByteArray) (ks : List Tm) (v : Value) (S : Nat → Prop) (w : World) (kb : Nat) (hs : s.toList = [105, 110, 116]) (hl : ks.length = 1) (hsh : shapeL ks 29 = true) (hsz : Tm.szL ks ≤ 119) (hB : ∀ b, S b → b < w.heap.size) (ht : Tm.at S w (.mk 3 n s ks) v) (hst : Kn S w kb known0) :
    Calls Try.prog 44 #[v, .slice (some ⟨kb, 0, none⟩) 26 26] w (CallK S kb (callR s.toList ks) w) := by
  have HF : Hid (callR s.toList ks = (holdsN ((kidAt ks 0).kind == 2), known0)) := Lib.hid (by unfold callR; rw [hs]; simp)
  have HB := Lib.hid hB
  have HT := Lib.hid ht
  have HST := Lib.hid hst
  have HSH := Lib.hid hsh
  have HSZ := Lib.hid hsz
  have lkb := hst.lt
  have HL := Lib.hid hl
  have HKB := Lib.hid hst.1
  obtain ⟨hs1, sv, rfl, a, c, rfl, h1, h2, h3, h4⟩ := Tm.at_iff.1 ht
  have H4 := Lib.hid h4
  simp only [Tm.kind, Tm.n, Tm.name, Tm.kids] at HT H4 ⊢
  clear hB ht hst hsh h4 h1 h2 h3 hl hsz
  go_enter Try.func44, Try.ntmps44
  go_upto_region 1 with (fail)
  obtain ⟨w2, hw2⟩ : ∃ z, z = w.alloc (.cells #[.int .i64 3, .int .i64 n, .string s, .slice a ks.length c] 25) := ⟨_, rfl⟩
  have E2 : Hid (Ext w w2) := Lib.hid (by rw [hw2]; exact Ext.alloc _ _)
  have X2 : Hid (BoxT w2 w.heap.size (.int .i64 3) (.int .i64 n) (.string s) (.slice a ks.length c)) := Lib.hid (by rw [hw2]; exact BoxT.new _ _ _ _ _ _ rfl)
  rw [← hw2]
  clear hw2
  have ST2 := Lib.hid (HST.out.ext E2.out)
  obtain ⟨x0, x1, x2, x3, _, _, _, _⟩ := X2.out
  have lx2 := X2.out.lt
  have CP := Lib.hid (fun (h : ks.length = 1) => specl5Test_int n s ks _ S w2 hs h (Tm.at_ext E2.out HT.out))
  have hcm : ∀ w', Calls Try.prog 51 #[.string s] w' fun e w'' => e = .returned (.bool (hasF five s)) ∧ Ext w' w'' := fun w' => (specl5Compares s w').mono (fun e w'' h => ⟨h.1, by first | exact h.2 | (rw [← h.2]; exact Ext.refl _)⟩)
  have hF5 : hasF five s = false := by unfold hasF five; simp [hs]
  rw [hF5] at hcm
  have HCM := Lib.hid hcm
  clear hcm hF5
  go_wp2_with fail
  refine (HCM.out _).mono ?_
  rintro e3 w3 ⟨rfl, e3⟩
  have X3 := Lib.hid (X2.out.ext e3)
  have E3 := Lib.hid (E2.out.trans e3)
  have HT3 := Lib.hid (Tm.at_ext E3.out HT.out)
  clear e3 x0 x1 x2 x3 CP
  obtain ⟨x0, x1, x2, x3, _, _, _, _⟩ := X3.out
  go_wp2_with fail
  refine (specl5Test_int n s ks _ S w3 hs HL.out HT3.out).mono ?_
  rintro e4 w4 ⟨rfl, e4⟩
  have E4 := Lib.hid (E3.out.trans e4)
  clear e4
  go_wp2_with fail
  go_ret
  exact ⟨by rw [HF.out]; rfl, Fr.of_ext E4.out, fun _ => by rw [HF.out]; exact HST.out.ext E4.out⟩

set_option maxRecDepth 100000 in
set_option maxHeartbeats 2000000 in
theorem specl5Test_atom (n : Int) (s : ByteArray) (ks : List Tm) (v : Value) (S : Nat → Prop) (w : World) (hs : s.toList = [97, 116, 111, 109]) (hl : ks.length = 1) (ht : Tm.at S w (.mk 3 n s ks) v) :
    Calls Try.prog 85 #[v] w fun e w' => e = .returned (.int .i64 (holdsN (atomF (kidAt ks 0).kind (kidAt ks 0).kids.length))) ∧ Ext w w' := by
  have HL := Lib.hid hl
  obtain ⟨bb, hbb⟩ : ∃ x, (atomF (kidAt ks 0).kind (kidAt ks 0).kids.length) = x := ⟨_, rfl⟩
  rw [hbb]
  have HBB := Lib.hid hbb
  clear hbb
  obtain ⟨hs1, sv, rfl, a, c, rfl, h1, h2, h3, h4⟩ := Tm.at_iff.1 ht
  have H4 := Lib.hid h4
  simp only [Tm.kind, Tm.n, Tm.name, Tm.kids] at H4 ⊢
  clear ht h4 h1 h2 h3 hl
  have hk0 : 0 < ks.length := by have := HL.out; omega
  obtain ⟨b, off, a0, c0, rfl, hSb0, l0, l1, l2, l3, hat0, hg0⟩ := kids1 H4.out hk0
  simp only [Nat.zero_mul, Nat.add_zero] at l0 l1 l2 l3
  have hbw := block_lt_of_cell l0
  simp only at hbw
  obtain ⟨t0, ht0⟩ : ∃ t, kidAt ks 0 = t := ⟨_, rfl⟩
  rw [ht0] at l0 l1 l2 l3 HBB
  clear hat0 hg0 ht0
  have hbb := HBB.out
  by_cases h3 : t0.kind = 3
  · have q3 : (t0.kind == 3) = true := by simp [h3]
    have q4 : ((t0.kids.length : Int) == 0) = bb := by rw [← hbb]; unfold atomF; rw [q3]; rfl
    clear hbb h3
    go_enter Try.func85, Try.ntmps85
    go_wp2_with fail
    refine (specl5Code _ _).mono ?_
    rintro e4 w4 ⟨rfl, rfl⟩
    go_wp2_with fail
    go_ret
    exact ⟨rfl, (Ext.alloc _ _).trans (Ext.alloc _ _)⟩
  · have q3 : (t0.kind == 3) = false := by simpa using h3
    obtain rfl : bb = false := by rw [← hbb]; unfold atomF; rw [q3]; rfl
    clear hbb h3
    go_enter Try.func85, Try.ntmps85
    go_wp2_with fail
    refine (specl5Code _ _).mono ?_
    rintro e4 w4 ⟨rfl, rfl⟩
    go_wp2_with fail
    go_ret
    exact ⟨rfl, (Ext.alloc _ _).trans (Ext.alloc _ _)⟩

set_option maxRecDepth 100000 in
set_option maxHeartbeats 8000000 in
theorem specl5_atom (n : Int) (s : ByteArray) (ks : List Tm) (v : Value) (S : Nat → Prop) (w : World) (kb : Nat) (hs : s.toList = [97, 116, 111, 109]) (hl : ks.length = 1) (hsh : shapeL ks 29 = true) (hsz : Tm.szL ks ≤ 119) (hB : ∀ b, S b → b < w.heap.size) (ht : Tm.at S w (.mk 3 n s ks) v) (hst : Kn S w kb known0) :
    Calls Try.prog 44 #[v, .slice (some ⟨kb, 0, none⟩) 26 26] w (CallK S kb (callR s.toList ks) w) := by
  have HF : Hid (callR s.toList ks = (holdsN (atomF (kidAt ks 0).kind (kidAt ks 0).kids.length), known0)) := Lib.hid (by unfold callR; rw [hs]; simp)
  have HB := Lib.hid hB
  have HT := Lib.hid ht
  have HST := Lib.hid hst
  have HSH := Lib.hid hsh
  have HSZ := Lib.hid hsz
  have lkb := hst.lt
  have HL := Lib.hid hl
  have HKB := Lib.hid hst.1
  obtain ⟨hs1, sv, rfl, a, c, rfl, h1, h2, h3, h4⟩ := Tm.at_iff.1 ht
  have H4 := Lib.hid h4
  simp only [Tm.kind, Tm.n, Tm.name, Tm.kids] at HT H4 ⊢
  clear hB ht hst hsh h4 h1 h2 h3 hl hsz
  go_enter Try.func44, Try.ntmps44
  go_upto_region 1 with (fail)
  obtain ⟨w2, hw2⟩ : ∃ z, z = w.alloc (.cells #[.int .i64 3, .int .i64 n, .string s, .slice a ks.length c] 25) := ⟨_, rfl⟩
  have E2 : Hid (Ext w w2) := Lib.hid (by rw [hw2]; exact Ext.alloc _ _)
  have X2 : Hid (BoxT w2 w.heap.size (.int .i64 3) (.int .i64 n) (.string s) (.slice a ks.length c)) := Lib.hid (by rw [hw2]; exact BoxT.new _ _ _ _ _ _ rfl)
  rw [← hw2]
  clear hw2
  have ST2 := Lib.hid (HST.out.ext E2.out)
  obtain ⟨x0, x1, x2, x3, _, _, _, _⟩ := X2.out
  have lx2 := X2.out.lt
  have CP := Lib.hid (fun (h : ks.length = 1) => specl5Test_atom n s ks _ S w2 hs h (Tm.at_ext E2.out HT.out))
  have hcm : ∀ w', Calls Try.prog 51 #[.string s] w' fun e w'' => e = .returned (.bool (hasF five s)) ∧ Ext w' w'' := fun w' => (specl5Compares s w').mono (fun e w'' h => ⟨h.1, by first | exact h.2 | (rw [← h.2]; exact Ext.refl _)⟩)
  have hF5 : hasF five s = false := by unfold hasF five; simp [hs]
  rw [hF5] at hcm
  have HCM := Lib.hid hcm
  clear hcm hF5
  go_wp2_with fail
  refine (HCM.out _).mono ?_
  rintro e3 w3 ⟨rfl, e3⟩
  have X3 := Lib.hid (X2.out.ext e3)
  have E3 := Lib.hid (E2.out.trans e3)
  have HT3 := Lib.hid (Tm.at_ext E3.out HT.out)
  clear e3 x0 x1 x2 x3 CP
  obtain ⟨x0, x1, x2, x3, _, _, _, _⟩ := X3.out
  go_wp2_with fail
  refine (specl5Test_atom n s ks _ S w3 hs HL.out HT3.out).mono ?_
  rintro e4 w4 ⟨rfl, e4⟩
  have E4 := Lib.hid (E3.out.trans e4)
  clear e4
  go_wp2_with fail
  go_ret
  exact ⟨by rw [HF.out]; rfl, Fr.of_ext E4.out, fun _ => by rw [HF.out]; exact HST.out.ext E4.out⟩

set_option maxRecDepth 100000 in
set_option maxHeartbeats 8000000 in
theorem specl5_cmp (n : Int) (s : ByteArray) (ks : List Tm) (v : Value) (S : Nat → Prop) (w : World) (kb : Nat) (hs : (s.toList = [60] ∨ s.toList = [62] ∨ s.toList = [61, 60] ∨ s.toList = [62, 61] ∨ s.toList = [61, 58, 61])) (hl : ks.length = 2) (hsh : shapeL ks 29 = true) (hsz : Tm.szL ks ≤ 119) (hB : ∀ b, S b → b < w.heap.size) (ht : Tm.at S w (.mk 3 n s ks) v) (hst : Kn S w kb known0) :
    Calls Try.prog 44 #[v, .slice (some ⟨kb, 0, none⟩) 26 26] w (CallK S kb (callR s.toList ks) w) := by
  have HF : Hid (callR s.toList ks = (cmpR s.toList (kidAt ks 0) (kidAt ks 1), known0)) := Lib.hid (by unfold callR; (rcases hs with hs | hs | hs | hs | hs <;> (rw [hs]; simp)))
  have HB := Lib.hid hB
  have HT := Lib.hid ht
  have HST := Lib.hid hst
  have HSH := Lib.hid hsh
  have HSZ := Lib.hid hsz
  have lkb := hst.lt
  have HL := Lib.hid hl
  have HKB := Lib.hid hst.1
  obtain ⟨hs1, sv, rfl, a, c, rfl, h1, h2, h3, h4⟩ := Tm.at_iff.1 ht
  have H4 := Lib.hid h4
  simp only [Tm.kind, Tm.n, Tm.name, Tm.kids] at HT H4 ⊢
  clear hB ht hst hsh h4 h1 h2 h3 hl hsz
  go_enter Try.func44, Try.ntmps44
  go_upto_region 1 with (fail)
  obtain ⟨w2, hw2⟩ : ∃ z, z = w.alloc (.cells #[.int .i64 3, .int .i64 n, .string s, .slice a ks.length c] 25) := ⟨_, rfl⟩
  have E2 : Hid (Ext w w2) := Lib.hid (by rw [hw2]; exact Ext.alloc _ _)
  have X2 : Hid (BoxT w2 w.heap.size (.int .i64 3) (.int .i64 n) (.string s) (.slice a ks.length c)) := Lib.hid (by rw [hw2]; exact BoxT.new _ _ _ _ _ _ rfl)
  rw [← hw2]
  clear hw2
  have ST2 := Lib.hid (HST.out.ext E2.out)
  obtain ⟨x0, x1, x2, x3, _, _, _, _⟩ := X2.out
  have lx2 := X2.out.lt
  have hcm : ∀ w', Calls Try.prog 51 #[.string s] w' fun e w'' => e = .returned (.bool (hasF five s)) ∧ Ext w' w'' := fun w' => (specl5Compares s w').mono (fun e w'' h => ⟨h.1, by first | exact h.2 | (rw [← h.2]; exact Ext.refl _)⟩)
  have hF5 : hasF five s = true := by unfold hasF five; rcases hs with hs | hs | hs | hs | hs <;> simp [hs]
  rw [hF5] at hcm
  have HCM := Lib.hid hcm
  have HS := Lib.hid hs
  clear hcm hF5 hs
  obtain ⟨z, hz⟩ : ∃ z, cmpR s.toList (kidAt ks 0) (kidAt ks 1) = z := ⟨_, rfl⟩
  rw [hz] at HF
  have CC := Lib.hid (fun w' (e' : Ext w w') => specl5Compare n s ks _ S w' HS.out HL.out HSH.out (Tm.at_ext e' HT.out))
  rw [hz] at CC
  clear hz
  rcases HS.out with hs | hs | hs | hs | hs
  all_goals
    go_wp2_with fail
    refine (HCM.out _).mono ?_
    rintro e3 w3 ⟨rfl, e3⟩
    have X3 := Lib.hid (X2.out.ext e3)
    have E3 := Lib.hid (E2.out.trans e3)
    have HT3 := Lib.hid (Tm.at_ext E3.out HT.out)
    clear e3 x0 x1 x2 x3
    obtain ⟨x0, x1, x2, x3, _, _, _, _⟩ := X3.out
    go_wp2_with fail
    refine (CC.out _ E3.out).mono ?_
    rintro e4 w4 ⟨rfl, e4⟩
    have E4 := Lib.hid (E3.out.trans e4)
    clear e4
    go_wp2_with fail
    go_ret
    exact ⟨by rw [HF.out]; rfl, Fr.of_ext E4.out, fun _ => by rw [HF.out]; exact HST.out.ext E4.out⟩

end Go.Proofs.Ytdelhgodhkbjdaa
