/-
  The program's (*store).call: the other goals; all goals.
-/
import Derived.Deep.CutBlock
import Derived.StillTailTactics
import Derived.BigQuiet
import Derived.IntWalk
import Derived.Test.YtdelhgodhkbjdaaMg37
import Derived.Test.YtdelhgodhkbjdaaMg38
namespace Go.Proofs.Ytdelhgodhkbjdaa
open Go.RowKit
set_option linter.unusedVariables false

set_option maxRecDepth 100000 in
set_option maxHeartbeats 1000000 in
theorem implcall_ne (n : Int) (s : ByteArray) (ks : List Tm) (v : Value) (S : Nat → Prop) (w : World) (sb mb : Nat) (hs : s.toList = [92, 61]) (hl : ks.length = 2) (hsh : shapeL ks 29 = true) (hB : ∀ b, S b → b < w.heap.size) (ht : Tm.at S w (.mk 3 n s ks) v) (hst : StoT S w sb mb known0 [] (.slice none 0 0)) :
    Calls Try.prog 40 #[.pointer (some ⟨sb, 0, none⟩), v] w (CallA sb mb (callR s.toList ks) w) := by
  have HF : Hid (callR s.toList ks = (holdsN (!(uniR (kidAt ks 0) (kidAt ks 1)).1), known0)) := Lib.hid (by unfold callR; rw [hs]; simp)
  have HC : Hid (cmpGF 3 s ks.length = false) := Lib.hid (by unfold cmpGF hasF five; rw [hl]; simp [hs])
  have HB := Lib.hid hB
  have HT := Lib.hid ht
  have HST := Lib.hid hst
  have HSH := Lib.hid hsh
  have lsb := hst.lt0
  have HL := Lib.hid hl
  have HNE := Lib.hid hst.1.2.2.1
  have HSB := Lib.hid hst.1.2.1
  obtain ⟨hs1, sv, rfl, a, c, rfl, h1, h2, h3, h4⟩ := Tm.at_iff.1 ht
  have H4 := Lib.hid h4
  simp only [Tm.kind, Tm.n, Tm.name, Tm.kids] at HT H4 ⊢
  clear hB ht hst hsh h4 h1 h2 h3 hl
  go_enter Try.func40, Try.ntmps40
  go_wp2_with fail
  refine (implcompares 3 n s ks _ S _ (Tm.at_ext (Ext.alloc _ _) HT.out)).mono ?_
  rw [HC.out]
  rintro e w2 ⟨rfl, e2⟩
  have X2 := Lib.hid ((BoxT.new w (.int .i64 3) (.int .i64 n) (.string s) (.slice a ks.length c) 25 rfl).ext e2)
  have E2 := Lib.hid ((Ext.alloc w (.cells #[.int .i64 3, .int .i64 n, .string s, .slice a ks.length c] 25)).trans e2)
  have ST2 := Lib.hid (HST.out.ext E2.out)
  clear e2
  obtain ⟨x0, x1, x2, x3, _, _, _, _⟩ := X2.out
  have lx2 := X2.out.lt
  have hk0 : 0 < ks.length := by have := HL.out; omega
  obtain ⟨b, off, a0, c0, rfl, hSb0, l0, l1, l2, l3, hat0, hg0⟩ := kids1 H4.out hk0
  simp only [Nat.zero_mul, Nat.add_zero] at l0 l1 l2 l3
  have l0 := E2.out.cell l0
  have l1 := E2.out.cell l1
  have l2 := E2.out.cell l2
  have l3 := E2.out.cell l3
  have HA0 := Lib.hid (Tm.at_ext E2.out hat0)
  have SH0 := Lib.hid (shapeL_mem HSH.out (List.mem_of_getElem? hg0))
  clear hat0 hg0
  obtain ⟨t0, ht0⟩ : ∃ t, kidAt ks 0 = t := ⟨_, rfl⟩
  rw [ht0] at l0 l1 l2 l3 HA0 SH0 HF
  clear ht0
  have hk1 : 1 < ks.length := by have := HL.out; omega
  obtain ⟨b1, off1, a1, c1, e1, hSb1, m0, m1, m2, m3, hat1, hg1⟩ := kids1 H4.out hk1
  cases e1
  simp only [Nat.one_mul] at m0 m1 m2 m3
  have hk1i : (1 : Int) < (ks.length : Int) := by omega
  have m0 := E2.out.cell m0
  have m1 := E2.out.cell m1
  have m2 := E2.out.cell m2
  have m3 := E2.out.cell m3
  have HA1 := Lib.hid (Tm.at_ext E2.out hat1)
  have SH1 := Lib.hid (shapeL_mem HSH.out (List.mem_of_getElem? hg1))
  clear hat1 hg1
  obtain ⟨t1, ht1⟩ : ∃ t, kidAt ks 1 = t := ⟨_, rfl⟩
  rw [ht1] at m0 m1 m2 m3 HA1 SH1 HF
  clear ht1
  obtain ⟨f, hf⟩ := uniR_spec SH0.out SH1.out
  obtain ⟨cc, K, hr⟩ : ∃ c K, uniR t0 t1 = (c, K) := ⟨_, _, rfl⟩
  rw [hr] at hf HF
  have HU := Lib.hid hf
  clear hf hr
  have l0d : w2.drew.cell? _ = _ := l0
  have l1d : w2.drew.cell? _ = _ := l1
  have l2d : w2.drew.cell? _ = _ := l2
  have l3d : w2.drew.cell? _ = _ := l3
  have m0d : w2.drew.cell? _ = _ := m0
  have m1d : w2.drew.cell? _ = _ := m1
  have m2d : w2.drew.cell? _ = _ := m2
  have m3d : w2.drew.cell? _ = _ := m3
  have WD := Lib.hid (ST2.out.ext (Ext.drew w2))
  have HB2 : Hid (∀ b, S b → b < w2.drew.heap.size) := Lib.hid (fun b h => by have h1 : w2.drew.heap.size = w2.heap.size := rfl; have := HB.out b h; have := Below.size E2.out; omega)
  have tr := ST2.out.2.1
  have lsb2 : sb < w2.heap.size := by have := Below.size E2.out; omega
  go_wp2_with fail
  go_still_tail 7, (by kernel_rfl)
  change wpList _ _ _ _ _ w2.drew
  go_wp2_with fail
  refine (implunify f known0 t0 t1 cc K 29 29 HU.out vk0 rk0 SH0.out SH1.out _ _ (.slice none 0 0) [] S _ sb mb HB2.out (Tm.at_ext (Ext.drew _) HA0.out) (Tm.at_ext (Ext.drew _) HA1.out) WD.out).mono ?_
  rintro e3 w3 ⟨rfl, L2, ⟨tv, hs3, _, f3⟩, htr⟩
  have S3 := Lib.hid hs3
  have TR := Lib.hid htr
  have F3 := Lib.hid (((Fr.of_ext (E2.out.trans (Ext.drew _))).trans f3).mono (fun k _ h => by simpa [MT, Value.ownBlock] using h))
  clear hs3 f3 htr
  go_wp2_with fail
  refine (implundo K L2 tv S w3 sb mb TR.out S3.out).mono ?_
  rintro e4 w4 ⟨⟨v4, rfl⟩, f4, h4, m4, hk4⟩
  have F4 := Lib.hid (F3.out.trans f4)
  have H5 := Lib.hid (implall0 S w4 sb mb m4 h4 hk4)
  clear f4 h4 hk4
  go_wp2_with fail
  refine (implholds _ _).mono ?_
  rintro e5 w5 ⟨rfl, rfl⟩
  go_wp2_with fail
  go_ret
  exact ⟨by rw [HF.out]; rfl, F4.out, fun _ => by rw [HF.out]; show Calls _ _ _ _ (BdBO (allR known0) (.bool (okU known0 26)) w4); rw [(okU0 26).1, show allR known0 = [] by unfold allR; rw [(okU0 26).1, if_pos rfl, (okU0 26).2]]; exact H5.out⟩

set_option maxRecDepth 100000 in
set_option maxHeartbeats 1000000 in
theorem implcall_arg (n : Int) (s : ByteArray) (ks : List Tm) (v : Value) (S : Nat → Prop) (w : World) (sb mb : Nat) (hs : s.toList = [97, 114, 103]) (hl : ks.length = 3) (hsh : shapeL ks 29 = true) (hB : ∀ b, S b → b < w.heap.size) (ht : Tm.at S w (.mk 3 n s ks) v) (hst : StoT S w sb mb known0 [] (.slice none 0 0)) :
    Calls Try.prog 40 #[.pointer (some ⟨sb, 0, none⟩), v] w (CallQ S sb mb (callR s.toList ks) w) := by
  have HF : Hid (callR s.toList ks = argR (kidAt ks 0) (kidAt ks 1) (kidAt ks 2)) := Lib.hid (by unfold callR; rw [hs]; simp)
  have HC : Hid (cmpGF 3 s ks.length = false) := Lib.hid (by unfold cmpGF hasF five; rw [hl]; simp [hs])
  have HB := Lib.hid hB
  have HT := Lib.hid ht
  have HST := Lib.hid hst
  have HSH := Lib.hid hsh
  have lsb := hst.lt0
  have HL := Lib.hid hl
  have HNE := Lib.hid hst.1.2.2.1
  have HSB := Lib.hid hst.1.2.1
  obtain ⟨hs1, sv, rfl, a, c, rfl, h1, h2, h3, h4⟩ := Tm.at_iff.1 ht
  have H4 := Lib.hid h4
  simp only [Tm.kind, Tm.n, Tm.name, Tm.kids] at HT H4 ⊢
  clear hB ht hst hsh h4 h1 h2 h3 hl
  go_enter Try.func40, Try.ntmps40
  go_wp2_with fail
  refine (implcompares 3 n s ks _ S _ (Tm.at_ext (Ext.alloc _ _) HT.out)).mono ?_
  rw [HC.out]
  rintro e w2 ⟨rfl, e2⟩
  have X2 := Lib.hid ((BoxT.new w (.int .i64 3) (.int .i64 n) (.string s) (.slice a ks.length c) 25 rfl).ext e2)
  have E2 := Lib.hid ((Ext.alloc w (.cells #[.int .i64 3, .int .i64 n, .string s, .slice a ks.length c] 25)).trans e2)
  have ST2 := Lib.hid (HST.out.ext E2.out)
  clear e2
  obtain ⟨x0, x1, x2, x3, _, _, _, _⟩ := X2.out
  have lx2 := X2.out.lt
  have hk0 : 0 < ks.length := by have := HL.out; omega
  obtain ⟨b, off, a0, c0, rfl, hSb0, l0, l1, l2, l3, hat0, hg0⟩ := kids1 H4.out hk0
  simp only [Nat.zero_mul, Nat.add_zero] at l0 l1 l2 l3
  have l0 := E2.out.cell l0
  have l1 := E2.out.cell l1
  have l2 := E2.out.cell l2
  have l3 := E2.out.cell l3
  have HA0 := Lib.hid (Tm.at_ext E2.out hat0)
  have SH0 := Lib.hid (shapeL_mem HSH.out (List.mem_of_getElem? hg0))
  clear hat0 hg0
  obtain ⟨t0, ht0⟩ : ∃ t, kidAt ks 0 = t := ⟨_, rfl⟩
  rw [ht0] at l0 l1 l2 l3 HA0 SH0 HF
  clear ht0
  have hk1 : 1 < ks.length := by have := HL.out; omega
  obtain ⟨b1, off1, a1, c1, e1, hSb1, m0, m1, m2, m3, hat1, hg1⟩ := kids1 H4.out hk1
  cases e1
  simp only [Nat.one_mul] at m0 m1 m2 m3
  have hk1i : (1 : Int) < (ks.length : Int) := by omega
  have m0 := E2.out.cell m0
  have m1 := E2.out.cell m1
  have m2 := E2.out.cell m2
  have m3 := E2.out.cell m3
  have HA1 := Lib.hid (Tm.at_ext E2.out hat1)
  have SH1 := Lib.hid (shapeL_mem HSH.out (List.mem_of_getElem? hg1))
  clear hat1 hg1
  obtain ⟨t1, ht1⟩ : ∃ t, kidAt ks 1 = t := ⟨_, rfl⟩
  rw [ht1] at m0 m1 m2 m3 HA1 SH1 HF
  clear ht1
  have hk2 : 2 < ks.length := by have := HL.out; omega
  obtain ⟨b2, off2, a2, c2, e2, hSb2, n0, n1, n2, n3, hat2, hg2⟩ := kids1 H4.out hk2
  cases e2
  simp only [Nat.reduceMul] at n0 n1 n2 n3
  have hk2i : (2 : Int) < (ks.length : Int) := by omega
  have n0 := E2.out.cell n0
  have n1 := E2.out.cell n1
  have n2 := E2.out.cell n2
  have n3 := E2.out.cell n3
  have HA2 := Lib.hid (Tm.at_ext E2.out hat2)
  have SH2 := Lib.hid (shapeL_mem HSH.out (List.mem_of_getElem? hg2))
  clear hat2 hg2
  obtain ⟨t2, ht2⟩ : ∃ t, kidAt ks 2 = t := ⟨_, rfl⟩
  rw [ht2] at n0 n1 n2 n3 HA2 SH2 HF
  clear ht2
  have HR0 : Hid (callR s.toList ks = argR t0 t1 t2) := HF
  by_cases h1 : t0.kind = 1
  · have HR : Hid (callR s.toList ks = (2, known0)) := Lib.hid (by rw [HF.out]; unfold argR; rw [if_pos (.inl h1)])
    have q1 : (t0.kind == 1) = true := by simp [h1]
    clear h1
    go_wp2_with fail
    go_ret
    exact ⟨by rw [HR.out]; rfl, Fr.of_ext E2.out, fun _ => by rw [HR.out]; exact ST2.out.1⟩
  have q1 : (t0.kind == 1) = false := by simpa using h1
  by_cases h2 : t1.kind = 1
  · have HR : Hid (callR s.toList ks = (2, known0)) := Lib.hid (by rw [HF.out]; unfold argR; rw [if_pos (.inr h2)])
    have q2 : (t1.kind == 1) = true := by simp [h2]
    clear h1 h2
    go_wp2_with fail
    go_ret
    exact ⟨by rw [HR.out]; rfl, Fr.of_ext E2.out, fun _ => by rw [HR.out]; exact ST2.out.1⟩
  have q2 : (t1.kind == 1) = false := by simpa using h2
  have HA3 : Hid (argR t0 t1 t2 = if t0.kind ≠ 2 ∨ t1.kind ≠ 3 ∨ t1.kids.length = 0 then (3, known0) else if ¬ (1 ≤ t0.n ∧ t0.n ≤ t1.kids.length) then (1, known0) else (holdsN (uniR t2 (kidAt t1.kids (t0.n - 1).toNat)).1, (uniR t2 (kidAt t1.kids (t0.n - 1).toNat)).2)) := Lib.hid (by
    unfold argR; rw [if_neg (by rintro (h | h); exact h1 h; exact h2 h)])
  clear h1 h2
  by_cases h3 : t0.kind = 2
  · have q3 : (t0.kind != 2) = false := by simp [h3]
    by_cases h4 : t1.kind = 3
    · have q4 : (t1.kind != 3) = false := by simp [h4]
      by_cases h5 : t1.kids.length = 0
      · have HR : Hid (callR s.toList ks = (3, known0)) := Lib.hid (by rw [HF.out, HA3.out, if_pos (.inr (.inr h5))])
        have q5 : ((t1.kids.length : Int) == 0) = true := by simp [h5]
        clear h3 h4 h5
        go_wp2_with fail
        go_ret
        exact ⟨by rw [HR.out]; rfl, Fr.of_ext E2.out, fun _ => by rw [HR.out]; exact ST2.out.1⟩
      · have q5 : ((t1.kids.length : Int) == 0) = false := by simpa using h5
        have HA4 : Hid (callR s.toList ks = if ¬ (1 ≤ t0.n ∧ t0.n ≤ t1.kids.length) then (1, known0) else (holdsN (uniR t2 (kidAt t1.kids (t0.n - 1).toNat)).1, (uniR t2 (kidAt t1.kids (t0.n - 1).toNat)).2)) := Lib.hid (by rw [HF.out, HA3.out, if_neg (by rintro (h | h | h); exact h h3; exact h h4; exact h5 h)])
        clear h3 h4 h5
        obtain ⟨z, hz⟩ : ∃ z, t0.n = z := ⟨_, rfl⟩
        have cW := quiet_call (w := w2) (fun w' e' => (implwithin t0.n 1 (t1.kids.length : Int) w').mono (fun e w'' h => ⟨h.1, by rw [← h.2]; exact Ext.refl _⟩))
        by_cases h6 : 1 ≤ t0.n ∧ t0.n ≤ t1.kids.length
        · have hb : (decide (1 ≤ t0.n) && decide (t0.n ≤ (t1.kids.length : Int))) = true := by simp [h6]
          rw [hb] at cW
          obtain ⟨N, hN⟩ : ∃ N : Nat, t0.n = (N : Int) + 1 := ⟨(t0.n - 1).toNat, by omega⟩
          have hNl : N < t1.kids.length := by omega
          have hNi : (N : Int) < (t1.kids.length : Int) := by omega
          have HR0 : Hid (callR s.toList ks = (holdsN (uniR t2 (kidAt t1.kids N)).1, (uniR t2 (kidAt t1.kids N)).2)) := Lib.hid (by
            rw [HA4.out, if_neg (fun h => h h6), show (t0.n - 1).toNat = N by omega])
          have SHX : Hid (shapeL t1.kids 28 = true) := Lib.hid (kids_shape SH1.out)
          obtain ⟨_, sv1, ev1, hsl1⟩ := Tm.at_iff.1 HA1.out
          simp only [val4, Value.agg.injEq, Array.mk.injEq, List.cons.injEq, and_true, true_and] at ev1
          subst ev1
          obtain ⟨_, _, e8, hcx, hcy, hlx, r4⟩ := hsl1
          cases e8
          obtain ⟨bx, offx, ax, cx, rfl, hSbx, p0, p1, p2, p3, hatx, hgx⟩ := kids1 r4 hNl
          have HAX := Lib.hid hatx
          have SHK := Lib.hid (shapeL_mem SHX.out (List.mem_of_getElem? hgx))
          obtain ⟨tx, htx⟩ : ∃ t, kidAt t1.kids N = t := ⟨_, rfl⟩
          rw [htx] at p0 p1 p2 p3 HAX SHK HR0
          obtain ⟨f, hf⟩ := uniR_spec SH2.out SHK.out
          obtain ⟨cc, K, hr⟩ : ∃ c K, uniR t2 tx = (c, K) := ⟨_, _, rfl⟩
          rw [hr] at hf HR0
          have HU := Lib.hid hf
          rw [hN] at l1 cW
          have l0r := cell_regrown l0
          have l1r := cell_regrown l1
          have l2r := cell_regrown l2
          have l3r := cell_regrown l3
          have m0r := cell_regrown m0
          have m1r := cell_regrown m1
          have m2r := cell_regrown m2
          have m3r := cell_regrown m3
          clear h6 hb hz hN r4 hatx hgx htx hf hr
          go_wp2_with fail
          refine region_ext (by kernel_rfl) (by kernel_rfl) ?_
          repeat (first | quiet_step (exact cW _ _) | go_big_quiet_step (exact cW _ _))
          refine wpQuiet_nil ?_
          intro wq eq
          have EQ := Lib.hid eq
          have l0d : wq.drew.cell? _ = _ := eq.cell l0
          have l1d : wq.drew.cell? _ = _ := eq.cell l1
          have l2d : wq.drew.cell? _ = _ := eq.cell l2
          have l3d : wq.drew.cell? _ = _ := eq.cell l3
          have m0d : wq.drew.cell? _ = _ := eq.cell m0
          have m1d : wq.drew.cell? _ = _ := eq.cell m1
          have m2d : wq.drew.cell? _ = _ := eq.cell m2
          have m3d : wq.drew.cell? _ = _ := eq.cell m3
          have n0d : wq.drew.cell? _ = _ := eq.cell n0
          have n1d : wq.drew.cell? _ = _ := eq.cell n1
          have n2d : wq.drew.cell? _ = _ := eq.cell n2
          have n3d : wq.drew.cell? _ = _ := eq.cell n3
          have p0d : wq.drew.cell? _ = _ := eq.cell p0
          have p1d : wq.drew.cell? _ = _ := eq.cell p1
          have p2d : wq.drew.cell? _ = _ := eq.cell p2
          have p3d : wq.drew.cell? _ = _ := eq.cell p3
          have WD := Lib.hid ((ST2.out.ext eq).ext (Ext.drew wq))
          have HB2 : Hid (∀ b, S b → b < wq.drew.heap.size) := Lib.hid (fun b h => by have h1 : wq.drew.heap.size = wq.heap.size := rfl; have := HB.out b h; have := Below.size E2.out; have := Below.size EQ.out; omega)
          have hwr : IntKind.i64.wrap ((N : Int) + 1 - 1) = (N : Int) := by rw [show (N : Int) + 1 - 1 = (N : Int) by omega]; exact IntWalk.i64_in _ (by omega)
          have hwr2 : IntKind.i64.wrap (N : Int) = (N : Int) := IntWalk.i64_in _ (by omega)
          have hN0 : (0 : Int) ≤ (N : Int) := by omega
          clear eq cW l0r l1r l2r l3r m0r m1r m2r m3r
          go_wp2_with fail
          go_still_tail 15, (by kernel_rfl)
          change wpList _ _ _ _ _ wq.drew
          clear hwr hwr2
          go_wp2_with fail
          refine (implunify f known0 t2 tx cc K 29 28 HU.out vk0 rk0 SH2.out SHK.out _ _ (.slice none 0 0) [] S _ sb mb HB2.out (Tm.at_ext (EQ.out.trans (Ext.drew _)) HA2.out) (Tm.at_ext (EQ.out.trans (Ext.drew _)) HAX.out) WD.out).mono ?_
          rintro e3 w3 ⟨rfl, L2, ⟨tv, hs3, _, f3⟩, _⟩
          have S3 := Lib.hid hs3
          have F3 := Lib.hid (((Fr.of_ext (E2.out.trans (EQ.out.trans (Ext.drew _)))).trans f3).mono (fun k _ h => by simpa [MT, Value.ownBlock] using h))
          clear hs3 f3
          go_wp2_with fail
          refine (implholds _ _).mono ?_
          rintro e4 w4 ⟨rfl, rfl⟩
          go_wp2_with fail
          go_ret
          exact ⟨by rw [HR0.out]; rfl, F3.out, fun _ => by rw [HR0.out]; exact S3.out.1⟩
        · have HR : Hid (callR s.toList ks = (1, known0)) := Lib.hid (by rw [HA4.out, if_pos h6])
          have hb : (decide (1 ≤ t0.n) && decide (t0.n ≤ (t1.kids.length : Int))) = false := by
            cases hc : (decide (1 ≤ t0.n) && decide (t0.n ≤ (t1.kids.length : Int))) with
            | false => rfl
            | true => simp at hc; exact absurd hc h6
          rw [hb] at cW
          have l0r := cell_regrown l0
          have l1r := cell_regrown l1
          have l2r := cell_regrown l2
          have l3r := cell_regrown l3
          have m0r := cell_regrown m0
          have m1r := cell_regrown m1
          have m2r := cell_regrown m2
          have m3r := cell_regrown m3
          clear h6 hb hz
          go_wp2_with fail
          refine region_ext (by kernel_rfl) (by kernel_rfl) ?_
          repeat (first | quiet_step (exact cW _ _) | go_big_quiet_step (exact cW _ _))
          refine wpQuiet_nil ?_
          intro wq eq
          have EQ := Lib.hid eq
          clear eq cW l0r l1r l2r l3r m0r m1r m2r m3r
          go_wp2_with fail
          go_ret
          exact ⟨by rw [HR.out]; rfl, Fr.of_ext (E2.out.trans EQ.out), fun _ => by rw [HR.out]; exact (ST2.out.ext EQ.out).1⟩
    · have HR : Hid (callR s.toList ks = (3, known0)) := Lib.hid (by rw [HF.out, HA3.out, if_pos (.inr (.inl h4))])
      have q4 : (t1.kind != 3) = true := by simpa using h4
      clear h3 h4
      go_wp2_with fail
      go_ret
      exact ⟨by rw [HR.out]; rfl, Fr.of_ext E2.out, fun _ => by rw [HR.out]; exact ST2.out.1⟩
  · have HR : Hid (callR s.toList ks = (3, known0)) := Lib.hid (by rw [HF.out, HA3.out, if_pos (.inl h3)])
    have q3 : (t0.kind != 2) = true := by simpa using h3
    clear h3
    go_wp2_with fail
    go_ret
    exact ⟨by rw [HR.out]; rfl, Fr.of_ext E2.out, fun _ => by rw [HR.out]; exact ST2.out.1⟩

end Go.Proofs.Ytdelhgodhkbjdaa
