/-
  The reference's l5Solve: arg.
-/
import Derived.Test.YtdelhgodhkbjdaaMg47
import Derived.Test.YtdelhgodhkbjdaaMg44
namespace Go.Proofs.Ytdelhgodhkbjdaa
open Go.RowKit
set_option linter.unusedVariables false

/-- what l5Arg returns -/
def ArgO (S : Nat → Prop) (x y : Tm) (w : World) (e : Ending) (w' : World) : Prop :=
  Ext w w' ∧ ∃ (z : Tm) (code : Int) (a : Option Addr) (c : Nat), e = .returned (.tuple #[val4 z a c, .int .i64 code]) ∧ Tm.at S w' z (val4 z a c) ∧
    ((x.kind = 1 ∨ y.kind = 1) ∧ code = 2 ∨ (¬ (x.kind = 1 ∨ y.kind = 1) ∧ (x.kind ≠ 2 ∨ y.kind ≠ 3 ∨ y.kids.length = 0) ∧ code = 3) ∨
     (¬ (x.kind = 1 ∨ y.kind = 1) ∧ ¬ (x.kind ≠ 2 ∨ y.kind ≠ 3 ∨ y.kids.length = 0) ∧ ¬ (1 ≤ x.n ∧ x.n ≤ y.kids.length) ∧ code = 1) ∨
     (¬ (x.kind = 1 ∨ y.kind = 1) ∧ ¬ (x.kind ≠ 2 ∨ y.kind ≠ 3 ∨ y.kids.length = 0) ∧ (1 ≤ x.n ∧ x.n ≤ y.kids.length) ∧ code = 0 ∧ z = kidAt y.kids (x.n - 1).toNat))
set_option maxRecDepth 100000 in
set_option maxHeartbeats 8000000 in
theorem specl5Arg (n : Int) (s : ByteArray) (ks : List Tm) (v : Value) (S : Nat → Prop) (w : World) (hl : ks.length = 3) (hB : ∀ b, S b → b < w.heap.size) (ht : Tm.at S w (.mk 3 n s ks) v) :
    Calls Try.prog 83 #[v] w (ArgO S (kidAt ks 0) (kidAt ks 1) w) := by
  have HL := Lib.hid hl
  have HB := Lib.hid hB
  obtain ⟨hs1, sv, rfl, a, c, rfl, h1, h2, h3, h4⟩ := Tm.at_iff.1 ht
  have H4 := Lib.hid h4
  simp only [Tm.kind, Tm.n, Tm.name, Tm.kids] at H4 ⊢
  clear ht h4 h1 h2 h3 hl hB
  have hk0 : 0 < ks.length := by have := HL.out; omega
  have hk1 : 1 < ks.length := by have := HL.out; omega
  have hk1i : (1 : Int) < (ks.length : Int) := by omega
  obtain ⟨b, off, a0, c0, rfl, hSb0, l0, l1, l2, l3, hat0, hg0⟩ := kids1 H4.out hk0
  obtain ⟨b1, off1, a1, c1, e1, hSb1, m0, m1, m2, m3, hat1, hg1⟩ := kids1 H4.out hk1
  cases e1
  simp only [Nat.zero_mul, Nat.add_zero] at l0 l1 l2 l3
  simp only [Nat.one_mul] at m0 m1 m2 m3
  obtain ⟨t0, ht0⟩ : ∃ t, kidAt ks 0 = t := ⟨_, rfl⟩
  obtain ⟨t1, ht1⟩ : ∃ t, kidAt ks 1 = t := ⟨_, rfl⟩
  rw [ht0] at l0 l1 l2 l3 ⊢
  rw [ht1] at m0 m1 m2 m3 hat1 ⊢
  have hbw := block_lt_of_cell l0
  simp only at hbw
  have hbw1 : b < w.heap.size + 1 := by omega
  have hbw2 : b < w.heap.size + 1 + 1 := by omega
  have HA1 := Lib.hid hat1
  clear hat0 hat1 hg0 hg1 ht0 ht1
  go_enter Try.func83, Try.ntmps83
  go_upto_region 3 with (fail)
  obtain ⟨w2, hw2⟩ : ∃ z, z = (((w.alloc (.cells #[.int .i64 3, .int .i64 n, .string s, .slice (some ⟨b, off, none⟩) ks.length c] 25)).alloc (.cells #[.int .i64 0, .int .i64 0, .string ⟨#[]⟩, .slice none 0 0] 25)).alloc (.cells #[.int .i64 t0.kind, .int .i64 t0.n, .string t0.name, .slice a0 t0.kids.length c0] 25)).alloc (.cells #[.int .i64 t1.kind, .int .i64 t1.n, .string t1.name, .slice a1 t1.kids.length c1] 25) := ⟨_, rfl⟩
  have E2 : Hid (Ext w w2) := Lib.hid (by rw [hw2]; exact (((Ext.alloc _ _).trans (Ext.alloc _ _)).trans (Ext.alloc _ _)).trans (Ext.alloc _ _))
  have R2 : Hid (BoxT w2 (w.heap.size + 1) (.int .i64 0) (.int .i64 0) (.string ⟨#[]⟩) (.slice none 0 0)) := Lib.hid (by rw [hw2]; exact ((BoxT.new _ _ _ _ _ _ (by simp)).ext (Ext.alloc _ _)).ext (Ext.alloc _ _))
  have X2 : Hid (BoxT w2 (w.heap.size + 1 + 1) (.int .i64 t0.kind) (.int .i64 t0.n) (.string t0.name) (.slice a0 t0.kids.length c0)) := Lib.hid (by rw [hw2]; exact (BoxT.new _ _ _ _ _ _ (by simp)).ext (Ext.alloc _ _))
  have Y2 : Hid (BoxT w2 (w.heap.size + 1 + 1 + 1) (.int .i64 t1.kind) (.int .i64 t1.n) (.string t1.name) (.slice a1 t1.kids.length c1)) := Lib.hid (by rw [hw2]; exact BoxT.new _ _ _ _ _ _ (by simp))
  rw [← hw2]
  clear hw2 l0 l1 l2 l3 m0 m1 m2 m3
  obtain ⟨r0, r1, r2, r3, z0, z1, z2, z3⟩ := R2.out
  obtain ⟨x0, x1, x2, x3, _, _, _, _⟩ := X2.out
  obtain ⟨y0, y1, y2, y3, _, _, _, _⟩ := Y2.out
  have lr2 : w.heap.size + 1 < w2.heap.size := R2.out.lt
  have BAD : Hid (∀ (code : Int) X, Fr (fun k => k = w.heap.size + 1) w2 X → ((t0.kind = 1 ∨ t1.kind = 1) ∧ code = 2 ∨ (¬ (t0.kind = 1 ∨ t1.kind = 1) ∧ (t0.kind ≠ 2 ∨ t1.kind ≠ 3 ∨ t1.kids.length = 0) ∧ code = 3) ∨
     (¬ (t0.kind = 1 ∨ t1.kind = 1) ∧ ¬ (t0.kind ≠ 2 ∨ t1.kind ≠ 3 ∨ t1.kids.length = 0) ∧ ¬ (1 ≤ t0.n ∧ t0.n ≤ t1.kids.length) ∧ code = 1)) → ∀ e, e = Ending.returned (.tuple #[.agg #[.int .i64 0, .int .i64 0, .string ⟨#[]⟩, .slice none 0 0], .int .i64 code]) → ArgO S t0 t1 w e X) := Lib.hid (fun code X f h e he => by
    refine ⟨((Fr.of_ext E2.out).trans f).toExt (fun k hk h => by omega), zeroT, code, none, 0, he, Tm.at_iff.2 ⟨by show (⟨#[]⟩ : ByteArray).size ≤ 1048576; decide, _, rfl, none, 0, rfl, by decide, by decide, by decide, .inl rfl⟩, ?_⟩
    rcases h with h | h | h
    · exact .inl h
    · exact .inr (.inl h)
    · exact .inr (.inr (.inl h)))
  by_cases h1 : t0.kind = 1
  · have HH := Lib.hid h1
    have q1 : (t0.kind == 1) = true := by simp [h1]
    clear h1
    go_wp2_with fail
    refine ret4b_set (p := 2) (q := 3) (T := 25) (by kernel_rfl) (fun _ => by kernel_rfl) (fun _ => by kernel_rfl) rfl rfl rfl R2.out ?_
    intro X f
    exact BAD.out 2 X f (.inl ⟨.inl HH.out, rfl⟩) _ rfl
  have q1 : (t0.kind == 1) = false := by simpa using h1
  by_cases h2 : t1.kind = 1
  · have HH := Lib.hid h2
    have q2 : (t1.kind == 1) = true := by simp [h2]
    clear h1 h2
    go_wp2_with fail
    refine ret4b_set (p := 2) (q := 3) (T := 25) (by kernel_rfl) (fun _ => by kernel_rfl) (fun _ => by kernel_rfl) rfl rfl rfl R2.out ?_
    intro X f
    exact BAD.out 2 X f (.inl ⟨.inr HH.out, rfl⟩) _ rfl
  have q2 : (t1.kind == 1) = false := by simpa using h2
  have N12 : Hid (¬ (t0.kind = 1 ∨ t1.kind = 1)) := Lib.hid (by rintro (h | h); exact h1 h; exact h2 h)
  clear h1 h2
  by_cases h3 : t0.kind = 2
  · have q3 : (t0.kind != 2) = false := by simp [h3]
    by_cases h4 : t1.kind = 3
    · have q4 : (t1.kind != 3) = false := by simp [h4]
      by_cases h5 : t1.kids.length = 0
      · have HH := Lib.hid h5
        have q5 : ((t1.kids.length : Int) == 0) = true := by simp [h5]
        clear h3 h4 h5
        go_wp2_with fail
        refine ret4b_set (p := 2) (q := 3) (T := 25) (by kernel_rfl) (fun _ => by kernel_rfl) (fun _ => by kernel_rfl) rfl rfl rfl R2.out ?_
        intro X f
        exact BAD.out 3 X f (.inr (.inl ⟨N12.out, .inr (.inr HH.out), rfl⟩)) _ rfl
      · have q5 : ((t1.kids.length : Int) == 0) = false := by simpa using h5
        have N345 : Hid (¬ (t0.kind ≠ 2 ∨ t1.kind ≠ 3 ∨ t1.kids.length = 0)) := Lib.hid (by rintro (h | h | h); exact h h3; exact h h4; exact h5 h)
        clear h3 h4 h5
        by_cases h6 : 1 ≤ t0.n ∧ t0.n ≤ t1.kids.length
        · obtain ⟨N, hN⟩ : ∃ N : Nat, t0.n = (N : Int) + 1 := ⟨(t0.n - 1).toNat, by omega⟩
          have H6 := Lib.hid h6
          have HN : Hid ((t0.n - 1).toNat = N) := Lib.hid (by omega)
          have hNl : N < t1.kids.length := by omega
          have hNi : (N : Int) < (t1.kids.length : Int) := by omega
          have hN3 : ¬ ((N : Int) + 1 < 1) := by omega
          have hN4 : ¬ ((t1.kids.length : Int) < (N : Int) + 1) := by omega
          obtain ⟨_, sv1, ev1, hsl1⟩ := Tm.at_iff.1 HA1.out
          simp only [val4, Value.agg.injEq, Array.mk.injEq, List.cons.injEq, and_true, true_and] at ev1
          subst ev1
          obtain ⟨_, _, e8, hcx, hcy, hlx, r4⟩ := hsl1
          cases e8
          obtain ⟨bx, offx, ax, cx, rfl, hSbx, p0, p1, p2, p3, hatx, hgx⟩ := kids1 r4 hNl
          have p0 := E2.out.cell p0
          have p1 := E2.out.cell p1
          have p2 := E2.out.cell p2
          have p3 := E2.out.cell p3
          have HAX := Lib.hid (Tm.at_ext E2.out hatx)
          obtain ⟨tx, htx⟩ : ∃ t, kidAt t1.kids N = t := ⟨_, rfl⟩
          rw [htx] at p0 p1 p2 p3 HAX
          have HTX := Lib.hid htx
          have lbx := block_lt_of_cell p0
          simp only at lbx
          have hne : ¬ bx = w.heap.size + 1 := by have := HB.out bx hSbx; omega
          rw [hN] at x1
          clear h6 hN r4 hatx hgx htx
          go_wp2_with fail
          refine ret4b_set (p := 2) (q := 3) (T := 25) (by kernel_rfl) (fun _ => by kernel_rfl) (fun _ => by kernel_rfl) rfl rfl rfl R2.out ?_
          intro X f
          exact ⟨((Fr.of_ext E2.out).trans f).toExt (fun k hk h => by omega), tx, 0, ax, cx, rfl, f.at HAX.out (fun k hk h => by have := HB.out k hk; omega), .inr (.inr (.inr ⟨N12.out, N345.out, H6.out, rfl, by rw [HN.out, HTX.out]⟩))⟩
        · have HH := Lib.hid h6
          have hpre : t0.n < 1 ∨ (¬ (t0.n < 1) ∧ (t1.kids.length : Int) < t0.n) := by omega
          clear h6
          rcases hpre with h | ⟨h, h'⟩
          all_goals
            go_wp2_with fail
            refine ret4b_set (p := 2) (q := 3) (T := 25) (by kernel_rfl) (fun _ => by kernel_rfl) (fun _ => by kernel_rfl) rfl rfl rfl R2.out ?_
            intro X f
            exact BAD.out 1 X f (.inr (.inr ⟨N12.out, N345.out, HH.out, rfl⟩)) _ rfl
    · have HH := Lib.hid h4
      have q4 : (t1.kind != 3) = true := by simpa using h4
      clear h3 h4
      go_wp2_with fail
      refine ret4b_set (p := 2) (q := 3) (T := 25) (by kernel_rfl) (fun _ => by kernel_rfl) (fun _ => by kernel_rfl) rfl rfl rfl R2.out ?_
      intro X f
      exact BAD.out 3 X f (.inr (.inl ⟨N12.out, .inr (.inl HH.out), rfl⟩)) _ rfl
  · have HH := Lib.hid h3
    have q3 : (t0.kind != 2) = true := by simpa using h3
    clear h3
    go_wp2_with fail
    refine ret4b_set (p := 2) (q := 3) (T := 25) (by kernel_rfl) (fun _ => by kernel_rfl) (fun _ => by kernel_rfl) rfl rfl rfl R2.out ?_
    intro X f
    exact BAD.out 3 X f (.inr (.inl ⟨N12.out, .inl HH.out, rfl⟩)) _ rfl

set_option maxRecDepth 100000 in
set_option maxHeartbeats 8000000 in
theorem specl5_arg (n : Int) (s : ByteArray) (ks : List Tm) (v : Value) (S : Nat → Prop) (w : World) (kb : Nat) (hs : s.toList = [97, 114, 103]) (hl : ks.length = 3) (hsh : shapeL ks 29 = true) (hsz : Tm.szL ks ≤ 119) (hB : ∀ b, S b → b < w.heap.size) (ht : Tm.at S w (.mk 3 n s ks) v) (hst : Kn S w kb known0) :
    Calls Try.prog 44 #[v, .slice (some ⟨kb, 0, none⟩) 26 26] w (CallK S kb (callR s.toList ks) w) := by
  have HF : Hid (callR s.toList ks = argR (kidAt ks 0) (kidAt ks 1) (kidAt ks 2)) := Lib.hid (by unfold callR; rw [hs]; simp)
  have HB := Lib.hid hB
  have HT := Lib.hid ht
  have HST := Lib.hid hst
  have HSH := Lib.hid hsh
  have HSZ := Lib.hid hsz
  have lkb := hst.lt
  have HL := Lib.hid hl
  have HKB := Lib.hid hst.1
  obtain ⟨hs1, sv, rfl, a, c, rfl, h1, h2, h3, h4⟩ := Tm.at_iff.1 ht
  have H4 := Lib.hid h4
  simp only [Tm.kind, Tm.n, Tm.name, Tm.kids] at HT H4 ⊢
  clear hB ht hst hsh h4 h1 h2 h3 hl hsz
  go_enter Try.func44, Try.ntmps44
  go_upto_region 1 with (fail)
  obtain ⟨w2, hw2⟩ : ∃ z, z = w.alloc (.cells #[.int .i64 3, .int .i64 n, .string s, .slice a ks.length c] 25) := ⟨_, rfl⟩
  have E2 : Hid (Ext w w2) := Lib.hid (by rw [hw2]; exact Ext.alloc _ _)
  have X2 : Hid (BoxT w2 w.heap.size (.int .i64 3) (.int .i64 n) (.string s) (.slice a ks.length c)) := Lib.hid (by rw [hw2]; exact BoxT.new _ _ _ _ _ _ rfl)
  rw [← hw2]
  clear hw2
  have ST2 := Lib.hid (HST.out.ext E2.out)
  obtain ⟨x0, x1, x2, x3, _, _, _, _⟩ := X2.out
  have lx2 := X2.out.lt
  have hk0 : 0 < ks.length := by have := HL.out; omega
  obtain ⟨b, off, a0, c0, rfl, hSb0, l0, l1, l2, l3, hat0, hg0⟩ := kids1 H4.out hk0
  simp only [Nat.zero_mul, Nat.add_zero] at l0 l1 l2 l3
  have l0 := E2.out.cell l0
  have l1 := E2.out.cell l1
  have l2 := E2.out.cell l2
  have l3 := E2.out.cell l3
  have HA0 := Lib.hid (Tm.at_ext E2.out hat0)
  have SH0 := Lib.hid (shapeL_mem HSH.out (List.mem_of_getElem? hg0))
  have SZ0 := Lib.hid (sz_le120 HSZ.out hg0)
  clear hat0 hg0
  obtain ⟨t0, ht0⟩ : ∃ t, kidAt ks 0 = t := ⟨_, rfl⟩
  have HK0 := Lib.hid ht0
  rw [ht0] at l0 l1 l2 l3 HA0 SH0 SZ0 HF
  clear ht0
  have hk1 : 1 < ks.length := by have := HL.out; omega
  obtain ⟨b1, off1, a1, c1, e1, hSb1, m0, m1, m2, m3, hat1, hg1⟩ := kids1 H4.out hk1
  cases e1
  simp only [Nat.one_mul] at m0 m1 m2 m3
  have hk1i : (1 : Int) < (ks.length : Int) := by omega
  have m0 := E2.out.cell m0
  have m1 := E2.out.cell m1
  have m2 := E2.out.cell m2
  have m3 := E2.out.cell m3
  have HA1 := Lib.hid (Tm.at_ext E2.out hat1)
  have SH1 := Lib.hid (shapeL_mem HSH.out (List.mem_of_getElem? hg1))
  have SZ1 := Lib.hid (sz_le120 HSZ.out hg1)
  clear hat1 hg1
  obtain ⟨t1, ht1⟩ : ∃ t, kidAt ks 1 = t := ⟨_, rfl⟩
  have HK1 := Lib.hid ht1
  rw [ht1] at m0 m1 m2 m3 HA1 SH1 SZ1 HF
  clear ht1
  have hk2 : 2 < ks.length := by have := HL.out; omega
  obtain ⟨b2, off2, a2, c2, e2, hSb2, n0, n1, n2, n3, hat2, hg2⟩ := kids1 H4.out hk2
  cases e2
  simp only [Nat.reduceMul] at n0 n1 n2 n3
  have hk2i : (2 : Int) < (ks.length : Int) := by omega
  have n0 := E2.out.cell n0
  have n1 := E2.out.cell n1
  have n2 := E2.out.cell n2
  have n3 := E2.out.cell n3
  have HA2 := Lib.hid (Tm.at_ext E2.out hat2)
  have SH2 := Lib.hid (shapeL_mem HSH.out (List.mem_of_getElem? hg2))
  have SZ2 := Lib.hid (sz_le120 HSZ.out hg2)
  have HT2' := Lib.hid hat2
  clear hat2 hg2
  obtain ⟨t2, ht2⟩ : ∃ t, kidAt ks 2 = t := ⟨_, rfl⟩
  rw [ht2] at HT2' n0 n1 n2 n3 HA2 SH2 SZ2 HF
  clear ht2
  have AG := Lib.hid (fun w' (e' : Ext w w') => specl5Arg n s ks _ S w' HL.out (fun b hb => Nat.lt_of_lt_of_le (HB.out b hb) (Below.size e')) (Tm.at_ext e' HT.out))
  obtain ⟨r, hr⟩ : ∃ r, argR t0 t1 t2 = r := ⟨_, rfl⟩
  have HAR := Lib.hid hr
  rw [hr] at HF
  clear hr
  go_wp2_with fail
  refine (AG.out _ E2.out).mono ?_
  have e0 : kidAt ks 0 = t0 := HK0.out
  have e1 : kidAt ks 1 = t1 := HK1.out
  rw [e0, e1]
  clear e0 e1
  rintro e w3 ⟨e3, z, code, az, cz, rfl, hz, hcase⟩
  have E3 := Lib.hid (E2.out.trans e3)
  have X3 := Lib.hid (X2.out.ext e3)
  have HZ := Lib.hid hz
  have HCS := Lib.hid hcase
  have n0 := e3.cell n0
  have n1 := e3.cell n1
  have n2 := e3.cell n2
  have n3 := e3.cell n3
  clear e3 hz hcase x0 x1 x2 x3 l0 l1 l2 l3 m0 m1 m2 m3
  obtain ⟨x0, x1, x2, x3, _, _, _, _⟩ := X3.out
  unfold val4
  by_cases hc : code = 0
  · subst hc
    have hcn : ((0 : Int) != 0) = false := rfl
    have HY : Hid (z = kidAt t1.kids (t0.n - 1).toNat ∧ r = (holdsN (uniR t2 z).1, (uniR t2 z).2) ∧ (1 ≤ t0.n ∧ t0.n ≤ t1.kids.length)) := Lib.hid (by
      rcases HCS.out with h | h | h | h
      · omega
      · omega
      · omega
      · obtain ⟨h1, h2, h3, _, h5⟩ := h
        refine ⟨h5, ?_, h3⟩
        rw [← HAR.out]
        unfold argR
        rw [if_neg h1, if_neg h2, if_neg (fun h => h h3), h5])
    have SHZ : Hid (shapeF z 28 = true) := Lib.hid (by rw [HY.out.1]; exact kid_shape (kids_shape SH1.out) (by have := HY.out.2.2; omega))
    have SZZ : Hid (Tm.sz z ≤ 120) := Lib.hid (by
      obtain ⟨h1, h2, h3⟩ := HY.out
      obtain ⟨u, hu⟩ := getk (ts := t1.kids) (k := (t0.n - 1).toNat) (by omega)
      rw [h1, kidAt_get hu]
      have := sz_kid hu
      have := SZ1.out
      omega)
    obtain ⟨f, hf⟩ := uniR_spec SH2.out SHZ.out
    obtain ⟨cc, K, hr⟩ : ∃ c K, uniR t2 z = (c, K) := ⟨_, _, rfl⟩
    rw [hr] at hf HY
    have HU := Lib.hid hf
    go_upto_region 19 with (fail)
    obtain ⟨w4, hw4⟩ : ∃ q, q = w3.alloc (.cells #[.int .i64 z.kind, .int .i64 z.n, .string z.name, .slice az z.kids.length cz] 25) := ⟨_, rfl⟩
    have E34 : Hid (Ext w3 w4) := Lib.hid (by rw [hw4]; exact Ext.alloc _ _)
    have Z4 : Hid (BoxT w4 w3.heap.size (.int .i64 z.kind) (.int .i64 z.n) (.string z.name) (.slice az z.kids.length cz)) := Lib.hid (by rw [hw4]; exact BoxT.new _ _ _ _ _ _ rfl)
    rw [← hw4]
    clear hw4 hf hr x0 x1 x2 x3
    have X4 := Lib.hid (X3.out.ext E34.out)
    have E4 := Lib.hid (E3.out.trans E34.out)
    obtain ⟨x0, x1, x2, x3, _, _, _, _⟩ := X4.out
    obtain ⟨z0, z1, z2, z3, _, _, _, _⟩ := Z4.out
    have n0d : w4.drew.cell? _ = _ := E34.out.cell n0
    have n1d : w4.drew.cell? _ = _ := E34.out.cell n1
    have n2d : w4.drew.cell? _ = _ := E34.out.cell n2
    have n3d : w4.drew.cell? _ = _ := E34.out.cell n3
    have x0d : w4.drew.cell? _ = _ := x0
    have x1d : w4.drew.cell? _ = _ := x1
    have x2d : w4.drew.cell? _ = _ := x2
    have x3d : w4.drew.cell? _ = _ := x3
    have z0d : w4.drew.cell? _ = _ := z0
    have z1d : w4.drew.cell? _ = _ := z1
    have z2d : w4.drew.cell? _ = _ := z2
    have z3d : w4.drew.cell? _ = _ := z3
    have lx4 : w.heap.size < w4.drew.heap.size := X4.out.lt
    have lz4 : w3.heap.size < w4.drew.heap.size := Z4.out.lt
    have HB2 : Hid (∀ b, S b → b < w4.drew.heap.size) := Lib.hid (fun b h => by have h1 : w4.drew.heap.size = w4.heap.size := rfl; have := HB.out b h; have := Below.size E4.out; omega)
    have WD := Lib.hid (HST.out.ext (E4.out.trans (Ext.drew w4)))
    go_wp2_with fail
    go_still_tail 6, (by kernel_rfl)
    change wpList _ _ _ _ _ w4.drew
    go_wp2_with fail
    refine (specl3Unify f known0 t2 z cc K 29 28 HU.out vk0 rk0 szk0 SH2.out SHZ.out SZ2.out SZZ.out _ _ S _ kb 26 HB2.out (Tm.at_ext (E4.out.trans (Ext.drew _)) HT2'.out) (Tm.at_ext (E34.out.trans (Ext.drew _)) HZ.out) WD.out ⟨by omega, by omega⟩).mono ?_
    rintro e5 w5 ⟨rfl, hk5, f5⟩
    have K5 := Lib.hid hk5
    have F5 := Lib.hid ((Fr.of_ext (E4.out.trans (Ext.drew _))).trans f5)
    clear hk5 f5
    go_wp2_with fail
    refine (specl5Code _ _).mono ?_
    rintro e6 w6 ⟨rfl, rfl⟩
    go_wp2_with fail
    go_ret
    exact ⟨by rw [HF.out, HY.out.2.1]; rfl, F5.out, fun _ => by rw [HF.out, HY.out.2.1]; exact K5.out⟩
  · have hcn : (code != 0) = true := by simpa using hc
    have HY : Hid (r = (code, known0)) := Lib.hid (by
      rw [← HAR.out]
      unfold argR
      rcases HCS.out with ⟨h1, h2⟩ | ⟨h1, h2, h3⟩ | ⟨h1, h2, h3, h4⟩ | h
      · rw [if_pos h1, h2]
      · rw [if_neg h1, if_pos h2, h3]
      · rw [if_neg h1, if_neg h2, if_pos h3, h4]
      · exact absurd h.2.2.2.1 hc)
    have HC := Lib.hid hc
    clear hc
    have E4 := Lib.hid (E3.out.trans (Ext.alloc w3 (.cells #[.int .i64 z.kind, .int .i64 z.n, .string z.name, .slice az z.kids.length cz] 25)))
    go_wp2_with fail
    go_ret
    exact ⟨by rw [HF.out, HY.out]; rfl, Fr.of_ext E4.out, fun _ => by rw [HF.out, HY.out]; exact HST.out.ext E4.out⟩

end Go.Proofs.Ytdelhgodhkbjdaa
