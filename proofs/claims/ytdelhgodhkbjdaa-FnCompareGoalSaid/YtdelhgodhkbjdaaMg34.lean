/-
  Values of arithmetic terms: what the reference computes.
-/
import Derived.Test.YtdelhgodhkbjdaaMg33
namespace Go.Proofs.Ytdelhgodhkbjdaa
open Go.RowKit
set_option linter.unusedVariables false

theorem lvl_yes {s : ByteArray} (h : hasF opsA s = true) : opLevelF s.toList = 1 ∨ opLevelF s.toList = 2 := by
  rcases ops_or h with h | h | h | h | h <;> simp [opLevelF, h]
theorem lvl_no {s : ByteArray} (h : hasF opsA s = false) : opLevelF s.toList ≠ 1 ∧ opLevelF s.toList ≠ 2 := by
  simp [hasF, opsA] at h
  obtain ⟨h1, h2, h3, h4, h5⟩ := h
  unfold opLevelF
  split
  · omega
  · split
    · rename_i h
      rcases h with h | h
      · exact absurd h.symm h1
      · exact absurd h.symm h2
    · split
      · rename_i h
        rcases h with h | h | h
        · exact absurd h.symm h3
        · exact absurd h.symm h4
        · exact absurd h.symm h5
      · omega
def modS (a b : Int) : Int := if a.tmod b ≠ 0 ∧ decide (a.tmod b < 0) ≠ decide (b < 0) then a.tmod b + b else a.tmod b
theorem tmod_small {m b : Int} (h : m.natAbs < b.natAbs) : m.tmod b = m := by
  have h1 := Int.natAbs_tmod m b
  rw [Nat.mod_eq_of_lt h] at h1
  have h2 := Int.mul_tdiv_add_tmod m b
  have h3 : m.tdiv b = 0 := by
    have := Int.natAbs_tdiv m b
    change _ = m.natAbs / b.natAbs at this
    rw [Nat.div_eq_of_lt h] at this
    omega
  rw [h3] at h2
  simpa using h2
theorem mod_eq {a b : Int} (hb : b ≠ 0) : modI a b = modS a b := by
  have hm := (tmod_abs a b).2 hb
  unfold modI modS
  generalize a.tmod b = m at hm
  by_cases h0 : m = 0
  · subst h0
    rw [if_neg (by simp)]
    simp
  · by_cases hs : decide (m < 0) = decide (b < 0)
    · rw [if_neg (by rintro ⟨_, h⟩; exact h hs)]
      have h1 : (m + b).natAbs = m.natAbs + b.natAbs := by
        by_cases hb0 : b < 0
        · have : m < 0 := by simpa [hb0] using hs
          omega
        · have : ¬ m < 0 := by simpa [hb0] using hs
          omega
      have h2 := Int.natAbs_tmod (m + b) b
      rw [h1, Nat.add_mod_right, Nat.mod_eq_of_lt hm] at h2
      have h3 := Int.mul_tdiv_add_tmod (m + b) b
      have h4 : ((m + b).tdiv b) = 1 := by
        have h5 := Int.natAbs_tdiv (m + b) b
        change _ = (m + b).natAbs / b.natAbs at h5
        rw [h1, Nat.add_div_right _ (by omega), Nat.div_eq_of_lt hm] at h5
        rcases Int.natAbs_eq ((m + b).tdiv b) with h | h
        · omega
        · exfalso
          rw [h5] at h
          have h6 : (m + b).tdiv b = -1 := by simpa using h
          rw [h6] at h3
          omega
      rw [h4] at h3
      omega
    · rw [if_pos ⟨h0, hs⟩]
      refine tmod_small ?_
      by_cases hb0 : b < 0
      · have : ¬ m < 0 := by intro h; exact hs (by simp [h, hb0])
        omega
      · have : m < 0 := by
          by_cases h : m < 0
          · exact h
          · exact absurd (by simp [h, hb0]) hs
        omega

theorem specl5Ranged (n : Int) (w : World) : Calls Try.prog 107 #[.int .i64 n] w (ArOut (rngI n) w) := by
  by_cases h1 : -999 ≤ n
  · by_cases h2 : n ≤ 999
    · have HR := Lib.hid (show rngI n = (n, 0) by unfold rngI; rw [if_pos ⟨h1, h2⟩])
      go_enter Try.func107, Try.ntmps107
      go_wp2_with fail
      go_ret2
      exact ⟨by rw [HR.out]; rfl, Ext.refl _⟩
    · have HR := Lib.hid (show rngI n = (0, 5) by unfold rngI; rw [if_neg (fun h => h2 h.2)])
      go_enter Try.func107, Try.ntmps107
      go_wp2_with fail
      go_ret2
      exact ⟨by rw [HR.out]; rfl, Ext.refl _⟩
  · have HR := Lib.hid (show rngI n = (0, 5) by unfold rngI; rw [if_neg (fun h => h1 h.1)])
    go_enter Try.func107, Try.ntmps107
    go_wp2_with fail
    go_ret2
    exact ⟨by rw [HR.out]; rfl, Ext.refl _⟩

theorem specl5Div (a b : Int) (w : World) (hb : b ≠ 0) (h1 : -999 ≤ a) (h2 : a ≤ 999) : Calls Try.prog 109 #[.int .i64 a, .int .i64 b] w fun e w' => e = .returned (.int .i64 (a.tdiv b)) ∧ Ext w w' := by
  have qz : (b == 0) = false := by simpa using hb
  have hd : -999 ≤ a.tdiv b ∧ a.tdiv b ≤ 999 := by have := tdiv_abs a b; omega
  obtain ⟨hd1, hd2⟩ := hd
  go_enter Try.func109, Try.ntmps109
  go_wp2_with fail
  go_ret
  exact ⟨rfl, Ext.refl _⟩

theorem specl5Mod (a b : Int) (w : World) (hb : b ≠ 0) (h1 : -999 ≤ a) (h2 : a ≤ 999) (h3 : -999 ≤ b) (h4 : b ≤ 999) : Calls Try.prog 108 #[.int .i64 a, .int .i64 b] w fun e w' => e = .returned (.int .i64 (modI a b)) ∧ Ext w w' := by
  have HM := Lib.hid (mod_eq (a := a) hb)
  have qz : (b == 0) = false := by simpa using hb
  have hm := (tmod_abs a b).2 hb
  have ht : -999 ≤ a.tmod b ∧ a.tmod b ≤ 999 := by omega
  obtain ⟨ht1, ht2⟩ := ht
  clear hm
  by_cases h0 : a.tmod b = 0
  · have HS := Lib.hid (show modS a b = a.tmod b by unfold modS; rw [if_neg (by intro h; exact h.1 h0)])
    have q0 : (a.tmod b != 0) = false := by simp [h0]
    clear h0
    go_enter Try.func108, Try.ntmps108
    go_wp2_with fail
    go_ret
    exact ⟨retI (by rw [HM.out, HS.out]), Ext.refl _⟩
  · have q0 : (a.tmod b != 0) = true := by simpa using h0
    by_cases hs : decide (a.tmod b < 0) = decide (b < 0)
    · have HS := Lib.hid (show modS a b = a.tmod b by unfold modS; rw [if_neg (by rintro ⟨_, h⟩; exact h hs)])
      have q1 : (!(decide (a.tmod b < 0) == decide (b < 0))) = false := by rw [hs]; cases decide (b < 0) <;> rfl
      clear h0 hs
      go_enter Try.func108, Try.ntmps108
      go_wp2_with fail
      go_ret
      exact ⟨retI (by rw [HM.out, HS.out]), Ext.refl _⟩
    · have HS := Lib.hid (show modS a b = a.tmod b + b by unfold modS; rw [if_pos ⟨h0, hs⟩])
      have q1 : (!(decide (a.tmod b < 0) == decide (b < 0))) = true := by revert hs; cases decide (a.tmod b < 0) <;> cases decide (b < 0) <;> simp
      clear h0 hs
      go_enter Try.func108, Try.ntmps108
      go_wp2_with fail
      go_ret
      exact ⟨retI (by rw [HM.out, HS.out]), Ext.refl _⟩

set_option maxHeartbeats 1000000 in
theorem specl5Op (s : ByteArray) (a b : Int) (w : World) (hs : hasF opsA s = true) (h1 : -999 ≤ a) (h2 : a ≤ 999) (h3 : -999 ≤ b) (h4 : b ≤ 999) : Calls Try.prog 92 #[.string s, .int .i64 a, .int .i64 b] w (ArOut (arOp s.toList a b) w) := by
  obtain ⟨mb1, mb2⟩ := mul_bd h1 h2 h3 h4
  rcases ops_or hs with hop | hop | hop | hop | hop
  · have HOP := Lib.hid (show arOp s.toList a b = rngI (a + b) by rw [hop]; simp [arOp])
    clear hs
    go_enter Try.func92, Try.ntmps92
    go_wp2_with fail
    refine (specl5Ranged _ _).mono ?_
    rintro e w1 ⟨rfl, e1⟩
    dsimp only
    go_wp2_with fail
    go_ret2
    exact ⟨by rw [HOP.out]; rfl, e1⟩
  · have HOP := Lib.hid (show arOp s.toList a b = rngI (a - b) by rw [hop]; simp [arOp])
    clear hs
    go_enter Try.func92, Try.ntmps92
    go_wp2_with fail
    refine (specl5Ranged _ _).mono ?_
    rintro e w1 ⟨rfl, e1⟩
    dsimp only
    go_wp2_with fail
    go_ret2
    exact ⟨by rw [HOP.out]; rfl, e1⟩
  · have HOP := Lib.hid (show arOp s.toList a b = rngI (a * b) by rw [hop]; simp [arOp])
    clear hs
    go_enter Try.func92, Try.ntmps92
    go_wp2_with fail
    refine (specl5Ranged _ _).mono ?_
    rintro e w1 ⟨rfl, e1⟩
    dsimp only
    go_wp2_with fail
    go_ret2
    exact ⟨by rw [HOP.out]; rfl, e1⟩
  all_goals
    by_cases hz : b = 0
    · have HOP := Lib.hid (show arOp s.toList a b = (0, 4) by rw [hop, hz]; simp [arOp])
      subst hz
      clear hs
      go_enter Try.func92, Try.ntmps92
      go_wp2_with fail
      go_ret2
      exact ⟨by rw [HOP.out]; rfl, Ext.refl _⟩
  · have HOP := Lib.hid (show arOp s.toList a b = (a.tdiv b, 0) by rw [hop]; simp [arOp, hz])
    have HC := Lib.hid (fun w => specl5Div a b w hz h1 h2)
    have qz : (b == 0) = false := by simpa using hz
    clear hs hz
    go_enter Try.func92, Try.ntmps92
    go_wp2_with fail
    refine (HC.out _).mono ?_
    rintro e w1 ⟨rfl, e1⟩
    go_wp2_with fail
    go_ret2
    exact ⟨by rw [HOP.out]; rfl, e1⟩
  · have HOP := Lib.hid (show arOp s.toList a b = (modI a b, 0) by rw [hop]; simp [arOp, hz])
    have HC := Lib.hid (fun w => specl5Mod a b w hz h1 h2 h3 h4)
    have qz : (b == 0) = false := by simpa using hz
    clear hs hz
    go_enter Try.func92, Try.ntmps92
    go_wp2_with fail
    refine (HC.out _).mono ?_
    rintro e w1 ⟨rfl, e1⟩
    go_wp2_with fail
    go_ret2
    exact ⟨by rw [HOP.out]; rfl, e1⟩

end Go.Proofs.Ytdelhgodhkbjdaa

/-
  Values of arithmetic terms: the reference's l5Arith, EvalArith.
-/
namespace Go.Proofs.Ytdelhgodhkbjdaa
open Go.RowKit
set_option linter.unusedVariables false

def ArSC (t : Tm) : Prop := ∀ (v : Value) (S : Nat → Prop) (w : World) (d : Nat), shapeF t d = true → Tm.at S w t v → Calls Try.prog 55 #[v] w (ArOut (arF t) w)
set_option maxRecDepth 100000 in
set_option maxHeartbeats 4000000 in
theorem specl5Arith : ∀ (m : Nat) (t : Tm), Tm.sz t ≤ m → ArSC t := by
  intro m
  induction m with
  | zero => intro t hm; have := Tm.sz_pos t; omega
  | succ m ih =>
    intro t hm v S w d hsh ht
    obtain ⟨k, n, s, ks⟩ := t
    have IH := Lib.hid (show ∀ (j : Nat) (u : Tm), ks[j]? = some u → ArSC u from fun j u h => ih u (by
      have := kid_lt (k := k) (n := n) (s := s) (ks := ks) h; omega))
    clear ih hm
    obtain ⟨hs1, sv, rfl, a, cap, rfl, h1, h2, h3, h4⟩ := ht
    have H4 := Lib.hid h4
    have HSH := Lib.hid hsh
    clear h4 hsh
    by_cases hk2 : k = 2
    · subst hk2
      have HF := Lib.hid (show arF (.mk 2 n s ks) = (n, 0) by simp [arF, arC])
      go_enter Try.func55, Try.ntmps55
      go_wp2_with fail
      go_ret2
      exact ⟨by rw [HF.out]; rfl, Ext.alloc _ _⟩
    by_cases hk1 : k = 1
    · subst hk1
      have HF := Lib.hid (show arF (.mk 1 n s ks) = (0, 2) by simp [arF, arC])
      clear hk2
      go_enter Try.func55, Try.ntmps55
      go_wp2_with fail
      go_ret2
      exact ⟨by rw [HF.out]; rfl, Ext.alloc _ _⟩
    have q2 : (k == 2) = false := by simpa using hk2
    have q1 : (k == 1) = false := by simpa using hk1
    obtain ⟨L, hL⟩ : ∃ L, L = opLevelF s.toList := ⟨_, rfl⟩
    have HLV := Lib.hid (show ∀ W, Calls Try.prog 91 #[.string s] W fun e w' => e = .returned (.int .i64 L) ∧ W = w' from fun W => by rw [hL]; exact specl2Level s W)
    by_cases hl : ks.length = 2
    · have hl1 : ((ks.length : Int) != 2) = false := by simp [hl]
      cases hh : hasF opsA s
      · have hno := lvl_no hh
        rw [← hL] at hno
        have qa : (L != 1) = true := by simpa using hno.1
        have qb : (L != 2) = true := by simpa using hno.2
        have HF := Lib.hid (show arF (.mk k n s ks) = (0, 3) by simp [arF, arC, hk2, hk1, hh])
        clear hl hk2 hk1 hh hno hL
        go_enter Try.func55, Try.ntmps55
        go_wp2_with fail
        refine (HLV.out _).mono ?_
        rintro e w1 ⟨rfl, rfl⟩
        go_wp2_with fail
        go_ret2
        exact ⟨by rw [HF.out]; rfl, Ext.alloc _ _⟩
      · have hyes := lvl_yes hh
        rw [← hL] at hyes
        have HH := Lib.hid hh
        obtain ⟨x, y, rfl⟩ := two_of hl
        obtain ⟨b, off, ax, cx, rfl, hSb, x1, x2, x3, x4, hatx⟩ := tget (k := 0) (t := x) H4.out rfl
        obtain ⟨b', off', ay, cy, hbb, _, y1, y2, y3, y4, haty⟩ := tget (k := 1) (t := y) H4.out rfl
        simp only [Option.some.injEq, Addr.mk.injEq, and_true] at hbb
        obtain ⟨rfl, rfl⟩ := hbb
        have sx := shape_kid' HSH.out (j := 0) (t := x) rfl
        have sy := shape_kid' HSH.out (j := 1) (t := y) rfl
        obtain ⟨xa, xc, hx⟩ : ∃ a c, arF x = (a, c) := ⟨_, _, rfl⟩
        obtain ⟨ya, yc, hy⟩ : ∃ a c, arF y = (a, c) := ⟨_, _, rfl⟩
        have bx := ar_bd x _ sx
        have bY := ar_bd y _ sy
        rw [hx] at bx
        rw [hy] at bY
        obtain ⟨bx1, bx2⟩ := bx
        obtain ⟨by1, by2⟩ := bY
        simp only at bx1 bx2 by1 by2
        have CX := Lib.hid (fun w' (e' : Ext w w') => IH.out 0 x rfl _ S w' _ sx (Tm.at_ext e' hatx))
        have CY := Lib.hid (fun w' (e' : Ext w w') => IH.out 1 y rfl _ S w' _ sy (Tm.at_ext e' haty))
        have HX := Lib.hid hx
        have HY := Lib.hid hy
        have HF := Lib.hid (show arF (.mk k n s [x, y]) = if xc = 0 then (if yc = 0 then arOp s.toList xa ya else (0, yc)) else (0, xc) by simp [arF, arC, hk2, hk1, hh, arL, hx, hy])
        clear hl hk2 hk1 hh hatx haty sx sy hx hy hL
        simp only [Nat.zero_mul, Nat.add_zero, Nat.one_mul] at x1 x2 x3 x4 y1 y2 y3 y4
        have bl := block_lt_of_cell x1
        simp only at bl
        rcases hyes with hl7 | hl7
        all_goals
          subst hl7
          go_enter Try.func55, Try.ntmps55
          go_wp2_with fail
          refine (HLV.out _).mono ?_
          rintro e w1 ⟨rfl, rfl⟩
          go_wp2_with fail
          refine (CX.out _ (Ext.alloc _ _)).mono ?_
          rw [HX.out]
          rintro e w1 ⟨rfl, e1⟩
          dsimp only
          have X := Lib.hid ((BoxT.new w (.int .i64 k) (.int .i64 n) (.string s) (.slice (some ⟨b, off, none⟩) 2 cap) 25 rfl).ext e1)
          have E := Lib.hid ((Ext.alloc _ _).trans e1)
          obtain ⟨b0, b1, b2, b3, _, _, _, _⟩ := X.out
          have y1 := E.out.cell y1
          have y2 := E.out.cell y2
          have y3 := E.out.cell y3
          have y4 := E.out.cell y4
          clear e1 x1 x2 x3 x4 bl
          by_cases hxc : xc = 0
          · subst hxc
            go_wp2_with fail
            refine (CY.out _ E.out).mono ?_
            rw [HY.out]
            rintro e w2 ⟨rfl, e2⟩
            dsimp only
            have X := Lib.hid (X.out.ext e2)
            have E := Lib.hid (E.out.trans e2)
            clear e2 b0 b1 b2 b3 y1 y2 y3 y4
            obtain ⟨b0, b1, b2, b3, _, _, _, _⟩ := X.out
            by_cases hyc : yc = 0
            · subst hyc
              have HF := Lib.hid (show arF (.mk k n s [x, y]) = arOp s.toList xa ya by rw [HF.out]; simp)
              go_wp2_with fail
              refine (specl5Op s xa ya _ HH.out bx1 bx2 by1 by2).mono ?_
              rintro e w3 ⟨rfl, e3⟩
              dsimp only
              go_wp2_with fail
              go_ret2
              exact ⟨by rw [HF.out]; rfl, E.out.trans e3⟩
            · have qy : (yc != 0) = true := by simpa using hyc
              have HF := Lib.hid (show arF (.mk k n s [x, y]) = (0, yc) by rw [HF.out]; simp [hyc])
              clear hyc
              go_wp2_with fail
              go_ret2
              exact ⟨by rw [HF.out]; rfl, E.out⟩
          · have qx : (xc != 0) = true := by simpa using hxc
            have HF := Lib.hid (show arF (.mk k n s [x, y]) = (0, xc) by rw [HF.out, if_neg hxc])
            clear hxc
            go_wp2_with fail
            go_ret2
            exact ⟨by rw [HF.out]; rfl, E.out⟩
    · have hl1 : ((ks.length : Int) != 2) = true := by simp; omega
      have HF := Lib.hid (show arF (.mk k n s ks) = (0, 3) by simp [arF, arC, hk2, hk1, arL_len, hl])
      clear hl hk2 hk1 hL
      go_enter Try.func55, Try.ntmps55
      go_wp2_with fail
      refine (HLV.out _).mono ?_
      rintro e w1 ⟨rfl, rfl⟩
      go_wp2_with fail
      go_ret2
      exact ⟨by rw [HF.out]; rfl, Ext.alloc _ _⟩
set_option maxRecDepth 100000 in
theorem specEvalArith (t : Tm) (v : Value) (S : Nat → Prop) (w : World) (ht : Tm.at S w t v) : Calls Try.prog 20 #[v] w (ArOut (evF t) w) := by
  obtain ⟨a0, c0, rfl⟩ := at_form ht
  have V := Lib.hid (Tm.at_ext (Ext.alloc w (.cells #[.int .i64 t.kind, .int .i64 t.n, .string t.name, .slice a0 t.kids.length c0] 25)) ht)
  clear ht
  cases hv : validF t
  all_goals
    have HV := Lib.hid hv
    clear hv
    go_enter Try.func20, Try.ntmps20
    go_wp2_with fail
    refine (specTermValid t _ _ _ V.out).mono ?_
    rw [HV.out]
    rintro e w1 ⟨rfl, e1⟩
    obtain ⟨b0, b1, b2, b3, _, _, _, _⟩ := (BoxT.new w (.int .i64 t.kind) (.int .i64 t.n) (.string t.name) (.slice a0 t.kids.length c0) 25 rfl).ext e1
    have V := Lib.hid (Tm.at_ext e1 V.out)
    have E := Lib.hid ((Ext.alloc _ _).trans e1)
    clear e1
    go_wp2_with fail
  · go_ret2
    exact ⟨by unfold evF; rw [HV.out]; rfl, E.out⟩
  · refine (specl5Arith _ t (Nat.le_refl _) _ _ _ 30 (valid_shape HV.out) V.out).mono ?_
    rintro e w2 ⟨rfl, e2⟩
    have HE := Lib.hid (show evF t = arF t by unfold evF; rw [HV.out]; rfl)
    dsimp only
    go_wp2_with fail
    go_ret2
    exact ⟨by rw [HE.out]; rfl, E.out.trans e2⟩

end Go.Proofs.Ytdelhgodhkbjdaa
