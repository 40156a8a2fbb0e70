/-
  Values of arithmetic terms: what the reference computes.
-/
import Derived.Test.YtagaciadcgijoaaArith
namespace Go.Proofs.Ytagaciadcgijoaa
open Go.RowKit
set_option linter.unusedVariables false

theorem lvl_yes {s : ByteArray} (h : hasF opsA s = true) : opLevelF s.toList = 1 ∨ opLevelF s.toList = 2 := by
  rcases ops_or h with h | h | h | h | h <;> simp [opLevelF, h]
theorem lvl_no {s : ByteArray} (h : hasF opsA s = false) : opLevelF s.toList ≠ 1 ∧ opLevelF s.toList ≠ 2 := by
  simp [hasF, opsA] at h
  obtain ⟨h1, h2, h3, h4, h5⟩ := h
  unfold opLevelF
  split
  · omega
  · split
    · rename_i h
      rcases h with h | h
      · exact absurd h.symm h1
      · exact absurd h.symm h2
    · split
      · rename_i h
        rcases h with h | h | h
        · exact absurd h.symm h3
        · exact absurd h.symm h4
        · exact absurd h.symm h5
      · omega
def modS (a b : Int) : Int := if a.tmod b ≠ 0 ∧ decide (a.tmod b < 0) ≠ decide (b < 0) then a.tmod b + b else a.tmod b
theorem tmod_small {m b : Int} (h : m.natAbs < b.natAbs) : m.tmod b = m := by
  have h1 := Int.natAbs_tmod m b
  rw [Nat.mod_eq_of_lt h] at h1
  have h2 := Int.mul_tdiv_add_tmod m b
  have h3 : m.tdiv b = 0 := by
    have := Int.natAbs_tdiv m b
    change _ = m.natAbs / b.natAbs at this
    rw [Nat.div_eq_of_lt h] at this
    omega
  rw [h3] at h2
  simpa using h2
theorem mod_eq {a b : Int} (hb : b ≠ 0) : modI a b = modS a b := by
  have hm := (tmod_abs a b).2 hb
  unfold modI modS
  generalize a.tmod b = m at hm
  by_cases h0 : m = 0
  · subst h0
    rw [if_neg (by simp)]
    simp
  · by_cases hs : decide (m < 0) = decide (b < 0)
    · rw [if_neg (by rintro ⟨_, h⟩; exact h hs)]
      have h1 : (m + b).natAbs = m.natAbs + b.natAbs := by
        by_cases hb0 : b < 0
        · have : m < 0 := by simpa [hb0] using hs
          omega
        · have : ¬ m < 0 := by simpa [hb0] using hs
          omega
      have h2 := Int.natAbs_tmod (m + b) b
      rw [h1, Nat.add_mod_right, Nat.mod_eq_of_lt hm] at h2
      have h3 := Int.mul_tdiv_add_tmod (m + b) b
      have h4 : ((m + b).tdiv b) = 1 := by
        have h5 := Int.natAbs_tdiv (m + b) b
        change _ = (m + b).natAbs / b.natAbs at h5
        rw [h1, Nat.add_div_right _ (by omega), Nat.div_eq_of_lt hm] at h5
        rcases Int.natAbs_eq ((m + b).tdiv b) with h | h
        · omega
        · exfalso
          rw [h5] at h
          have h6 : (m + b).tdiv b = -1 := by simpa using h
          rw [h6] at h3
          omega
      rw [h4] at h3
      omega
    · rw [if_pos ⟨h0, hs⟩]
      refine tmod_small ?_
      by_cases hb0 : b < 0
      · have : ¬ m < 0 := by intro h; exact hs (by simp [h, hb0])
        omega
      · have : m < 0 := by
          by_cases h : m < 0
          · exact h
          · exact absurd (by simp [h, hb0]) hs
        omega

theorem specl5Ranged (n : Int) (w : World) : Calls Try.prog 134 #[.int .i64 n] w (ArOut (rngI n) w) := by
  by_cases h1 : -999 ≤ n
  · by_cases h2 : n ≤ 999
    · have HR := Lib.hid (show rngI n = (n, 0) by unfold rngI; rw [if_pos ⟨h1, h2⟩])
      go_enter Try.func134, Try.ntmps134
      go_wp2_with fail
      go_ret2
      exact ⟨by rw [HR.out]; rfl, Ext.refl _⟩
    · have HR := Lib.hid (show rngI n = (0, 5) by unfold rngI; rw [if_neg (fun h => h2 h.2)])
      go_enter Try.func134, Try.ntmps134
      go_wp2_with fail
      go_ret2
      exact ⟨by rw [HR.out]; rfl, Ext.refl _⟩
  · have HR := Lib.hid (show rngI n = (0, 5) by unfold rngI; rw [if_neg (fun h => h1 h.1)])
    go_enter Try.func134, Try.ntmps134
    go_wp2_with fail
    go_ret2
    exact ⟨by rw [HR.out]; rfl, Ext.refl _⟩

theorem specl5Div (a b : Int) (w : World) (hb : b ≠ 0) (h1 : -999 ≤ a) (h2 : a ≤ 999) : Calls Try.prog 136 #[.int .i64 a, .int .i64 b] w fun e w' => e = .returned (.int .i64 (a.tdiv b)) ∧ Ext w w' := by
  have qz : (b == 0) = false := by simpa using hb
  have hd : -999 ≤ a.tdiv b ∧ a.tdiv b ≤ 999 := by have := tdiv_abs a b; omega
  obtain ⟨hd1, hd2⟩ := hd
  go_enter Try.func136, Try.ntmps136
  go_wp2_with fail
  go_ret
  exact ⟨rfl, Ext.refl _⟩

theorem specl5Mod (a b : Int) (w : World) (hb : b ≠ 0) (h1 : -999 ≤ a) (h2 : a ≤ 999) (h3 : -999 ≤ b) (h4 : b ≤ 999) : Calls Try.prog 135 #[.int .i64 a, .int .i64 b] w fun e w' => e = .returned (.int .i64 (modI a b)) ∧ Ext w w' := by
  have HM := Lib.hid (mod_eq (a := a) hb)
  have qz : (b == 0) = false := by simpa using hb
  have hm := (tmod_abs a b).2 hb
  have ht : -999 ≤ a.tmod b ∧ a.tmod b ≤ 999 := by omega
  obtain ⟨ht1, ht2⟩ := ht
  clear hm
  by_cases h0 : a.tmod b = 0
  · have HS := Lib.hid (show modS a b = a.tmod b by unfold modS; rw [if_neg (by intro h; exact h.1 h0)])
    have q0 : (a.tmod b != 0) = false := by simp [h0]
    clear h0
    go_enter Try.func135, Try.ntmps135
    go_wp2_with fail
    go_ret
    exact ⟨retI (by rw [HM.out, HS.out]), Ext.refl _⟩
  · have q0 : (a.tmod b != 0) = true := by simpa using h0
    by_cases hs : decide (a.tmod b < 0) = decide (b < 0)
    · have HS := Lib.hid (show modS a b = a.tmod b by unfold modS; rw [if_neg (by rintro ⟨_, h⟩; exact h hs)])
      have q1 : (!(decide (a.tmod b < 0) == decide (b < 0))) = false := by rw [hs]; cases decide (b < 0) <;> rfl
      clear h0 hs
      go_enter Try.func135, Try.ntmps135
      go_wp2_with fail
      go_ret
      exact ⟨retI (by rw [HM.out, HS.out]), Ext.refl _⟩
    · have HS := Lib.hid (show modS a b = a.tmod b + b by unfold modS; rw [if_pos ⟨h0, hs⟩])
      have q1 : (!(decide (a.tmod b < 0) == decide (b < 0))) = true := by revert hs; cases decide (a.tmod b < 0) <;> cases decide (b < 0) <;> simp
      clear h0 hs
      go_enter Try.func135, Try.ntmps135
      go_wp2_with fail
      go_ret
      exact ⟨retI (by rw [HM.out, HS.out]), Ext.refl _⟩

set_option maxHeartbeats 1000000 in
theorem specl5Op (s : ByteArray) (a b : Int) (w : World) (hs : hasF opsA s = true) (h1 : -999 ≤ a) (h2 : a ≤ 999) (h3 : -999 ≤ b) (h4 : b ≤ 999) : Calls Try.prog 108 #[.string s, .int .i64 a, .int .i64 b] w (ArOut (arOp s.toList a b) w) := by
  obtain ⟨mb1, mb2⟩ := mul_bd h1 h2 h3 h4
  rcases ops_or hs with hop | hop | hop | hop | hop
  · have HOP := Lib.hid (show arOp s.toList a b = rngI (a + b) by rw [hop]; simp [arOp])
    clear hs
    go_enter Try.func108, Try.ntmps108
    go_wp2_with fail
    refine (specl5Ranged _ _).mono ?_
    rintro e w1 ⟨rfl, e1⟩
    dsimp only
    go_wp2_with fail
    go_ret2
    exact ⟨by rw [HOP.out]; rfl, e1⟩
  · have HOP := Lib.hid (show arOp s.toList a b = rngI (a - b) by rw [hop]; simp [arOp])
    clear hs
    go_enter Try.func108, Try.ntmps108
    go_wp2_with fail
    refine (specl5Ranged _ _).mono ?_
    rintro e w1 ⟨rfl, e1⟩
    dsimp only
    go_wp2_with fail
    go_ret2
    exact ⟨by rw [HOP.out]; rfl, e1⟩
  · have HOP := Lib.hid (show arOp s.toList a b = rngI (a * b) by rw [hop]; simp [arOp])
    clear hs
    go_enter Try.func108, Try.ntmps108
    go_wp2_with fail
    refine (specl5Ranged _ _).mono ?_
    rintro e w1 ⟨rfl, e1⟩
    dsimp only
    go_wp2_with fail
    go_ret2
    exact ⟨by rw [HOP.out]; rfl, e1⟩
  all_goals
    by_cases hz : b = 0
    · have HOP := Lib.hid (show arOp s.toList a b = (0, 4) by rw [hop, hz]; simp [arOp])
      subst hz
      clear hs
      go_enter Try.func108, Try.ntmps108
      go_wp2_with fail
      go_ret2
      exact ⟨by rw [HOP.out]; rfl, Ext.refl _⟩
  · have HOP := Lib.hid (show arOp s.toList a b = (a.tdiv b, 0) by rw [hop]; simp [arOp, hz])
    have HC := Lib.hid (fun w => specl5Div a b w hz h1 h2)
    have qz : (b == 0) = false := by simpa using hz
    clear hs hz
    go_enter Try.func108, Try.ntmps108
    go_wp2_with fail
    refine (HC.out _).mono ?_
    rintro e w1 ⟨rfl, e1⟩
    go_wp2_with fail
    go_ret2
    exact ⟨by rw [HOP.out]; rfl, e1⟩
  · have HOP := Lib.hid (show arOp s.toList a b = (modI a b, 0) by rw [hop]; simp [arOp, hz])
    have HC := Lib.hid (fun w => specl5Mod a b w hz h1 h2 h3 h4)
    have qz : (b == 0) = false := by simpa using hz
    clear hs hz
    go_enter Try.func108, Try.ntmps108
    go_wp2_with fail
    refine (HC.out _).mono ?_
    rintro e w1 ⟨rfl, e1⟩
    go_wp2_with fail
    go_ret2
    exact ⟨by rw [HOP.out]; rfl, e1⟩

end Go.Proofs.Ytagaciadcgijoaa
