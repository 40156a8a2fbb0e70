/-
  Whether a term has an operator: the laws' pgOperator.
-/
import Derived.Test.YtifklfnpaigdkaaDoorTxtF
import Derived.Test.YtifklfnpaigdkaaDoorDraws
namespace Go.Proofs.YtifklfnpaigdkaaDoor
open Go.RowKit
set_option linter.unusedVariables false

mutual
def pgOpF : Tm → Bool
  | .mk k n s ks => (decide (0 < opLevelF s.toList) && ((ks.length : Int) == 2)) || pgOpL ks
def pgOpL : List Tm → Bool
  | [] => false
  | t :: ts => pgOpF t || pgOpL ts
end
theorem pgOpL_yes : ∀ {ts : List Tm} {j : Nat} {t : Tm}, ts[j]? = some t → pgOpF t = true → pgOpL ts = true
  | [], j, t, h, _ => by simp at h
  | t0 :: ts, 0, t, h, hs => by simp at h; subst h; simp [pgOpL, hs]
  | t0 :: ts, j + 1, t, h, hs => by simp [pgOpL, pgOpL_yes (ts := ts) (by simpa using h) hs]
theorem pgOpL_take : ∀ {ts : List Tm} {j : Nat} {t : Tm}, ts[j]? = some t → pgOpL (ts.take j) = false → pgOpF t = false → pgOpL (ts.take (j + 1)) = false
  | [], j, t, h, _, _ => by simp at h
  | t0 :: ts, 0, t, h, _, hs => by simp at h; subst h; simp [pgOpL, hs]
  | t0 :: ts, j + 1, t, h, h1, hs => by
    simp only [List.take_succ_cons, pgOpL, Bool.or_eq_false_iff] at h1 ⊢
    exact ⟨h1.1, pgOpL_take (by simpa using h) h1.2 hs⟩
mutual
theorem pg_noOp : ∀ (t : Tm) (d : Nat), shapeF t d = true → pgOpF t = !noOp t
  | .mk k n s ks, d, h => by
    have hl := pg_noOpL ks (d - 1) (by simp only [shapeF, Bool.and_eq_true] at h; exact h.2)
    simp only [pgOpF, noOp, hl, Bool.not_and, Bool.not_not]
    congr 1
    unfold infF
    by_cases h2 : ks.length = 2
    · obtain rfl : k = 3 := by
        rcases shape_own h with ⟨_, _, rfl⟩ | ⟨_, _, rfl⟩ | ⟨h, _⟩
        · simp at h2
        · simp at h2
        · exact h
      simp [h2]
    · have : ((ks.length : Int) == 2) = false := by simp; omega
      simp [this]
theorem pg_noOpL : ∀ (ts : List Tm) (d : Nat), shapeL ts d = true → pgOpL ts = !noOpL ts
  | [], d, _ => rfl
  | t :: ts, d, h => by
    simp only [shapeL, Bool.and_eq_true] at h
    simp only [pgOpL, noOpL, pg_noOp t d h.1, pg_noOpL ts d h.2, Bool.not_and]
end
def PgC (t : Tm) : Prop := ∀ (v : Value) (S : Nat → Prop) (w : World), Tm.at S w t v → Calls Tryd.prog 16 #[v] w fun e w' => e = .returned (.bool (pgOpF t)) ∧ Ext w w'
set_option maxRecDepth 100000 in
set_option maxHeartbeats 2000000 in
theorem lawspgOperator : ∀ (m : Nat) (t : Tm), Tm.sz t ≤ m → PgC t := by
  intro m
  induction m with
  | zero => intro t hm; have := Tm.sz_pos t; omega
  | succ m ih =>
    intro t hm v S w ht
    obtain ⟨k, n, s, ks⟩ := t
    have IH := Lib.hid (show ∀ (j : Nat) (u : Tm), ks[j]? = some u → PgC u from fun j u h => ih u (by
      have := kid_lt (k := k) (n := n) (s := s) (ks := ks) h; omega))
    clear ih hm
    obtain ⟨hs1, sv, rfl, a, cap, rfl, h1, h2, h3, h4⟩ := ht
    have H4 := Lib.hid h4
    clear h4
    have hF : pgOpF (.mk k n s ks) = ((decide (0 < opLevelF s.toList) && ((ks.length : Int) == 2)) || pgOpL ks) := rfl
    have HBX := Lib.hid (BoxT.new w (.int .i64 k) (.int .i64 n) (.string s) (.slice a ks.length cap) 29 rfl)
    cases hop : (decide (0 < opLevelF s.toList) && ((ks.length : Int) == 2))
    · have HF := Lib.hid (show pgOpF (.mk k n s ks) = pgOpL ks by rw [hF, hop]; rfl)
      have hop' : decide (0 < opLevelF s.toList) = false ∨ (decide (0 < opLevelF s.toList) = true ∧ ((ks.length : Int) == 2) = false) := by
        cases h : decide (0 < opLevelF s.toList)
        · exact .inl rfl
        · rw [h] at hop; exact .inr ⟨rfl, by simpa using hop⟩
      clear hF hop
      have key : ∀ x y : Nat, True := fun _ _ => trivial
      clear key
      rcases hop' with q1 | ⟨q1, q2⟩
      all_goals
        go_enter Tryd.func16, Tryd.ntmps16
        go_wp2_with (go_at_call 18; refine (implOpLevel s _).mono ?_; rintro e w1 ⟨rfl, rfl⟩)
        go_loopw [5] (fun i wr => ∃ j : Nat, j ≤ ks.length ∧ i = .int .i64 j ∧ Hid (pgOpL (ks.take j) = false) ∧ Hid (Ext (w.alloc (.cells #[.int .i64 k, .int .i64 n, .string s, .slice a ks.length cap] 29)) wr)) (fun i _ => ks.length - (intOf i).toNat)
        case atStart => exact ⟨0, Nat.zero_le _, rfl, Lib.hid rfl, Lib.hid (Ext.refl _)⟩
        case round =>
          obtain ⟨j, hj, rfl, HA, HX⟩ := hrel
          obtain ⟨c0, c1, c2, c3, g0, g1, g2, g3⟩ := HBX.out.ext HX.out
          have sw : w.heap.size < wr.heap.size := block_lt_of_cell c0
          have EW := Lib.hid ((Ext.alloc w _).trans HX.out)
          have hl3 : ks.length ≤ 1048576 := h3
          by_cases hlt : j < ks.length
          · obtain ⟨tk, htk⟩ := getk hlt
            obtain ⟨b, off, a1, c1', rfl, hSb, k1, k2, k3, k4, hat⟩ := tget H4.out htk
            replace k1 := EW.out.cell k1
            replace k2 := EW.out.cell k2
            replace k3 := EW.out.cell k3
            replace k4 := EW.out.cell k4
            have HC := Lib.hid (IH.out j tk htk _ S wr (Tm.at_ext EW.out hat))
            have HTK := Lib.hid htk
            clear htk hat hSb
            go_wp2_with fail
            refine HC.out.mono ?_
            cases hpk : pgOpF tk
            · have HN := Lib.hid (pgOpL_take HTK.out HA.out hpk)
              clear hpk
              rintro e w2 ⟨rfl, e2⟩
              go_wp2_with fail
              go_roundw
              case rel => exact ⟨j + 1, by omega, by simp, HN, Lib.hid (HX.out.trans e2)⟩
              case measure => simp [intOf]; omega
            · have HN := Lib.hid (pgOpL_yes HTK.out hpk)
              clear hpk
              rintro e w2 ⟨rfl, e2⟩
              go_wp2_with fail
              go_ret
              exact ⟨retB (by rw [HF.out, HN.out]), EW.out.trans e2⟩
          · have HN := Lib.hid (show pgOpL ks = false by have := HA.out; rwa [List.take_of_length_le (by omega)] at this)
            go_wp2_with fail
            go_ret
            exact ⟨retB (by rw [HF.out, HN.out]), EW.out⟩
    · have HF := Lib.hid (show pgOpF (.mk k n s ks) = true by rw [hF, hop]; rfl)
      obtain ⟨q1, q2⟩ : decide (0 < opLevelF s.toList) = true ∧ ((ks.length : Int) == 2) = true := by simpa using hop
      clear hF hop
      go_enter Tryd.func16, Tryd.ntmps16
      go_wp2_with (go_at_call 18; refine (implOpLevel s _).mono ?_; rintro e w1 ⟨rfl, rfl⟩)
      go_ret
      exact ⟨retB HF.out.symm, Ext.alloc _ _⟩
end Go.Proofs.YtifklfnpaigdkaaDoor
