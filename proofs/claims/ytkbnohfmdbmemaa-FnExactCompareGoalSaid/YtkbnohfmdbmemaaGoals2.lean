/-
  What compares and CompareGoal (the program's and the reference's) return on every term.
-/
import Derived.Test.YtkbnohfmdbmemaaGoals
namespace Go.Proofs.Ytkbnohfmdbmemaa
open Go.RowKit Go.Sort
set_option linter.unusedVariables false

theorem five_new (w : World) (T : Nat) : StrsAt (w.alloc (.cells #[.string ⟨#[60]⟩, .string ⟨#[62]⟩, .string ⟨#[61, 60]⟩, .string ⟨#[62, 61]⟩, .string ⟨#[61, 58, 61]⟩] T)) five (.slice (some ⟨w.heap.size, 0, none⟩) 5 5) := by
  refine ⟨_, _, rfl, by decide, by decide, by decide, .inr ⟨w.heap.size, 0, rfl, fun i s h => ?_⟩⟩
  have hi : i < 5 := by
    have := (List.getElem?_eq_some_iff.1 h).1
    simpa [five] using this
  revert s
  rcases i with _ | _ | _ | _ | _ | i
  all_goals first | omega | (intro s h; simp [five] at h; subst h; exact cell_new _ _ _ _ _ rfl)

set_option maxRecDepth 100000 in
set_option maxHeartbeats 2000000 in
theorem implcompares (k n : Int) (s : ByteArray) (ks : List Tm) (v : Value) (S : Nat → Prop) (w : World) (ht : Tm.at S w (.mk k n s ks) v) :
    Calls Try.prog 63 #[v] w fun e w' => e = .returned (.bool (cmpF k s ks.length)) ∧ Ext w w' := by
  obtain ⟨hs1, sv, rfl, a, cap, rfl, h1, h2, h3, h4⟩ := Tm.at_iff.1 ht
  clear h4 ht
  simp only [Tm.kind, Tm.n, Tm.name, Tm.kids] at *
  by_cases hk : k = 3
  · subst hk
    by_cases hl : ks.length = 2
    · have hl1 : ((ks.length : Int) == 2) = true := by simp [hl]
      have HF := Lib.hid (show cmpF 3 s ks.length = hasF five s by unfold cmpF; rw [hl1]; rfl)
      clear hl
      go_enter Try.func63, Try.ntmps63
      go_wp2_with fail
      refine (slicesContainsS five _ s _ ?_).mono ?_
      · have h := five_new (w.alloc (.cells #[.int .i64 3, .int .i64 n, .string s, .slice a ks.length cap] 25)) 9
        simpa using h
      rintro e w1 ⟨rfl, rfl⟩
      go_wp2_with fail
      go_ret
      exact ⟨retB HF.out.symm, (Ext.alloc _ _).trans (Ext.alloc _ _)⟩
    · have hl1 : ((ks.length : Int) == 2) = false := by simp; omega
      have HF := Lib.hid (show cmpF 3 s ks.length = false by unfold cmpF; rw [hl1]; rfl)
      clear hl
      go_enter Try.func63, Try.ntmps63
      go_wp2_with fail
      go_ret
      exact ⟨retB HF.out.symm, by first | exact Ext.alloc _ _ | exact (Ext.alloc _ _).trans (Ext.alloc _ _)⟩
  · have hk1 : (k == 3) = false := by simp [hk]
    have HF := Lib.hid (show cmpF k s ks.length = false by unfold cmpF; rw [hk1]; rfl)
    clear hk
    go_enter Try.func63, Try.ntmps63
    go_wp2_with fail
    go_ret
    exact ⟨retB HF.out.symm, by first | exact Ext.alloc _ _ | exact (Ext.alloc _ _).trans (Ext.alloc _ _)⟩

def cmpGoalF : Tm → Bool | .mk k n s ks => validF (.mk k n s ks) && cmpF k s ks.length

set_option maxRecDepth 100000 in
set_option maxHeartbeats 2000000 in
theorem implCompareGoal (t : Tm) (v : Value) (S : Nat → Prop) (w : World) (ht : Tm.at S w t v) :
    Calls Try.prog 31 #[v] w fun e w' => e = .returned (.bool (cmpGoalF t)) ∧ Ext w w' := by
  obtain ⟨k, n, s, ks⟩ := t
  have HT := Lib.hid ht
  obtain ⟨hs1, sv, rfl, a, cap, rfl, h1, h2, h3, h4⟩ := Tm.at_iff.1 ht
  clear h4 ht
  simp only [Tm.kind, Tm.n, Tm.name, Tm.kids] at *
  cases hv : validF (.mk k n s ks)
  · have HV := Lib.hid hv
    have HF := Lib.hid (show cmpGoalF (.mk k n s ks) = false by show (validF (.mk k n s ks) && cmpF k s ks.length) = _; rw [hv]; rfl)
    clear hv
    go_enter Try.func31, Try.ntmps31
    go_wp2_with fail
    refine (implTermValid (.mk k n s ks) _ S _ (Tm.at_ext (Ext.alloc _ _) HT.out)).mono ?_
    rw [HV.out]
    rintro e w1 ⟨rfl, e1⟩
    go_wp2_with fail
    go_ret
    exact ⟨retB HF.out.symm, (Ext.alloc _ _).trans e1⟩
  · have HV := Lib.hid hv
    have HF := Lib.hid (show cmpGoalF (.mk k n s ks) = cmpF k s ks.length by show (validF (.mk k n s ks) && cmpF k s ks.length) = _; rw [hv]; rfl)
    clear hv
    go_enter Try.func31, Try.ntmps31
    go_wp2_with fail
    refine (implTermValid (.mk k n s ks) _ S _ (Tm.at_ext (Ext.alloc _ _) HT.out)).mono ?_
    rw [HV.out]
    rintro e w1 ⟨rfl, e1⟩
    have hc1 := ext_cells e1
    have hz1 : w.heap.size < w1.heap.size := size_ext e1 (by simp)
    have E1 := Lib.hid ((Ext.alloc _ _).trans e1)
    clear e1
    go_wp2_with fail
    refine (implcompares k n s ks _ S _ (Tm.at_ext E1.out HT.out)).mono ?_
    rintro e w2 ⟨rfl, e2⟩
    go_wp2_with fail
    go_ret
    exact ⟨retB HF.out.symm, E1.out.trans e2⟩

set_option maxRecDepth 100000 in
set_option maxHeartbeats 2000000 in
theorem specCompareGoal (t : Tm) (v : Value) (S : Nat → Prop) (w : World) (ht : Tm.at S w t v) :
    Calls Try.prog 30 #[v] w fun e w' => e = .returned (.bool (cmpGoalF t)) ∧ Ext w w' := by
  obtain ⟨k, n, s, ks⟩ := t
  have HT := Lib.hid ht
  obtain ⟨hs1, sv, rfl, a, cap, rfl, h1, h2, h3, h4⟩ := Tm.at_iff.1 ht
  clear h4 ht
  simp only [Tm.kind, Tm.n, Tm.name, Tm.kids] at *
  cases hv : validF (.mk k n s ks)
  · have HV := Lib.hid hv
    have HF := Lib.hid (show cmpGoalF (.mk k n s ks) = false by show (validF (.mk k n s ks) && cmpF k s ks.length) = _; rw [hv]; rfl)
    clear hv
    go_enter Try.func30, Try.ntmps30
    go_wp2_with fail
    refine (specTermValid (.mk k n s ks) _ S _ (Tm.at_ext (Ext.alloc _ _) HT.out)).mono ?_
    rw [HV.out]
    rintro e w1 ⟨rfl, e1⟩
    go_wp2_with fail
    go_ret
    exact ⟨retB HF.out.symm, (Ext.alloc _ _).trans e1⟩
  · have HV := Lib.hid hv
    have HF := Lib.hid (show cmpGoalF (.mk k n s ks) = cmpF k s ks.length by show (validF (.mk k n s ks) && cmpF k s ks.length) = _; rw [hv]; rfl)
    clear hv
    go_enter Try.func30, Try.ntmps30
    go_wp2_with fail
    refine (specTermValid (.mk k n s ks) _ S _ (Tm.at_ext (Ext.alloc _ _) HT.out)).mono ?_
    rw [HV.out]
    rintro e w1 ⟨rfl, e1⟩
    have hc1 := ext_cells e1
    have hz1 : w.heap.size < w1.heap.size := size_ext e1 (by simp)
    have E1 := Lib.hid ((Ext.alloc _ _).trans e1)
    clear e1
    by_cases hk : k = 3
    · subst hk
      by_cases hl : ks.length = 2
      · have hl1 : ((ks.length : Int) == 2) = true := by simp [hl]
        have HG := Lib.hid (show cmpF 3 s ks.length = hasF five s by unfold cmpF; rw [hl1]; rfl)
        clear hl
        go_wp2_with fail
        refine (specl5Compares s _).mono ?_
        rintro e w2 ⟨rfl, e2⟩
        go_wp2_with fail
        go_ret
        exact ⟨retB (by rw [HF.out, HG.out]), E1.out.trans e2⟩
      · have hl1 : ((ks.length : Int) == 2) = false := by simp; omega
        have HG := Lib.hid (show cmpF 3 s ks.length = false by unfold cmpF; rw [hl1]; rfl)
        clear hl
        go_wp2_with fail
        go_ret
        exact ⟨retB (by rw [HF.out, HG.out]), E1.out⟩
    · have hk1 : (k == 3) = false := by simp [hk]
      have HG := Lib.hid (show cmpF k s ks.length = false by unfold cmpF; rw [hk1]; rfl)
      clear hk
      go_wp2_with fail
      go_ret
      exact ⟨retB (by rw [HF.out, HG.out]), E1.out⟩

end Go.Proofs.Ytkbnohfmdbmemaa
