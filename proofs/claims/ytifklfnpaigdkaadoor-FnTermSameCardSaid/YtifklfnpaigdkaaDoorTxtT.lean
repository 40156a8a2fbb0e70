/-
  The tests on terms of which their texts speak: a pair of a list, the empty list, an operator between two, an operator alone (both sides).
-/
import Derived.Test.YtifklfnpaigdkaaDoorTxtP
namespace Go.Proofs.YtifklfnpaigdkaaDoor
open Go.RowKit Go.Sort
set_option linter.unusedVariables false

set_option maxRecDepth 100000 in
set_option maxHeartbeats 2000000 in
theorem implisPair (k n : Int) (s : ByteArray) (ks : List Tm) (v : Value) (S : Nat → Prop) (w : World) (ht : Tm.at S w (.mk k n s ks) v) :
    Calls Tryd.prog 72 #[v] w fun e w' => e = .returned (.bool (pairF k s ks.length)) ∧ Ext w w' := by
  obtain ⟨hs1, sv, rfl, a, cap, rfl, h1, h2, h3, h4⟩ := Tm.at_iff.1 ht
  have HT := Lib.hid ht
  clear h4 ht
  simp only [Tm.kind, Tm.n, Tm.name, Tm.kids] at *
  by_cases hk : k = 3
  · subst hk
    go_enter Tryd.func72, Tryd.ntmps72
    go_wp2_with (fail)
    all_goals
      go_ret
      exact ⟨retB (by simp_all [pairF]), by first | exact ((((Ext.alloc _ _).trans e1).trans e2).trans e3).trans e4 | exact Ext.alloc _ _ | exact (Ext.alloc _ _).trans e1 | exact ((Ext.alloc _ _).trans e1).trans e2 | exact (((Ext.alloc _ _).trans e1).trans e2).trans e3 | exact (((Ext.alloc _ _).trans e1).trans (Ext.alloc _ _)).trans e2 | exact ((Ext.alloc _ _).trans (Ext.alloc _ _)).trans e1⟩
  · have hk1 : (k == 3) = false := by simp [hk]
    clear hk
    go_enter Tryd.func72, Tryd.ntmps72
    go_wp2_with (fail)
    all_goals
      go_ret
      exact ⟨retB (by simp_all [pairF]), by first | exact ((((Ext.alloc _ _).trans e1).trans e2).trans e3).trans e4 | exact Ext.alloc _ _ | exact (Ext.alloc _ _).trans e1 | exact ((Ext.alloc _ _).trans e1).trans e2 | exact (((Ext.alloc _ _).trans e1).trans e2).trans e3 | exact (((Ext.alloc _ _).trans e1).trans (Ext.alloc _ _)).trans e2 | exact ((Ext.alloc _ _).trans (Ext.alloc _ _)).trans e1⟩

set_option maxRecDepth 100000 in
set_option maxHeartbeats 2000000 in
theorem implisNil (k n : Int) (s : ByteArray) (ks : List Tm) (v : Value) (S : Nat → Prop) (w : World) (ht : Tm.at S w (.mk k n s ks) v) :
    Calls Tryd.prog 73 #[v] w fun e w' => e = .returned (.bool (nilF k s ks.length)) ∧ Ext w w' := by
  obtain ⟨hs1, sv, rfl, a, cap, rfl, h1, h2, h3, h4⟩ := Tm.at_iff.1 ht
  have HT := Lib.hid ht
  clear h4 ht
  simp only [Tm.kind, Tm.n, Tm.name, Tm.kids] at *
  by_cases hk : k = 3
  · subst hk
    go_enter Tryd.func73, Tryd.ntmps73
    go_wp2_with (first | (go_at_call 79; refine (implisAtom 3 n s ks _ S _ (Tm.at_ext (Ext.alloc _ _) HT.out)).mono ?_; rintro e w1 ⟨rfl, e1⟩; have hc1 := ext_cells e1; have hz1 : w.heap.size < w1.heap.size := size_ext e1 (by first | assumption | simp | (simp; omega))))
    all_goals
      go_ret
      exact ⟨retB (by simp_all [nilF, atomF]), by first | exact ((((Ext.alloc _ _).trans e1).trans e2).trans e3).trans e4 | exact Ext.alloc _ _ | exact (Ext.alloc _ _).trans e1 | exact ((Ext.alloc _ _).trans e1).trans e2 | exact (((Ext.alloc _ _).trans e1).trans e2).trans e3 | exact (((Ext.alloc _ _).trans e1).trans (Ext.alloc _ _)).trans e2 | exact ((Ext.alloc _ _).trans (Ext.alloc _ _)).trans e1⟩
  · have hk1 : (k == 3) = false := by simp [hk]
    clear hk
    go_enter Tryd.func73, Tryd.ntmps73
    go_wp2_with (first | (go_at_call 79; refine (implisAtom k n s ks _ S _ (Tm.at_ext (Ext.alloc _ _) HT.out)).mono ?_; rintro e w1 ⟨rfl, e1⟩; have hc1 := ext_cells e1; have hz1 : w.heap.size < w1.heap.size := size_ext e1 (by first | assumption | simp | (simp; omega))))
    all_goals
      go_ret
      exact ⟨retB (by simp_all [nilF, atomF]), by first | exact ((((Ext.alloc _ _).trans e1).trans e2).trans e3).trans e4 | exact Ext.alloc _ _ | exact (Ext.alloc _ _).trans e1 | exact ((Ext.alloc _ _).trans e1).trans e2 | exact (((Ext.alloc _ _).trans e1).trans e2).trans e3 | exact (((Ext.alloc _ _).trans e1).trans (Ext.alloc _ _)).trans e2 | exact ((Ext.alloc _ _).trans (Ext.alloc _ _)).trans e1⟩

set_option maxRecDepth 100000 in
set_option maxHeartbeats 2000000 in
theorem specl1Pair (k n : Int) (s : ByteArray) (ks : List Tm) (v : Value) (S : Nat → Prop) (w : World) (ht : Tm.at S w (.mk k n s ks) v) :
    Calls Tryd.prog 45 #[v] w fun e w' => e = .returned (.bool (pairF k s ks.length)) ∧ Ext w w' := by
  obtain ⟨hs1, sv, rfl, a, cap, rfl, h1, h2, h3, h4⟩ := Tm.at_iff.1 ht
  have HT := Lib.hid ht
  clear h4 ht
  simp only [Tm.kind, Tm.n, Tm.name, Tm.kids] at *
  by_cases hk : k = 3
  · subst hk
    go_enter Tryd.func45, Tryd.ntmps45
    go_wp2_with (fail)
    all_goals
      go_ret
      exact ⟨retB (by simp_all [pairF]), by first | exact ((((Ext.alloc _ _).trans e1).trans e2).trans e3).trans e4 | exact Ext.alloc _ _ | exact (Ext.alloc _ _).trans e1 | exact ((Ext.alloc _ _).trans e1).trans e2 | exact (((Ext.alloc _ _).trans e1).trans e2).trans e3 | exact (((Ext.alloc _ _).trans e1).trans (Ext.alloc _ _)).trans e2 | exact ((Ext.alloc _ _).trans (Ext.alloc _ _)).trans e1⟩
  · have hk1 : (k == 3) = false := by simp [hk]
    clear hk
    go_enter Tryd.func45, Tryd.ntmps45
    go_wp2_with (fail)
    all_goals
      go_ret
      exact ⟨retB (by simp_all [pairF]), by first | exact ((((Ext.alloc _ _).trans e1).trans e2).trans e3).trans e4 | exact Ext.alloc _ _ | exact (Ext.alloc _ _).trans e1 | exact ((Ext.alloc _ _).trans e1).trans e2 | exact (((Ext.alloc _ _).trans e1).trans e2).trans e3 | exact (((Ext.alloc _ _).trans e1).trans (Ext.alloc _ _)).trans e2 | exact ((Ext.alloc _ _).trans (Ext.alloc _ _)).trans e1⟩

set_option maxRecDepth 100000 in
set_option maxHeartbeats 2000000 in
theorem specl1Nil (k n : Int) (s : ByteArray) (ks : List Tm) (v : Value) (S : Nat → Prop) (w : World) (ht : Tm.at S w (.mk k n s ks) v) :
    Calls Tryd.prog 65 #[v] w fun e w' => e = .returned (.bool (nilF k s ks.length)) ∧ Ext w w' := by
  obtain ⟨hs1, sv, rfl, a, cap, rfl, h1, h2, h3, h4⟩ := Tm.at_iff.1 ht
  have HT := Lib.hid ht
  clear h4 ht
  simp only [Tm.kind, Tm.n, Tm.name, Tm.kids] at *
  by_cases hk : k = 3
  · subst hk
    go_enter Tryd.func65, Tryd.ntmps65
    go_wp2_with (fail)
    all_goals
      go_ret
      exact ⟨retB (by simp_all [nilF]), by first | exact ((((Ext.alloc _ _).trans e1).trans e2).trans e3).trans e4 | exact Ext.alloc _ _ | exact (Ext.alloc _ _).trans e1 | exact ((Ext.alloc _ _).trans e1).trans e2 | exact (((Ext.alloc _ _).trans e1).trans e2).trans e3 | exact (((Ext.alloc _ _).trans e1).trans (Ext.alloc _ _)).trans e2 | exact ((Ext.alloc _ _).trans (Ext.alloc _ _)).trans e1⟩
  · have hk1 : (k == 3) = false := by simp [hk]
    clear hk
    go_enter Tryd.func65, Tryd.ntmps65
    go_wp2_with (fail)
    all_goals
      go_ret
      exact ⟨retB (by simp_all [nilF]), by first | exact ((((Ext.alloc _ _).trans e1).trans e2).trans e3).trans e4 | exact Ext.alloc _ _ | exact (Ext.alloc _ _).trans e1 | exact ((Ext.alloc _ _).trans e1).trans e2 | exact (((Ext.alloc _ _).trans e1).trans e2).trans e3 | exact (((Ext.alloc _ _).trans e1).trans (Ext.alloc _ _)).trans e2 | exact ((Ext.alloc _ _).trans (Ext.alloc _ _)).trans e1⟩

set_option maxRecDepth 100000 in
set_option maxHeartbeats 2000000 in
theorem specl2Infix (k n : Int) (s : ByteArray) (ks : List Tm) (v : Value) (S : Nat → Prop) (w : World) (ht : Tm.at S w (.mk k n s ks) v) :
    Calls Tryd.prog 50 #[v] w fun e w' => e = .returned (.bool (infF k s ks.length)) ∧ Ext w w' := by
  obtain ⟨hs1, sv, rfl, a, cap, rfl, h1, h2, h3, h4⟩ := Tm.at_iff.1 ht
  have HT := Lib.hid ht
  clear h4 ht
  simp only [Tm.kind, Tm.n, Tm.name, Tm.kids] at *
  by_cases hk : k = 3
  · subst hk
    go_enter Tryd.func50, Tryd.ntmps50
    go_wp2_with (first | (go_at_call 37; refine (specl2Level_x _ _).mono ?_; rintro e w1 ⟨rfl, e1⟩; have hc1 := ext_cells e1; have hz1 : w.heap.size < w1.heap.size := size_ext e1 (by first | assumption | simp | (simp; omega))))
    all_goals
      go_ret
      exact ⟨retB (by simp_all [infF]), by first | exact ((((Ext.alloc _ _).trans e1).trans e2).trans e3).trans e4 | exact Ext.alloc _ _ | exact (Ext.alloc _ _).trans e1 | exact ((Ext.alloc _ _).trans e1).trans e2 | exact (((Ext.alloc _ _).trans e1).trans e2).trans e3 | exact (((Ext.alloc _ _).trans e1).trans (Ext.alloc _ _)).trans e2 | exact ((Ext.alloc _ _).trans (Ext.alloc _ _)).trans e1⟩
  · have hk1 : (k == 3) = false := by simp [hk]
    clear hk
    go_enter Tryd.func50, Tryd.ntmps50
    go_wp2_with (first | (go_at_call 37; refine (specl2Level_x _ _).mono ?_; rintro e w1 ⟨rfl, e1⟩; have hc1 := ext_cells e1; have hz1 : w.heap.size < w1.heap.size := size_ext e1 (by first | assumption | simp | (simp; omega))))
    all_goals
      go_ret
      exact ⟨retB (by simp_all [infF]), by first | exact ((((Ext.alloc _ _).trans e1).trans e2).trans e3).trans e4 | exact Ext.alloc _ _ | exact (Ext.alloc _ _).trans e1 | exact ((Ext.alloc _ _).trans e1).trans e2 | exact (((Ext.alloc _ _).trans e1).trans e2).trans e3 | exact (((Ext.alloc _ _).trans e1).trans (Ext.alloc _ _)).trans e2 | exact ((Ext.alloc _ _).trans (Ext.alloc _ _)).trans e1⟩

set_option maxRecDepth 100000 in
set_option maxHeartbeats 2000000 in
theorem specl2Sole (k n : Int) (s : ByteArray) (ks : List Tm) (v : Value) (S : Nat → Prop) (w : World) (ht : Tm.at S w (.mk k n s ks) v) :
    Calls Tryd.prog 75 #[v] w fun e w' => e = .returned (.bool (soleF k s ks.length)) ∧ Ext w w' := by
  obtain ⟨hs1, sv, rfl, a, cap, rfl, h1, h2, h3, h4⟩ := Tm.at_iff.1 ht
  have HT := Lib.hid ht
  clear h4 ht
  simp only [Tm.kind, Tm.n, Tm.name, Tm.kids] at *
  by_cases hk : k = 3
  · subst hk
    go_enter Tryd.func75, Tryd.ntmps75
    go_wp2_with (first | (go_at_call 37; refine (specl2Level_x _ _).mono ?_; rintro e w1 ⟨rfl, e1⟩; have hc1 := ext_cells e1; have hz1 : w.heap.size < w1.heap.size := size_ext e1 (by first | assumption | simp | (simp; omega))))
    all_goals
      go_ret
      exact ⟨retB (by simp_all [soleF]), by first | exact ((((Ext.alloc _ _).trans e1).trans e2).trans e3).trans e4 | exact Ext.alloc _ _ | exact (Ext.alloc _ _).trans e1 | exact ((Ext.alloc _ _).trans e1).trans e2 | exact (((Ext.alloc _ _).trans e1).trans e2).trans e3 | exact (((Ext.alloc _ _).trans e1).trans (Ext.alloc _ _)).trans e2 | exact ((Ext.alloc _ _).trans (Ext.alloc _ _)).trans e1⟩
  · have hk1 : (k == 3) = false := by simp [hk]
    clear hk
    go_enter Tryd.func75, Tryd.ntmps75
    go_wp2_with (first | (go_at_call 37; refine (specl2Level_x _ _).mono ?_; rintro e w1 ⟨rfl, e1⟩; have hc1 := ext_cells e1; have hz1 : w.heap.size < w1.heap.size := size_ext e1 (by first | assumption | simp | (simp; omega))))
    all_goals
      go_ret
      exact ⟨retB (by simp_all [soleF]), by first | exact ((((Ext.alloc _ _).trans e1).trans e2).trans e3).trans e4 | exact Ext.alloc _ _ | exact (Ext.alloc _ _).trans e1 | exact ((Ext.alloc _ _).trans e1).trans e2 | exact (((Ext.alloc _ _).trans e1).trans e2).trans e3 | exact (((Ext.alloc _ _).trans e1).trans (Ext.alloc _ _)).trans e2 | exact ((Ext.alloc _ _).trans (Ext.alloc _ _)).trans e1⟩

end Go.Proofs.YtifklfnpaigdkaaDoor
