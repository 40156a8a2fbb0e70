/-
  What the functions on kinds of goals return on every term (isAtom, isCut, isBuilt, isPlain, GoalValid, compares, CompareGoal and the reference's).
-/
import Derived.Test.YtognkaebiafgbaaMu13
import Derived.Test.YtognkaebiafgbaaMu14
import Derived.Test.YtognkaebiafgbaaMu4
namespace Go.Proofs.Ytognkaebiafgbaa
open Go.RowKit Go.Sort
set_option linter.unusedVariables false
def atomF (k : Int) (len : Nat) : Bool := (k == 3) && ((len : Int) == 0)
def cutF (k : Int) (s : ByteArray) (len : Nat) : Bool := (k == 3) && (s.toList == [33]) && ((len : Int) == 0)
def builtF (k : Int) (s : ByteArray) (len : Nat) : Bool := (k == 3) && isBuiltinF s.toList len
def plainF (k : Int) (s : ByteArray) (len : Nat) : Bool := (k == 3) && wordF s.toList && !(decide (0 < opLevelF s.toList)) && !isBuiltinF s.toList len
def goalF : Tm → Bool | .mk k n s ks => validF (.mk k n s ks) && (cutF k s ks.length || plainF k s ks.length || builtF k s ks.length)
theorem size_ext {W w1 : World} {n : Nat} (h : Ext W w1) (hn : n < W.heap.size) : n < w1.heap.size := Nat.lt_of_lt_of_le hn (Below.size h)
theorem opLevel_nn (s : List UInt8) : 0 ≤ opLevelF s := by unfold opLevelF; repeat' split <;> omega
theorem op0 (s : List UInt8) : (opLevelF s == 0) = !decide (0 < opLevelF s) := by
  have := opLevel_nn s
  by_cases h : opLevelF s = 0
  · rw [h]; rfl
  · rw [decide_eq_true (by omega)]; simpa using h
theorem implIsBuiltin_x (s : ByteArray) (n : Int) (w : World) : Calls Try.prog 8 #[.string s, .int .i64 n] w fun e w' => e = .returned (.bool (isBuiltinF s.toList n)) ∧ Ext w w' := (implIsBuiltin s n w).mono fun e w' ⟨h, h'⟩ => ⟨h, h' ▸ Ext.refl w⟩
theorem specIsBuiltin_x (s : ByteArray) (n : Int) (w : World) : Calls Try.prog 9 #[.string s, .int .i64 n] w fun e w' => e = .returned (.bool (isBuiltinF s.toList n)) ∧ Ext w w' := (specIsBuiltin s n w).mono fun e w' ⟨h, h'⟩ => ⟨h, h' ▸ Ext.refl w⟩
theorem implisLetters_x (s : ByteArray) (w : World) (hs : s.size ≤ 1048576) : Calls Try.prog 31 #[.string s] w fun e w' => e = .returned (.bool (wordF s.toList)) ∧ Ext w w' := (implisLetters s w hs).mono fun e w' ⟨h, h'⟩ => ⟨h, h' ▸ Ext.refl w⟩
theorem specl1Word_x (s : ByteArray) (w : World) (hs : s.size ≤ 1048576) : Calls Try.prog 48 #[.string s] w fun e w' => e = .returned (.bool (wordF s.toList)) ∧ Ext w w' := (specl1Word s w hs).mono fun e w' ⟨h, h'⟩ => ⟨h, h' ▸ Ext.refl w⟩
theorem specl2Level_x (s : ByteArray) (w : World) : Calls Try.prog 49 #[.string s] w fun e w' => e = .returned (.int .i64 (opLevelF s.toList)) ∧ Ext w w' := (specl2Level s w).mono fun e w' ⟨h, h'⟩ => ⟨h, h' ▸ Ext.refl w⟩
set_option maxHeartbeats 1000000 in
theorem implisOp (s : ByteArray) (w : World) : Calls Try.prog 32 #[.string s] w fun e w' => e = .returned (.bool (decide (0 < opLevelF s.toList))) ∧ Ext w w' := by
  go_enter Try.func32, Try.ntmps32
  go_wp2_with (go_at_call 46; refine (implOpLevel _ _).mono ?_; rintro e w1 ⟨rfl, rfl⟩)
  go_ret
  exact ⟨rfl, Ext.refl _⟩
set_option maxRecDepth 100000 in
set_option maxHeartbeats 2000000 in
theorem implisAtom (k n : Int) (s : ByteArray) (ks : List Tm) (v : Value) (S : Nat → Prop) (w : World) (ht : Tm.at S w (.mk k n s ks) v) :
    Calls Try.prog 33 #[v] w fun e w' => e = .returned (.bool (atomF k ks.length)) ∧ Ext w w' := by
  obtain ⟨hs1, sv, rfl, a, cap, rfl, h1, h2, h3, h4⟩ := Tm.at_iff.1 ht
  have HT := Lib.hid ht
  clear h4 ht
  simp only [Tm.kind, Tm.n, Tm.name, Tm.kids] at *
  by_cases hk : k = 3
  · subst hk
    go_enter Try.func33, Try.ntmps33
    go_wp2_with (fail)
    all_goals
      go_ret
      exact ⟨retB (by simp_all [atomF]), by first | exact ((((Ext.alloc _ _).trans e1).trans e2).trans e3).trans e4 | exact Ext.alloc _ _ | exact (Ext.alloc _ _).trans e1 | exact ((Ext.alloc _ _).trans e1).trans e2 | exact (((Ext.alloc _ _).trans e1).trans e2).trans e3 | exact (((Ext.alloc _ _).trans e1).trans (Ext.alloc _ _)).trans e2 | exact ((Ext.alloc _ _).trans (Ext.alloc _ _)).trans e1⟩
  · have hk1 : (k == 3) = false := by simp [hk]
    clear hk
    go_enter Try.func33, Try.ntmps33
    go_wp2_with (fail)
    all_goals
      go_ret
      exact ⟨retB (by simp_all [atomF]), by first | exact ((((Ext.alloc _ _).trans e1).trans e2).trans e3).trans e4 | exact Ext.alloc _ _ | exact (Ext.alloc _ _).trans e1 | exact ((Ext.alloc _ _).trans e1).trans e2 | exact (((Ext.alloc _ _).trans e1).trans e2).trans e3 | exact (((Ext.alloc _ _).trans e1).trans (Ext.alloc _ _)).trans e2 | exact ((Ext.alloc _ _).trans (Ext.alloc _ _)).trans e1⟩
set_option maxRecDepth 100000 in
set_option maxHeartbeats 2000000 in
theorem implisCut (k n : Int) (s : ByteArray) (ks : List Tm) (v : Value) (S : Nat → Prop) (w : World) (ht : Tm.at S w (.mk k n s ks) v) :
    Calls Try.prog 19 #[v] w fun e w' => e = .returned (.bool (cutF k s ks.length)) ∧ Ext w w' := by
  obtain ⟨hs1, sv, rfl, a, cap, rfl, h1, h2, h3, h4⟩ := Tm.at_iff.1 ht
  have HT := Lib.hid ht
  clear h4 ht
  simp only [Tm.kind, Tm.n, Tm.name, Tm.kids] at *
  by_cases hk : k = 3
  · subst hk
    go_enter Try.func19, Try.ntmps19
    go_wp2_with (first | (go_at_call 33; refine (implisAtom 3 n s ks _ S _ (Tm.at_ext (Ext.alloc _ _) HT.out)).mono ?_; rintro e w1 ⟨rfl, e1⟩; have hc1 := ext_cells e1; have hz1 : w.heap.size < w1.heap.size := size_ext e1 (by first | assumption | simp | (simp; omega))))
    all_goals
      go_ret
      exact ⟨retB (by simp_all [cutF, atomF]), by first | exact ((((Ext.alloc _ _).trans e1).trans e2).trans e3).trans e4 | exact Ext.alloc _ _ | exact (Ext.alloc _ _).trans e1 | exact ((Ext.alloc _ _).trans e1).trans e2 | exact (((Ext.alloc _ _).trans e1).trans e2).trans e3 | exact (((Ext.alloc _ _).trans e1).trans (Ext.alloc _ _)).trans e2 | exact ((Ext.alloc _ _).trans (Ext.alloc _ _)).trans e1⟩
  · have hk1 : (k == 3) = false := by simp [hk]
    clear hk
    go_enter Try.func19, Try.ntmps19
    go_wp2_with (first | (go_at_call 33; refine (implisAtom k n s ks _ S _ (Tm.at_ext (Ext.alloc _ _) HT.out)).mono ?_; rintro e w1 ⟨rfl, e1⟩; have hc1 := ext_cells e1; have hz1 : w.heap.size < w1.heap.size := size_ext e1 (by first | assumption | simp | (simp; omega))))
    all_goals
      go_ret
      exact ⟨retB (by simp_all [cutF, atomF]), by first | exact ((((Ext.alloc _ _).trans e1).trans e2).trans e3).trans e4 | exact Ext.alloc _ _ | exact (Ext.alloc _ _).trans e1 | exact ((Ext.alloc _ _).trans e1).trans e2 | exact (((Ext.alloc _ _).trans e1).trans e2).trans e3 | exact (((Ext.alloc _ _).trans e1).trans (Ext.alloc _ _)).trans e2 | exact ((Ext.alloc _ _).trans (Ext.alloc _ _)).trans e1⟩
set_option maxRecDepth 100000 in
set_option maxHeartbeats 2000000 in
theorem implisBuilt (k n : Int) (s : ByteArray) (ks : List Tm) (v : Value) (S : Nat → Prop) (w : World) (ht : Tm.at S w (.mk k n s ks) v) :
    Calls Try.prog 18 #[v] w fun e w' => e = .returned (.bool (builtF k s ks.length)) ∧ Ext w w' := by
  obtain ⟨hs1, sv, rfl, a, cap, rfl, h1, h2, h3, h4⟩ := Tm.at_iff.1 ht
  have HT := Lib.hid ht
  clear h4 ht
  simp only [Tm.kind, Tm.n, Tm.name, Tm.kids] at *
  by_cases hk : k = 3
  · subst hk
    go_enter Try.func18, Try.ntmps18
    go_wp2_with (first | (go_at_call 8; refine (implIsBuiltin_x _ _ _).mono ?_; rintro e w1 ⟨rfl, e1⟩; have hc1 := ext_cells e1; have hz1 : w.heap.size < w1.heap.size := size_ext e1 (by first | assumption | simp | (simp; omega))))
    all_goals
      go_ret
      exact ⟨retB (by simp_all [builtF]), by first | exact ((((Ext.alloc _ _).trans e1).trans e2).trans e3).trans e4 | exact Ext.alloc _ _ | exact (Ext.alloc _ _).trans e1 | exact ((Ext.alloc _ _).trans e1).trans e2 | exact (((Ext.alloc _ _).trans e1).trans e2).trans e3 | exact (((Ext.alloc _ _).trans e1).trans (Ext.alloc _ _)).trans e2 | exact ((Ext.alloc _ _).trans (Ext.alloc _ _)).trans e1⟩
  · have hk1 : (k == 3) = false := by simp [hk]
    clear hk
    go_enter Try.func18, Try.ntmps18
    go_wp2_with (first | (go_at_call 8; refine (implIsBuiltin_x _ _ _).mono ?_; rintro e w1 ⟨rfl, e1⟩; have hc1 := ext_cells e1; have hz1 : w.heap.size < w1.heap.size := size_ext e1 (by first | assumption | simp | (simp; omega))))
    all_goals
      go_ret
      exact ⟨retB (by simp_all [builtF]), by first | exact ((((Ext.alloc _ _).trans e1).trans e2).trans e3).trans e4 | exact Ext.alloc _ _ | exact (Ext.alloc _ _).trans e1 | exact ((Ext.alloc _ _).trans e1).trans e2 | exact (((Ext.alloc _ _).trans e1).trans e2).trans e3 | exact (((Ext.alloc _ _).trans e1).trans (Ext.alloc _ _)).trans e2 | exact ((Ext.alloc _ _).trans (Ext.alloc _ _)).trans e1⟩
set_option maxRecDepth 100000 in
set_option maxHeartbeats 2000000 in
theorem implisPlain (k n : Int) (s : ByteArray) (ks : List Tm) (v : Value) (S : Nat → Prop) (w : World) (ht : Tm.at S w (.mk k n s ks) v) :
    Calls Try.prog 17 #[v] w fun e w' => e = .returned (.bool (plainF k s ks.length)) ∧ Ext w w' := by
  obtain ⟨hs1, sv, rfl, a, cap, rfl, h1, h2, h3, h4⟩ := Tm.at_iff.1 ht
  have HT := Lib.hid ht
  clear h4 ht
  simp only [Tm.kind, Tm.n, Tm.name, Tm.kids] at *
  by_cases hk : k = 3
  · subst hk
    go_enter Try.func17, Try.ntmps17
    go_wp2_with (first | (go_at_call 31; refine (implisLetters_x _ _ hs1).mono ?_; rintro e w1 ⟨rfl, e1⟩; have hc1 := ext_cells e1; have hz1 : w.heap.size < w1.heap.size := size_ext e1 (by first | assumption | simp | (simp; omega))) | (go_at_call 32; refine (implisOp _ _).mono ?_; rintro e w2 ⟨rfl, e2⟩; have hc2 := ext_cells e2; have hz2 : w.heap.size < w2.heap.size := size_ext e2 (by first | assumption | simp | (simp; omega))) | (go_at_call 18; refine (implisBuilt 3 n s ks _ S _ (Tm.at_ext (((Ext.alloc _ _).trans e1).trans e2) HT.out)).mono ?_; rintro e w3 ⟨rfl, e3⟩; have hc3 := ext_cells e3; have hz3 : w.heap.size < w3.heap.size := size_ext e3 (by first | assumption | simp | (simp; omega))))
    all_goals
      go_ret
      exact ⟨retB (by simp_all [plainF, builtF]), by first | exact ((((Ext.alloc _ _).trans e1).trans e2).trans e3).trans e4 | exact Ext.alloc _ _ | exact (Ext.alloc _ _).trans e1 | exact ((Ext.alloc _ _).trans e1).trans e2 | exact (((Ext.alloc _ _).trans e1).trans e2).trans e3 | exact (((Ext.alloc _ _).trans e1).trans (Ext.alloc _ _)).trans e2 | exact ((Ext.alloc _ _).trans (Ext.alloc _ _)).trans e1⟩
  · have hk1 : (k == 3) = false := by simp [hk]
    clear hk
    go_enter Try.func17, Try.ntmps17
    go_wp2_with (first | (go_at_call 31; refine (implisLetters_x _ _ hs1).mono ?_; rintro e w1 ⟨rfl, e1⟩; have hc1 := ext_cells e1; have hz1 : w.heap.size < w1.heap.size := size_ext e1 (by first | assumption | simp | (simp; omega))) | (go_at_call 32; refine (implisOp _ _).mono ?_; rintro e w2 ⟨rfl, e2⟩; have hc2 := ext_cells e2; have hz2 : w.heap.size < w2.heap.size := size_ext e2 (by first | assumption | simp | (simp; omega))) | (go_at_call 18; refine (implisBuilt k n s ks _ S _ (Tm.at_ext (((Ext.alloc _ _).trans e1).trans e2) HT.out)).mono ?_; rintro e w3 ⟨rfl, e3⟩; have hc3 := ext_cells e3; have hz3 : w.heap.size < w3.heap.size := size_ext e3 (by first | assumption | simp | (simp; omega))))
    all_goals
      go_ret
      exact ⟨retB (by simp_all [plainF]), by first | exact ((((Ext.alloc _ _).trans e1).trans e2).trans e3).trans e4 | exact Ext.alloc _ _ | exact (Ext.alloc _ _).trans e1 | exact ((Ext.alloc _ _).trans e1).trans e2 | exact (((Ext.alloc _ _).trans e1).trans e2).trans e3 | exact (((Ext.alloc _ _).trans e1).trans (Ext.alloc _ _)).trans e2 | exact ((Ext.alloc _ _).trans (Ext.alloc _ _)).trans e1⟩
set_option maxRecDepth 100000 in
set_option maxHeartbeats 2000000 in
theorem specl4Cut (k n : Int) (s : ByteArray) (ks : List Tm) (v : Value) (S : Nat → Prop) (w : World) (ht : Tm.at S w (.mk k n s ks) v) :
    Calls Try.prog 36 #[v] w fun e w' => e = .returned (.bool (cutF k s ks.length)) ∧ Ext w w' := by
  obtain ⟨hs1, sv, rfl, a, cap, rfl, h1, h2, h3, h4⟩ := Tm.at_iff.1 ht
  have HT := Lib.hid ht
  clear h4 ht
  simp only [Tm.kind, Tm.n, Tm.name, Tm.kids] at *
  by_cases hk : k = 3
  · subst hk
    go_enter Try.func36, Try.ntmps36
    go_wp2_with (fail)
    all_goals
      go_ret
      exact ⟨retB (by simp_all [cutF]), by first | exact ((((Ext.alloc _ _).trans e1).trans e2).trans e3).trans e4 | exact Ext.alloc _ _ | exact (Ext.alloc _ _).trans e1 | exact ((Ext.alloc _ _).trans e1).trans e2 | exact (((Ext.alloc _ _).trans e1).trans e2).trans e3 | exact (((Ext.alloc _ _).trans e1).trans (Ext.alloc _ _)).trans e2 | exact ((Ext.alloc _ _).trans (Ext.alloc _ _)).trans e1⟩
  · have hk1 : (k == 3) = false := by simp [hk]
    clear hk
    go_enter Try.func36, Try.ntmps36
    go_wp2_with (fail)
    all_goals
      go_ret
      exact ⟨retB (by simp_all [cutF]), by first | exact ((((Ext.alloc _ _).trans e1).trans e2).trans e3).trans e4 | exact Ext.alloc _ _ | exact (Ext.alloc _ _).trans e1 | exact ((Ext.alloc _ _).trans e1).trans e2 | exact (((Ext.alloc _ _).trans e1).trans e2).trans e3 | exact (((Ext.alloc _ _).trans e1).trans (Ext.alloc _ _)).trans e2 | exact ((Ext.alloc _ _).trans (Ext.alloc _ _)).trans e1⟩
set_option maxRecDepth 100000 in
set_option maxHeartbeats 2000000 in
theorem specl4Plain (k n : Int) (s : ByteArray) (ks : List Tm) (v : Value) (S : Nat → Prop) (w : World) (ht : Tm.at S w (.mk k n s ks) v) :
    Calls Try.prog 37 #[v] w fun e w' => e = .returned (.bool (plainF k s ks.length)) ∧ Ext w w' := by
  obtain ⟨hs1, sv, rfl, a, cap, rfl, h1, h2, h3, h4⟩ := Tm.at_iff.1 ht
  have HT := Lib.hid ht
  clear h4 ht
  simp only [Tm.kind, Tm.n, Tm.name, Tm.kids] at *
  by_cases hk : k = 3
  · subst hk
    go_enter Try.func37, Try.ntmps37
    go_wp2_with (first | (go_at_call 48; refine (specl1Word_x _ _ hs1).mono ?_; rintro e w1 ⟨rfl, e1⟩; have hc1 := ext_cells e1; have hz1 : w.heap.size < w1.heap.size := size_ext e1 (by first | assumption | simp | (simp; omega))) | (go_at_call 9; refine (specIsBuiltin_x _ _ _).mono ?_; rintro e w2 ⟨rfl, e2⟩; have hc2 := ext_cells e2; have hz2 : w.heap.size < w2.heap.size := size_ext e2 (by first | assumption | simp | (simp; omega))) | (go_at_call 49; refine (specl2Level_x _ _).mono ?_; rintro e w3 ⟨rfl, e3⟩; have hc3 := ext_cells e3; have hz3 : w.heap.size < w3.heap.size := size_ext e3 (by first | assumption | simp | (simp; omega))))
    all_goals
      go_ret
      exact ⟨retB (by simp_all [plainF, op0]), by first | exact ((((Ext.alloc _ _).trans e1).trans e2).trans e3).trans e4 | exact Ext.alloc _ _ | exact (Ext.alloc _ _).trans e1 | exact ((Ext.alloc _ _).trans e1).trans e2 | exact (((Ext.alloc _ _).trans e1).trans e2).trans e3 | exact (((Ext.alloc _ _).trans e1).trans (Ext.alloc _ _)).trans e2 | exact ((Ext.alloc _ _).trans (Ext.alloc _ _)).trans e1⟩
  · have hk1 : (k == 3) = false := by simp [hk]
    clear hk
    go_enter Try.func37, Try.ntmps37
    go_wp2_with (first | (go_at_call 48; refine (specl1Word_x _ _ hs1).mono ?_; rintro e w1 ⟨rfl, e1⟩; have hc1 := ext_cells e1; have hz1 : w.heap.size < w1.heap.size := size_ext e1 (by first | assumption | simp | (simp; omega))) | (go_at_call 9; refine (specIsBuiltin_x _ _ _).mono ?_; rintro e w2 ⟨rfl, e2⟩; have hc2 := ext_cells e2; have hz2 : w.heap.size < w2.heap.size := size_ext e2 (by first | assumption | simp | (simp; omega))) | (go_at_call 49; refine (specl2Level_x _ _).mono ?_; rintro e w3 ⟨rfl, e3⟩; have hc3 := ext_cells e3; have hz3 : w.heap.size < w3.heap.size := size_ext e3 (by first | assumption | simp | (simp; omega))))
    all_goals
      go_ret
      exact ⟨retB (by simp_all [plainF]), by first | exact ((((Ext.alloc _ _).trans e1).trans e2).trans e3).trans e4 | exact Ext.alloc _ _ | exact (Ext.alloc _ _).trans e1 | exact ((Ext.alloc _ _).trans e1).trans e2 | exact (((Ext.alloc _ _).trans e1).trans e2).trans e3 | exact (((Ext.alloc _ _).trans e1).trans (Ext.alloc _ _)).trans e2 | exact ((Ext.alloc _ _).trans (Ext.alloc _ _)).trans e1⟩
set_option maxRecDepth 100000 in
set_option maxHeartbeats 2000000 in
theorem specl4Goal (k n : Int) (s : ByteArray) (ks : List Tm) (v : Value) (S : Nat → Prop) (w : World) (ht : Tm.at S w (.mk k n s ks) v) :
    Calls Try.prog 23 #[v] w fun e w' => e = .returned (.bool ((cutF k s ks.length || plainF k s ks.length || builtF k s ks.length))) ∧ Ext w w' := by
  obtain ⟨hs1, sv, rfl, a, cap, rfl, h1, h2, h3, h4⟩ := Tm.at_iff.1 ht
  have HT := Lib.hid ht
  clear h4 ht
  simp only [Tm.kind, Tm.n, Tm.name, Tm.kids] at *
  by_cases hk : k = 3
  · subst hk
    go_enter Try.func23, Try.ntmps23
    go_wp2_with (first | (go_at_call 36; refine (specl4Cut 3 n s ks _ S _ (Tm.at_ext (Ext.alloc _ _) HT.out)).mono ?_; rintro e w1 ⟨rfl, e1⟩; have hc1 := ext_cells e1; have hz1 : w.heap.size < w1.heap.size := size_ext e1 (by first | assumption | simp | (simp; omega))) | (go_at_call 37; refine (specl4Plain 3 n s ks _ S _ (Tm.at_ext (((Ext.alloc _ _).trans e1)) HT.out)).mono ?_; rintro e w2 ⟨rfl, e2⟩; have hc2 := ext_cells e2; have hz2 : w.heap.size < w2.heap.size := size_ext e2 (by first | assumption | simp | (simp; omega))) | (go_at_call 9; refine (specIsBuiltin_x _ _ _).mono ?_; rintro e w3 ⟨rfl, e3⟩; have hc3 := ext_cells e3; have hz3 : w.heap.size < w3.heap.size := size_ext e3 (by first | assumption | simp | (simp; omega))))
    all_goals
      go_ret
      exact ⟨retB (by simp_all [builtF]), by first | exact ((((Ext.alloc _ _).trans e1).trans e2).trans e3).trans e4 | exact Ext.alloc _ _ | exact (Ext.alloc _ _).trans e1 | exact ((Ext.alloc _ _).trans e1).trans e2 | exact (((Ext.alloc _ _).trans e1).trans e2).trans e3 | exact (((Ext.alloc _ _).trans e1).trans (Ext.alloc _ _)).trans e2 | exact ((Ext.alloc _ _).trans (Ext.alloc _ _)).trans e1⟩
  · have hk1 : (k == 3) = false := by simp [hk]
    clear hk
    go_enter Try.func23, Try.ntmps23
    go_wp2_with (first | (go_at_call 36; refine (specl4Cut k n s ks _ S _ (Tm.at_ext (Ext.alloc _ _) HT.out)).mono ?_; rintro e w1 ⟨rfl, e1⟩; have hc1 := ext_cells e1; have hz1 : w.heap.size < w1.heap.size := size_ext e1 (by first | assumption | simp | (simp; omega))) | (go_at_call 37; refine (specl4Plain k n s ks _ S _ (Tm.at_ext (((Ext.alloc _ _).trans e1)) HT.out)).mono ?_; rintro e w2 ⟨rfl, e2⟩; have hc2 := ext_cells e2; have hz2 : w.heap.size < w2.heap.size := size_ext e2 (by first | assumption | simp | (simp; omega))) | (go_at_call 9; refine (specIsBuiltin_x _ _ _).mono ?_; rintro e w3 ⟨rfl, e3⟩; have hc3 := ext_cells e3; have hz3 : w.heap.size < w3.heap.size := size_ext e3 (by first | assumption | simp | (simp; omega))))
    all_goals
      go_ret
      exact ⟨retB (by simp_all [builtF]), by first | exact ((((Ext.alloc _ _).trans e1).trans e2).trans e3).trans e4 | exact Ext.alloc _ _ | exact (Ext.alloc _ _).trans e1 | exact ((Ext.alloc _ _).trans e1).trans e2 | exact (((Ext.alloc _ _).trans e1).trans e2).trans e3 | exact (((Ext.alloc _ _).trans e1).trans (Ext.alloc _ _)).trans e2 | exact ((Ext.alloc _ _).trans (Ext.alloc _ _)).trans e1⟩
set_option maxRecDepth 100000 in
set_option maxHeartbeats 2000000 in
theorem implGoalValid (k n : Int) (s : ByteArray) (ks : List Tm) (v : Value) (S : Nat → Prop) (w : World) (ht : Tm.at S w (.mk k n s ks) v) :
    Calls Try.prog 5 #[v] w fun e w' => e = .returned (.bool (goalF (.mk k n s ks))) ∧ Ext w w' := by
  obtain ⟨hs1, sv, rfl, a, cap, rfl, h1, h2, h3, h4⟩ := Tm.at_iff.1 ht
  have HT := Lib.hid ht
  clear h4 ht
  simp only [Tm.kind, Tm.n, Tm.name, Tm.kids] at *
  by_cases hk : k = 3
  · subst hk
    go_enter Try.func5, Try.ntmps5
    go_wp2_with (first | (go_at_call 16; refine (implTermValid (.mk 3 n s ks) _ S _ (Tm.at_ext (Ext.alloc _ _) HT.out)).mono ?_; rintro e w1 ⟨rfl, e1⟩; have hc1 := ext_cells e1; have hz1 : w.heap.size < w1.heap.size := size_ext e1 (by first | assumption | simp | (simp; omega))) | (go_at_call 17; refine (implisPlain 3 n s ks _ S _ (Tm.at_ext (((Ext.alloc _ _).trans e1)) HT.out)).mono ?_; rintro e w2 ⟨rfl, e2⟩; have hc2 := ext_cells e2; have hz2 : w.heap.size < w2.heap.size := size_ext e2 (by first | assumption | simp | (simp; omega))) | (go_at_call 18; refine (implisBuilt 3 n s ks _ S _ (Tm.at_ext (((Ext.alloc _ _).trans e1).trans e2) HT.out)).mono ?_; rintro e w3 ⟨rfl, e3⟩; have hc3 := ext_cells e3; have hz3 : w.heap.size < w3.heap.size := size_ext e3 (by first | assumption | simp | (simp; omega))) | (go_at_call 19; refine (implisCut 3 n s ks _ S _ (Tm.at_ext ((((Ext.alloc _ _).trans e1).trans e2).trans e3) HT.out)).mono ?_; rintro e w4 ⟨rfl, e4⟩; have hc4 := ext_cells e4; have hz4 : w.heap.size < w4.heap.size := size_ext e4 (by first | assumption | simp | (simp; omega))))
    all_goals
      go_ret
      exact ⟨retB (by simp_all [goalF]), by first | exact ((((Ext.alloc _ _).trans e1).trans e2).trans e3).trans e4 | exact Ext.alloc _ _ | exact (Ext.alloc _ _).trans e1 | exact ((Ext.alloc _ _).trans e1).trans e2 | exact (((Ext.alloc _ _).trans e1).trans e2).trans e3 | exact (((Ext.alloc _ _).trans e1).trans (Ext.alloc _ _)).trans e2 | exact ((Ext.alloc _ _).trans (Ext.alloc _ _)).trans e1⟩
  · have hk1 : (k == 3) = false := by simp [hk]
    clear hk
    go_enter Try.func5, Try.ntmps5
    go_wp2_with (first | (go_at_call 16; refine (implTermValid (.mk k n s ks) _ S _ (Tm.at_ext (Ext.alloc _ _) HT.out)).mono ?_; rintro e w1 ⟨rfl, e1⟩; have hc1 := ext_cells e1; have hz1 : w.heap.size < w1.heap.size := size_ext e1 (by first | assumption | simp | (simp; omega))) | (go_at_call 17; refine (implisPlain k n s ks _ S _ (Tm.at_ext (((Ext.alloc _ _).trans e1)) HT.out)).mono ?_; rintro e w2 ⟨rfl, e2⟩; have hc2 := ext_cells e2; have hz2 : w.heap.size < w2.heap.size := size_ext e2 (by first | assumption | simp | (simp; omega))) | (go_at_call 18; refine (implisBuilt k n s ks _ S _ (Tm.at_ext (((Ext.alloc _ _).trans e1).trans e2) HT.out)).mono ?_; rintro e w3 ⟨rfl, e3⟩; have hc3 := ext_cells e3; have hz3 : w.heap.size < w3.heap.size := size_ext e3 (by first | assumption | simp | (simp; omega))) | (go_at_call 19; refine (implisCut k n s ks _ S _ (Tm.at_ext ((((Ext.alloc _ _).trans e1).trans e2).trans e3) HT.out)).mono ?_; rintro e w4 ⟨rfl, e4⟩; have hc4 := ext_cells e4; have hz4 : w.heap.size < w4.heap.size := size_ext e4 (by first | assumption | simp | (simp; omega))))
    all_goals
      go_ret
      exact ⟨retB (by simp_all [goalF]), by first | exact ((((Ext.alloc _ _).trans e1).trans e2).trans e3).trans e4 | exact Ext.alloc _ _ | exact (Ext.alloc _ _).trans e1 | exact ((Ext.alloc _ _).trans e1).trans e2 | exact (((Ext.alloc _ _).trans e1).trans e2).trans e3 | exact (((Ext.alloc _ _).trans e1).trans (Ext.alloc _ _)).trans e2 | exact ((Ext.alloc _ _).trans (Ext.alloc _ _)).trans e1⟩
set_option maxRecDepth 100000 in
set_option maxHeartbeats 2000000 in
theorem specGoalValid (k n : Int) (s : ByteArray) (ks : List Tm) (v : Value) (S : Nat → Prop) (w : World) (ht : Tm.at S w (.mk k n s ks) v) :
    Calls Try.prog 7 #[v] w fun e w' => e = .returned (.bool (goalF (.mk k n s ks))) ∧ Ext w w' := by
  obtain ⟨hs1, sv, rfl, a, cap, rfl, h1, h2, h3, h4⟩ := Tm.at_iff.1 ht
  have HT := Lib.hid ht
  clear h4 ht
  simp only [Tm.kind, Tm.n, Tm.name, Tm.kids] at *
  by_cases hk : k = 3
  · subst hk
    go_enter Try.func7, Try.ntmps7
    go_wp2_with (first | (go_at_call 22; refine (specTermValid (.mk 3 n s ks) _ S _ (Tm.at_ext (Ext.alloc _ _) HT.out)).mono ?_; rintro e w1 ⟨rfl, e1⟩; have hc1 := ext_cells e1; have hz1 : w.heap.size < w1.heap.size := size_ext e1 (by first | assumption | simp | (simp; omega))) | (go_at_call 23; refine (specl4Goal 3 n s ks _ S _ (Tm.at_ext (((Ext.alloc _ _).trans e1)) HT.out)).mono ?_; rintro e w2 ⟨rfl, e2⟩; have hc2 := ext_cells e2; have hz2 : w.heap.size < w2.heap.size := size_ext e2 (by first | assumption | simp | (simp; omega))))
    all_goals
      go_ret
      exact ⟨retB (by simp_all [goalF]), by first | exact ((((Ext.alloc _ _).trans e1).trans e2).trans e3).trans e4 | exact Ext.alloc _ _ | exact (Ext.alloc _ _).trans e1 | exact ((Ext.alloc _ _).trans e1).trans e2 | exact (((Ext.alloc _ _).trans e1).trans e2).trans e3 | exact (((Ext.alloc _ _).trans e1).trans (Ext.alloc _ _)).trans e2 | exact ((Ext.alloc _ _).trans (Ext.alloc _ _)).trans e1⟩
  · have hk1 : (k == 3) = false := by simp [hk]
    clear hk
    go_enter Try.func7, Try.ntmps7
    go_wp2_with (first | (go_at_call 22; refine (specTermValid (.mk k n s ks) _ S _ (Tm.at_ext (Ext.alloc _ _) HT.out)).mono ?_; rintro e w1 ⟨rfl, e1⟩; have hc1 := ext_cells e1; have hz1 : w.heap.size < w1.heap.size := size_ext e1 (by first | assumption | simp | (simp; omega))) | (go_at_call 23; refine (specl4Goal k n s ks _ S _ (Tm.at_ext (((Ext.alloc _ _).trans e1)) HT.out)).mono ?_; rintro e w2 ⟨rfl, e2⟩; have hc2 := ext_cells e2; have hz2 : w.heap.size < w2.heap.size := size_ext e2 (by first | assumption | simp | (simp; omega))))
    all_goals
      go_ret
      exact ⟨retB (by simp_all [goalF]), by first | exact ((((Ext.alloc _ _).trans e1).trans e2).trans e3).trans e4 | exact Ext.alloc _ _ | exact (Ext.alloc _ _).trans e1 | exact ((Ext.alloc _ _).trans e1).trans e2 | exact (((Ext.alloc _ _).trans e1).trans e2).trans e3 | exact (((Ext.alloc _ _).trans e1).trans (Ext.alloc _ _)).trans e2 | exact ((Ext.alloc _ _).trans (Ext.alloc _ _)).trans e1⟩
theorem implGoalValid_t (t : Tm) (v : Value) (S : Nat → Prop) (w : World) (ht : Tm.at S w t v) : Calls Try.prog 5 #[v] w fun e w' => e = .returned (.bool (goalF t)) ∧ Ext w w' := by
  obtain ⟨k, n, s, ks⟩ := t
  exact implGoalValid k n s ks v S w ht
theorem specGoalValid_t (t : Tm) (v : Value) (S : Nat → Prop) (w : World) (ht : Tm.at S w t v) : Calls Try.prog 7 #[v] w fun e w' => e = .returned (.bool (goalF t)) ∧ Ext w w' := by
  obtain ⟨k, n, s, ks⟩ := t
  exact specGoalValid k n s ks v S w ht
end Go.Proofs.Ytognkaebiafgbaa
