/-
  What the functions on kinds of goals return on every term (isAtom, isCut, isBuilt, isPlain, GoalValid, compares, CompareGoal and the reference's).
-/
import Derived.Test.YtifklfnpaigdkaaDoorSpecValid
import Derived.Test.YtifklfnpaigdkaaDoorOpNames
namespace Go.Proofs.YtifklfnpaigdkaaDoor
open Go.RowKit Go.Sort
set_option linter.unusedVariables false

theorem ext_cells {W w1 : World} (h : Ext W w1) : ∀ b o, b < W.heap.size → w1.cell? ⟨b, o, none⟩ = W.cell? ⟨b, o, none⟩ := fun b o hb => Below.cell (p := ⟨b, o, none⟩) h hb

def atomF (k : Int) (len : Nat) : Bool := (k == 3) && ((len : Int) == 0)
def cutF (k : Int) (s : ByteArray) (len : Nat) : Bool := (k == 3) && (s.toList == [33]) && ((len : Int) == 0)
def builtF (k : Int) (s : ByteArray) (len : Nat) : Bool := (k == 3) && isBuiltinF s.toList len
def plainF (k : Int) (s : ByteArray) (len : Nat) : Bool := (k == 3) && wordF s.toList && !(decide (0 < opLevelF s.toList)) && !isBuiltinF s.toList len
def five : List ByteArray := [⟨#[60]⟩, ⟨#[62]⟩, ⟨#[61, 60]⟩, ⟨#[62, 61]⟩, ⟨#[61, 58, 61]⟩]
def cmpGF (k : Int) (s : ByteArray) (len : Nat) : Bool := (k == 3) && ((len : Int) == 2) && hasF five s
def goalF : Tm → Bool | .mk k n s ks => validF (.mk k n s ks) && (cutF k s ks.length || plainF k s ks.length || builtF k s ks.length)
theorem size_ext {W w1 : World} {n : Nat} (h : Ext W w1) (hn : n < W.heap.size) : n < w1.heap.size := Nat.lt_of_lt_of_le hn (Below.size h)
theorem opLevel_nn (s : List UInt8) : 0 ≤ opLevelF s := by unfold opLevelF; repeat' split <;> omega
theorem op0 (s : List UInt8) : (opLevelF s == 0) = !decide (0 < opLevelF s) := by
  have := opLevel_nn s
  by_cases h : opLevelF s = 0
  · rw [h]; rfl
  · rw [decide_eq_true (by omega)]; simpa using h

theorem implisLetters_x (s : ByteArray) (w : World) (hs : s.size ≤ 1048576) : Calls Tryd.prog 80 #[.string s] w fun e w' => e = .returned (.bool (wordF s.toList)) ∧ Ext w w' := (implisLetters s w hs).mono fun e w' ⟨h, h'⟩ => ⟨h, h' ▸ Ext.refl w⟩
theorem specl1Word_x (s : ByteArray) (w : World) (hs : s.size ≤ 1048576) : Calls Tryd.prog 92 #[.string s] w fun e w' => e = .returned (.bool (wordF s.toList)) ∧ Ext w w' := (specl1Word s w hs).mono fun e w' ⟨h, h'⟩ => ⟨h, h' ▸ Ext.refl w⟩
theorem specl2Level_x (s : ByteArray) (w : World) : Calls Tryd.prog 37 #[.string s] w fun e w' => e = .returned (.int .i64 (opLevelF s.toList)) ∧ Ext w w' := (specl2Level s w).mono fun e w' ⟨h, h'⟩ => ⟨h, h' ▸ Ext.refl w⟩
set_option maxHeartbeats 1000000 in
theorem implisOp (s : ByteArray) (w : World) : Calls Tryd.prog 55 #[.string s] w fun e w' => e = .returned (.bool (decide (0 < opLevelF s.toList))) ∧ Ext w w' := by
  go_enter Tryd.func55, Tryd.ntmps55
  go_wp2_with (go_at_call 18; refine (implOpLevel _ _).mono ?_; rintro e w1 ⟨rfl, rfl⟩)
  go_ret
  exact ⟨rfl, Ext.refl _⟩

set_option maxRecDepth 100000 in
set_option maxHeartbeats 2000000 in
theorem implisAtom (k n : Int) (s : ByteArray) (ks : List Tm) (v : Value) (S : Nat → Prop) (w : World) (ht : Tm.at S w (.mk k n s ks) v) :
    Calls Tryd.prog 79 #[v] w fun e w' => e = .returned (.bool (atomF k ks.length)) ∧ Ext w w' := by
  obtain ⟨hs1, sv, rfl, a, cap, rfl, h1, h2, h3, h4⟩ := Tm.at_iff.1 ht
  have HT := Lib.hid ht
  clear h4 ht
  simp only [Tm.kind, Tm.n, Tm.name, Tm.kids] at *
  by_cases hk : k = 3
  · subst hk
    go_enter Tryd.func79, Tryd.ntmps79
    go_wp2_with (fail)
    all_goals
      go_ret
      exact ⟨retB (by simp_all [atomF]), by first | exact ((((Ext.alloc _ _).trans e1).trans e2).trans e3).trans e4 | exact Ext.alloc _ _ | exact (Ext.alloc _ _).trans e1 | exact ((Ext.alloc _ _).trans e1).trans e2 | exact (((Ext.alloc _ _).trans e1).trans e2).trans e3 | exact (((Ext.alloc _ _).trans e1).trans (Ext.alloc _ _)).trans e2 | exact ((Ext.alloc _ _).trans (Ext.alloc _ _)).trans e1⟩
  · have hk1 : (k == 3) = false := by simp [hk]
    clear hk
    go_enter Tryd.func79, Tryd.ntmps79
    go_wp2_with (fail)
    all_goals
      go_ret
      exact ⟨retB (by simp_all [atomF]), by first | exact ((((Ext.alloc _ _).trans e1).trans e2).trans e3).trans e4 | exact Ext.alloc _ _ | exact (Ext.alloc _ _).trans e1 | exact ((Ext.alloc _ _).trans e1).trans e2 | exact (((Ext.alloc _ _).trans e1).trans e2).trans e3 | exact (((Ext.alloc _ _).trans e1).trans (Ext.alloc _ _)).trans e2 | exact ((Ext.alloc _ _).trans (Ext.alloc _ _)).trans e1⟩









end Go.Proofs.YtifklfnpaigdkaaDoor
