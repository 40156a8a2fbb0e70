/-
  What the functions on names of operators and of goals that are built in return: whatever the name.
-/
import Derived.Test.YtognkaebiafgbaaRows
import Derived.WalkKit
import Derived.WalkSpells
import Derived.WalkLawsBesides
import Derived.Lib.Hide
namespace Go.Proofs.Ytognkaebiafgbaa
open Go.RowKit
def isBuiltinF (s : List UInt8) (n : Int) : Bool :=
  if s = [61] ∨ s = [92, 61] ∨ s = [61, 61] ∨ s = [60] ∨ s = [62] ∨ s = [61, 60] ∨ s = [62, 61] ∨ s = [61, 58, 61] ∨ s = [105, 115] then n == 2 else
  if s = [116, 114, 117, 101] ∨ s = [102, 97, 105, 108] then n == 0 else
  if s = [118, 97, 114] ∨ s = [110, 111, 110, 118, 97, 114] ∨ s = [97, 116, 111, 109] ∨ s = [105, 110, 116] then n == 1 else
  if s = [97, 114, 103] then n == 3 else
  false
def opLevelF (s : List UInt8) : Int :=
  if s = [61] ∨ s = [92, 61] ∨ s = [61, 61] ∨ s = [60] ∨ s = [62] ∨ s = [61, 60] ∨ s = [62, 61] ∨ s = [61, 58, 61] ∨ s = [105, 115] then 3 else
  if s = [43] ∨ s = [45] then 2 else
  if s = [42] ∨ s = [47, 47] ∨ s = [109, 111, 100] then 1 else
  0
set_option maxHeartbeats 1000000 in
theorem specIsBuiltin (s : ByteArray) (n : Int) (w : World) : Calls Try.prog 9 #[.string s, .int .i64 n] w fun e w' => e = .returned (.bool (isBuiltinF s.toList n)) ∧ w = w' := by
  by_cases h : s.toList = [61] ∨ s.toList = [92, 61] ∨ s.toList = [61, 61] ∨ s.toList = [60] ∨ s.toList = [62] ∨ s.toList = [61, 60] ∨ s.toList = [62, 61] ∨ s.toList = [61, 58, 61] ∨ s.toList = [105, 115] ∨ s.toList = [116, 114, 117, 101] ∨ s.toList = [102, 97, 105, 108] ∨ s.toList = [118, 97, 114] ∨ s.toList = [110, 111, 110, 118, 97, 114] ∨ s.toList = [97, 116, 111, 109] ∨ s.toList = [105, 110, 116] ∨ s.toList = [97, 114, 103]
  · rcases h with h | h | h | h | h | h | h | h | h | h | h | h | h | h | h | h
    all_goals
      go_enter Try.func9, Try.ntmps9
      go_wp2
      go_ret
      exact ⟨by simp [isBuiltinF, h], rfl⟩
  · simp only [not_or] at h
    obtain ⟨h0, h1, h2, h3, h4, h5, h6, h7, h8, h9, h10, h11, h12, h13, h14, h15⟩ := h
    have g0 : (s.toList == [61]) = false := by simpa using h0
    have g1 : (s.toList == [92, 61]) = false := by simpa using h1
    have g2 : (s.toList == [61, 61]) = false := by simpa using h2
    have g3 : (s.toList == [60]) = false := by simpa using h3
    have g4 : (s.toList == [62]) = false := by simpa using h4
    have g5 : (s.toList == [61, 60]) = false := by simpa using h5
    have g6 : (s.toList == [62, 61]) = false := by simpa using h6
    have g7 : (s.toList == [61, 58, 61]) = false := by simpa using h7
    have g8 : (s.toList == [105, 115]) = false := by simpa using h8
    have g9 : (s.toList == [116, 114, 117, 101]) = false := by simpa using h9
    have g10 : (s.toList == [102, 97, 105, 108]) = false := by simpa using h10
    have g11 : (s.toList == [118, 97, 114]) = false := by simpa using h11
    have g12 : (s.toList == [110, 111, 110, 118, 97, 114]) = false := by simpa using h12
    have g13 : (s.toList == [97, 116, 111, 109]) = false := by simpa using h13
    have g14 : (s.toList == [105, 110, 116]) = false := by simpa using h14
    have g15 : (s.toList == [97, 114, 103]) = false := by simpa using h15
    clear h0 h1 h2 h3 h4 h5 h6 h7 h8 h9 h10 h11 h12 h13 h14 h15
    go_enter Try.func9, Try.ntmps9
    go_wp2
    go_ret
    simp only [beq_eq_false_iff_ne, ne_eq] at g0 g1 g2 g3 g4 g5 g6 g7 g8 g9 g10 g11 g12 g13 g14 g15
    exact ⟨by simp [isBuiltinF, g0, g1, g2, g3, g4, g5, g6, g7, g8, g9, g10, g11, g12, g13, g14, g15], rfl⟩
set_option maxHeartbeats 1000000 in
theorem implIsBuiltin (s : ByteArray) (n : Int) (w : World) : Calls Try.prog 8 #[.string s, .int .i64 n] w fun e w' => e = .returned (.bool (isBuiltinF s.toList n)) ∧ w = w' := by
  by_cases h : s.toList = [61] ∨ s.toList = [92, 61] ∨ s.toList = [61, 61] ∨ s.toList = [60] ∨ s.toList = [62] ∨ s.toList = [61, 60] ∨ s.toList = [62, 61] ∨ s.toList = [61, 58, 61] ∨ s.toList = [105, 115] ∨ s.toList = [116, 114, 117, 101] ∨ s.toList = [102, 97, 105, 108] ∨ s.toList = [118, 97, 114] ∨ s.toList = [110, 111, 110, 118, 97, 114] ∨ s.toList = [97, 116, 111, 109] ∨ s.toList = [105, 110, 116] ∨ s.toList = [97, 114, 103]
  · rcases h with h | h | h | h | h | h | h | h | h | h | h | h | h | h | h | h
    all_goals
      go_enter Try.func8, Try.ntmps8
      go_wp2
      go_ret
      exact ⟨by simp [isBuiltinF, h], rfl⟩
  · simp only [not_or] at h
    obtain ⟨h0, h1, h2, h3, h4, h5, h6, h7, h8, h9, h10, h11, h12, h13, h14, h15⟩ := h
    have g0 : (s.toList == [61]) = false := by simpa using h0
    have g1 : (s.toList == [92, 61]) = false := by simpa using h1
    have g2 : (s.toList == [61, 61]) = false := by simpa using h2
    have g3 : (s.toList == [60]) = false := by simpa using h3
    have g4 : (s.toList == [62]) = false := by simpa using h4
    have g5 : (s.toList == [61, 60]) = false := by simpa using h5
    have g6 : (s.toList == [62, 61]) = false := by simpa using h6
    have g7 : (s.toList == [61, 58, 61]) = false := by simpa using h7
    have g8 : (s.toList == [105, 115]) = false := by simpa using h8
    have g9 : (s.toList == [116, 114, 117, 101]) = false := by simpa using h9
    have g10 : (s.toList == [102, 97, 105, 108]) = false := by simpa using h10
    have g11 : (s.toList == [118, 97, 114]) = false := by simpa using h11
    have g12 : (s.toList == [110, 111, 110, 118, 97, 114]) = false := by simpa using h12
    have g13 : (s.toList == [97, 116, 111, 109]) = false := by simpa using h13
    have g14 : (s.toList == [105, 110, 116]) = false := by simpa using h14
    have g15 : (s.toList == [97, 114, 103]) = false := by simpa using h15
    clear h0 h1 h2 h3 h4 h5 h6 h7 h8 h9 h10 h11 h12 h13 h14 h15
    go_enter Try.func8, Try.ntmps8
    go_wp2
    go_ret
    simp only [beq_eq_false_iff_ne, ne_eq] at g0 g1 g2 g3 g4 g5 g6 g7 g8 g9 g10 g11 g12 g13 g14 g15
    exact ⟨by simp [isBuiltinF, g0, g1, g2, g3, g4, g5, g6, g7, g8, g9, g10, g11, g12, g13, g14, g15], rfl⟩
set_option maxHeartbeats 1000000 in
theorem specl2Level (s : ByteArray) (w : World) : Calls Try.prog 49 #[.string s] w fun e w' => e = .returned (.int .i64 (opLevelF s.toList)) ∧ w = w' := by
  by_cases h : s.toList = [61] ∨ s.toList = [92, 61] ∨ s.toList = [61, 61] ∨ s.toList = [60] ∨ s.toList = [62] ∨ s.toList = [61, 60] ∨ s.toList = [62, 61] ∨ s.toList = [61, 58, 61] ∨ s.toList = [105, 115] ∨ s.toList = [43] ∨ s.toList = [45] ∨ s.toList = [42] ∨ s.toList = [47, 47] ∨ s.toList = [109, 111, 100]
  · rcases h with h | h | h | h | h | h | h | h | h | h | h | h | h | h
    all_goals
      go_enter Try.func49, Try.ntmps49
      go_wp2
      go_ret
      exact ⟨by simp [opLevelF, h], rfl⟩
  · simp only [not_or] at h
    obtain ⟨h0, h1, h2, h3, h4, h5, h6, h7, h8, h9, h10, h11, h12, h13⟩ := h
    have g0 : (s.toList == [61]) = false := by simpa using h0
    have g1 : (s.toList == [92, 61]) = false := by simpa using h1
    have g2 : (s.toList == [61, 61]) = false := by simpa using h2
    have g3 : (s.toList == [60]) = false := by simpa using h3
    have g4 : (s.toList == [62]) = false := by simpa using h4
    have g5 : (s.toList == [61, 60]) = false := by simpa using h5
    have g6 : (s.toList == [62, 61]) = false := by simpa using h6
    have g7 : (s.toList == [61, 58, 61]) = false := by simpa using h7
    have g8 : (s.toList == [105, 115]) = false := by simpa using h8
    have g9 : (s.toList == [43]) = false := by simpa using h9
    have g10 : (s.toList == [45]) = false := by simpa using h10
    have g11 : (s.toList == [42]) = false := by simpa using h11
    have g12 : (s.toList == [47, 47]) = false := by simpa using h12
    have g13 : (s.toList == [109, 111, 100]) = false := by simpa using h13
    clear h0 h1 h2 h3 h4 h5 h6 h7 h8 h9 h10 h11 h12 h13
    go_enter Try.func49, Try.ntmps49
    go_wp2
    go_ret
    simp only [beq_eq_false_iff_ne, ne_eq] at g0 g1 g2 g3 g4 g5 g6 g7 g8 g9 g10 g11 g12 g13
    exact ⟨by simp [opLevelF, g0, g1, g2, g3, g4, g5, g6, g7, g8, g9, g10, g11, g12, g13], rfl⟩
set_option maxHeartbeats 1000000 in
theorem implOpLevel (s : ByteArray) (w : World) : Calls Try.prog 46 #[.string s] w fun e w' => e = .returned (.tuple #[.int .i64 (opLevelF s.toList), .bool (opLevelF s.toList == 1 || opLevelF s.toList == 2)]) ∧ w = w' := by
  by_cases h : s.toList = [61] ∨ s.toList = [92, 61] ∨ s.toList = [61, 61] ∨ s.toList = [60] ∨ s.toList = [62] ∨ s.toList = [61, 60] ∨ s.toList = [62, 61] ∨ s.toList = [61, 58, 61] ∨ s.toList = [105, 115] ∨ s.toList = [43] ∨ s.toList = [45] ∨ s.toList = [42] ∨ s.toList = [47, 47] ∨ s.toList = [109, 111, 100]
  · rcases h with h | h | h | h | h | h | h | h | h | h | h | h | h | h
    all_goals
      go_enter Try.func46, Try.ntmps46
      go_wp2
      go_ret2
      exact ⟨by simp [opLevelF, h], rfl⟩
  · simp only [not_or] at h
    obtain ⟨h0, h1, h2, h3, h4, h5, h6, h7, h8, h9, h10, h11, h12, h13⟩ := h
    have g0 : (s.toList == [61]) = false := by simpa using h0
    have g1 : (s.toList == [92, 61]) = false := by simpa using h1
    have g2 : (s.toList == [61, 61]) = false := by simpa using h2
    have g3 : (s.toList == [60]) = false := by simpa using h3
    have g4 : (s.toList == [62]) = false := by simpa using h4
    have g5 : (s.toList == [61, 60]) = false := by simpa using h5
    have g6 : (s.toList == [62, 61]) = false := by simpa using h6
    have g7 : (s.toList == [61, 58, 61]) = false := by simpa using h7
    have g8 : (s.toList == [105, 115]) = false := by simpa using h8
    have g9 : (s.toList == [43]) = false := by simpa using h9
    have g10 : (s.toList == [45]) = false := by simpa using h10
    have g11 : (s.toList == [42]) = false := by simpa using h11
    have g12 : (s.toList == [47, 47]) = false := by simpa using h12
    have g13 : (s.toList == [109, 111, 100]) = false := by simpa using h13
    clear h0 h1 h2 h3 h4 h5 h6 h7 h8 h9 h10 h11 h12 h13
    go_enter Try.func46, Try.ntmps46
    go_wp2
    go_ret2
    simp only [beq_eq_false_iff_ne, ne_eq] at g0 g1 g2 g3 g4 g5 g6 g7 g8 g9 g10 g11 g12 g13
    exact ⟨by simp [opLevelF, g0, g1, g2, g3, g4, g5, g6, g7, g8, g9, g10, g11, g12, g13], rfl⟩
end Go.Proofs.Ytognkaebiafgbaa
