/-
  ShiftTerm: the program's and the reference's.
-/
import Derived.Test.YteplfajhmpmklaaShift
namespace Go.Proofs.Yteplfajhmpmklaa
open Go.RowKit
set_option linter.unusedVariables false

def shiftB (t : Tm) (m : Int) : Bool := validF t && (decide (-25 ≤ m) && decide (m ≤ 25)) && validF (shiftS m t)
def shiftR (t : Tm) (m : Int) : Tm := if shiftB t m = true then shiftS m t else zeroT
theorem shift_no {t : Tm} {m : Int} (h : shiftB t m = false) : shiftR t m = zeroT := by unfold shiftR; rw [if_neg (by rw [h]; simp)]
theorem shift_yes {t : Tm} {m : Int} (h : shiftB t m = true) : shiftR t m = shiftS m t := by unfold shiftR; rw [if_pos h]
theorem kids_sz (t : Tm) : Tm.szL t.kids < Tm.sz t := by cases t; simp only [Tm.sz, Tm.kids]; omega
theorem shiftR_sz (t : Tm) (m : Int) : Tm.szL (shiftR t m).kids ≤ 120 := by
  cases h : shiftB t m
  · rw [shift_no h]
    simp [zeroT, Tm.kids, Tm.szL]
  · rw [shift_yes h]
    unfold shiftB at h
    simp only [Bool.and_eq_true] at h
    have h1 := valid_sz h.2
    have h2 := kids_sz (shiftS m t)
    omega




end Go.Proofs.Yteplfajhmpmklaa
