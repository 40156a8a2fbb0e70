/-
  What TermValid and CountNodes (the program's and the reference's) return on every term.
-/
import Derived.Lib.QuietBelow
import Derived.Test.YtognkaebiafgbaaMu11
namespace Go.Proofs.Ytognkaebiafgbaa
open Go.RowKit Go.Sort
set_option linter.unusedVariables false
def validF (t : Tm) : Bool := (scanF t 1 0).isSome
set_option maxHeartbeats 1000000 in
theorem implTermValid (t : Tm) (v : Value) (S : Nat → Prop) (w : World) (ht : Tm.at S w t v) :
    Calls Try.prog 16 #[v] w fun e w' => e = .returned (.bool (validF t)) ∧ Ext w w' := by
  have hb := Tm.at_bound ht
  have HB := Lib.hid hb
  obtain ⟨_, sv, rfl, a, cap, rfl, _⟩ := Tm.at_iff.1 ht
  clear hb ht
  go_enter Try.func16, Try.ntmps16
  go_wp2_with fail
  refine (implscan _ t (Nat.le_refl _) 1 0 (w.heap.size + 1) _ _ _ (by omega) (by omega) (Tm.at_ext ((Ext.alloc _ _).trans (Ext.alloc _ _)) HB.out) (by omega) (by go_simp) (by go_simp)).mono ?_
  rintro e w1 ⟨p1, p2, p3, rfl, p5⟩
  have P1 := Lib.hid p1
  clear p1 p2 p3 p5
  go_wp2_with fail
  go_ret
  exact ⟨rfl, ExtC.below ((Ext.alloc _ _).trans (Ext.alloc _ _)) P1.out (by omega)⟩
end Go.Proofs.Ytognkaebiafgbaa
