/-
  The variables of a term, in the program and in the reference.
-/
import Derived.Test.YtifklfnpaigdkaaDoorInts
import Derived.Test.YtifklfnpaigdkaaDoorDraws
namespace Go.Proofs.YtifklfnpaigdkaaDoor
open Go.RowKit
set_option linter.unusedVariables false

theorem info_int : (Tryd.prog.info? 3).map (fun i => (i.zero, i.size, i.bytes)) = some (some (.int .i64 0), 1, 8) := by kernel_rfl



theorem valid_sz {t : Tm} (h : validF t = true) : Tm.sz t ≤ 120 := by
  rw [valid_eq] at h
  simp at h
  exact h.2
theorem valid_shape {t : Tm} (h : validF t = true) : shapeF t 30 = true := by
  rw [valid_eq] at h
  simp at h
  exact h.1
/-- what TermVars returns -/
def tvarsF (t : Tm) : List Int := if validF t = true then varsF t [] else []
def IntsOut (zs : List Int) (w : World) (e : Ending) (w' : World) : Prop := ∃ v, e = .returned v ∧ IntI (fun b => w.heap.size ≤ b) zs v w' ∧ Ext w w'


end Go.Proofs.YtifklfnpaigdkaaDoor
