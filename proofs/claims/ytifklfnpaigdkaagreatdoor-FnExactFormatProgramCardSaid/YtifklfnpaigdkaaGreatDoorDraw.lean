/-
  The reference's draws of terms (begun): l1Var, l1Int.
-/
import Derived.Test.YtifklfnpaigdkaaGreatDoorRd
namespace Go.Proofs.YtifklfnpaigdkaaGreatDoor
open Go.RowKit
set_option linter.unusedVariables false



end Go.Proofs.YtifklfnpaigdkaaGreatDoor
