/-
  The reference's l1Copy.
-/
import Derived.Test.YtifklfnpaigdkaaGreatDoorApp
namespace Go.Proofs.YtifklfnpaigdkaaGreatDoor
open Go.RowKit
set_option linter.unusedVariables false

end Go.Proofs.YtifklfnpaigdkaaGreatDoor
