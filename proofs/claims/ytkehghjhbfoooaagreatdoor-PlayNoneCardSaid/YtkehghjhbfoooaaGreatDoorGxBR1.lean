/- begun of glowwormlaw22: some of its rounds. -/
import Derived.Test.YtkehghjhbfoooaaGreatDoorGxBA
noncomputable section
namespace Go.Proofs.YtkehghjhbfoooaaGreatDoor
open Go Gw Go.RowKit
set_option linter.unusedSimpArgs false
set_option linter.unusedVariables false
set_option maxRecDepth 1000000
theorem ranBL_4 : rnBL .c4 = some (RBL .c4) := by kernel_rfl
theorem ranBL_3 : rnBL .c3 = some (RBL .c3) := by kernel_rfl
theorem ranBL_30 : rnBL .c30 = some (RBL .c30) := by kernel_rfl
end Go.Proofs.YtkehghjhbfoooaaGreatDoor
