/- begun of glowwormlaw22: some of its rounds. -/
import Derived.Test.YtkehghjhbfoooaaGreatDoorGxBA
noncomputable section
namespace Go.Proofs.YtkehghjhbfoooaaGreatDoor
open Go Gw Go.RowKit
set_option linter.unusedSimpArgs false
set_option linter.unusedVariables false
set_option maxRecDepth 1000000
theorem ranBL_9 : rnBL .c9 = some (RBL .c9) := by kernel_rfl
theorem ranBL_10 : rnBL .c10 = some (RBL .c10) := by kernel_rfl
theorem ranBL_11 : rnBL .c11 = some (RBL .c11) := by kernel_rfl
theorem ranBL_12 : rnBL .c12 = some (RBL .c12) := by kernel_rfl
end Go.Proofs.YtkehghjhbfoooaaGreatDoor
