/- begun of glowwormlaw22: some of its rounds. -/
import Derived.Test.YtkehghjhbfoooaaGreatDoorGxBA
noncomputable section
namespace Go.Proofs.YtkehghjhbfoooaaGreatDoor
open Go Gw Go.RowKit
set_option linter.unusedSimpArgs false
set_option linter.unusedVariables false
set_option maxRecDepth 1000000
theorem ranBL_13 : rnBL .c13 = some (RBL .c13) := by kernel_rfl
theorem ranBL_14 : rnBL .c14 = some (RBL .c14) := by kernel_rfl
theorem ranBL_15 : rnBL .c15 = some (RBL .c15) := by kernel_rfl
theorem ranBL_16 : rnBL .c16 = some (RBL .c16) := by kernel_rfl
end Go.Proofs.YtkehghjhbfoooaaGreatDoor
