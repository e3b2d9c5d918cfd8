/- begun of glowwormlaw22: some of its rounds. -/
import Derived.Test.YtkehghjhbfoooaaGreatDoorGxBA
noncomputable section
namespace Go.Proofs.YtkehghjhbfoooaaGreatDoor
open Go Gw Go.RowKit
set_option linter.unusedSimpArgs false
set_option linter.unusedVariables false
set_option maxRecDepth 1000000
theorem ranBL_25 : rnBL .c25 = some (RBL .c25) := by kernel_rfl
theorem ranBL_26 : rnBL .c26 = some (RBL .c26) := by kernel_rfl
theorem ranBL_27 : rnBL .c27 = some (RBL .c27) := by kernel_rfl
theorem ranBL_28 : rnBL .c28 = some (RBL .c28) := by kernel_rfl
theorem ranBL_29 : rnBL .c29 = some (RBL .c29) := by kernel_rfl
end Go.Proofs.YtkehghjhbfoooaaGreatDoor
