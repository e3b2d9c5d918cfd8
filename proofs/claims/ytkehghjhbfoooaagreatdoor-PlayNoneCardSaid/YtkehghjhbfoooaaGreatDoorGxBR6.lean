/- begun of glowwormlaw22: some of its rounds. -/
import Derived.Test.YtkehghjhbfoooaaGreatDoorGxBA
noncomputable section
namespace Go.Proofs.YtkehghjhbfoooaaGreatDoor
open Go Gw Go.RowKit
set_option linter.unusedSimpArgs false
set_option linter.unusedVariables false
set_option maxRecDepth 1000000
theorem ranBL_21 : rnBL .c21 = some (RBL .c21) := by kernel_rfl
theorem ranBL_22 : rnBL .c22 = some (RBL .c22) := by kernel_rfl
theorem ranBL_23 : rnBL .c23 = some (RBL .c23) := by kernel_rfl
theorem ranBL_24 : rnBL .c24 = some (RBL .c24) := by kernel_rfl
end Go.Proofs.YtkehghjhbfoooaaGreatDoor
