/- begun of glowwormlaw22: some of its rounds. -/
import Derived.Test.YtkehghjhbfoooaaGreatDoorGxBA
noncomputable section
namespace Go.Proofs.YtkehghjhbfoooaaGreatDoor
open Go Gw Go.RowKit
set_option linter.unusedSimpArgs false
set_option linter.unusedVariables false
set_option maxRecDepth 1000000
theorem ranBL_5 : rnBL .c5 = some (RBL .c5) := by kernel_rfl
theorem ranBL_6 : rnBL .c6 = some (RBL .c6) := by kernel_rfl
theorem ranBL_7 : rnBL .c7 = some (RBL .c7) := by kernel_rfl
theorem ranBL_8 : rnBL .c8 = some (RBL .c8) := by kernel_rfl
end Go.Proofs.YtkehghjhbfoooaaGreatDoor
