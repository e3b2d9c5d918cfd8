/- begun of glowwormlaw22: some of its rounds. -/
import Derived.Test.YtkehghjhbfoooaaGreatDoorGxBA
noncomputable section
namespace Go.Proofs.YtkehghjhbfoooaaGreatDoor
open Go Gw Go.RowKit
set_option linter.unusedSimpArgs false
set_option linter.unusedVariables false
set_option maxRecDepth 1000000
theorem ranBL_17 : rnBL .c17 = some (RBL .c17) := by kernel_rfl
theorem ranBL_18 : rnBL .c18 = some (RBL .c18) := by kernel_rfl
theorem ranBL_19 : rnBL .c19 = some (RBL .c19) := by kernel_rfl
theorem ranBL_20 : rnBL .c20 = some (RBL .c20) := by kernel_rfl
end Go.Proofs.YtkehghjhbfoooaaGreatDoor
