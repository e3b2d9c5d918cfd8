/- begun of glowwormlaw22: some of its rounds. -/
import Derived.Test.YtkehghjhbfoooaaGreatDoorGxBA
noncomputable section
namespace Go.Proofs.YtkehghjhbfoooaaGreatDoor
open Go Gw Go.RowKit
set_option linter.unusedSimpArgs false
set_option linter.unusedVariables false
set_option maxRecDepth 1000000
theorem ranBL_2 : rnBL .c2 = some (RBL .c2) := by kernel_rfl
theorem ranBL_0 : rnBL .c0 = some (RBL .c0) := by kernel_rfl
theorem ranBL_1 : rnBL .c1 = some (RBL .c1) := by kernel_rfl
end Go.Proofs.YtkehghjhbfoooaaGreatDoor
