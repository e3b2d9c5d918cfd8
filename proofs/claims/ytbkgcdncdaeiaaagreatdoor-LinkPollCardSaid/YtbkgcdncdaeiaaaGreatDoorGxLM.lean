/- The table of answers in loops. -/
import Derived.Test.YtbkgcdncdaeiaaaGreatDoorGxE3
import Derived.Test.YtbkgcdncdaeiaaaGreatDoorGxQ
import Derived.Test.YtbkgcdncdaeiaaaGreatDoorGxT15
noncomputable section
namespace Go.Proofs.YtbkgcdncdaeiaaaGreatDoor
open Go Gw Go.RowKit
set_option linter.unusedSimpArgs false
set_option linter.unusedVariables false
def oxM : OTab := (consT 79 (gD dGet pGet noV) (consT 106 (gD dPut pPut noV) (consT 80 (gDT kT0 kT1 kT2 dDeal pDeal noV) (consT 76 (gD dOff pMayQ noV) (consT 20 (gD dOff pFine noV) noOX)))))
theorem tabM : TabX Tryz.prog noPX oxM := (((((TabX.nil.addT (ans_fine noV)).addT (ans_may noV)).addT (ans_deal noV)).addT (ans_put noV)).addT (ans_get noV))
theorem lt1_no {P : Program} {hint : Nat → List Nat} {m : Nat} {c : DC} : Lt1 P hint m (fun _ _ => .fail) c := fun _ _ _ _ _ h => absurd h (fun q => q)
end Go.Proofs.YtbkgcdncdaeiaaaGreatDoor
