/- The table of answers in loops. -/
import Derived.Test.YtbkgcdncdaeiaaaGreatDoorGxE3
import Derived.Test.YtbkgcdncdaeiaaaGreatDoorGxLD
import Derived.Test.YtbkgcdncdaeiaaaGreatDoorGxQ
import Derived.Test.YtbkgcdncdaeiaaaGreatDoorGxT15
import Derived.Test.YtbkgcdncdaeiaaaGreatDoorGxT14
noncomputable section
namespace Go.Proofs.YtbkgcdncdaeiaaaGreatDoor
open Go Gw Go.RowKit
set_option linter.unusedSimpArgs false
set_option linter.unusedVariables false
def oxN : OTab := (consT 79 (gD dGet pGet noV) (consT 106 (gD dPut pPut noV) (consT 80 (gDT kT0 kT1 kT2 dDeal pDeal noV) (consT 76 (gD dOff pMayQ noV) (consT 20 (gD dOff pFine noV) noOX)))))
theorem tabN : TabX Tryz.prog noPX oxN := (((((TabX.nil.addT (ans_fine noV)).addT (ans_may noV)).addT (ans_deal noV)).addT (ans_put noV)).addT (ans_get noV))
end Go.Proofs.YtbkgcdncdaeiaaaGreatDoor
