/- A stage of a closed run. -/
import Derived.Test.YtjcninlcdnkofabGreatDoorGxLA
namespace Go.Proofs.YtjcninlcdnkofabGreatDoor.begun
open Go Gw Go.RowKit
set_option maxRecDepth 1000000
theorem ran5 : isTrue (callN (mkX noPX x5) D 10000 5 [] h0) = true := by kernel_rfl
end Go.Proofs.YtjcninlcdnkofabGreatDoor.begun
