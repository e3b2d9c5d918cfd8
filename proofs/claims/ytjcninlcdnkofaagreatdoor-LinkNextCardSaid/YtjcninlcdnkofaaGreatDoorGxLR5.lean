/- A stage of a closed run. -/
import Derived.Test.YtjcninlcdnkofaaGreatDoorGxLA
namespace Go.Proofs.YtjcninlcdnkofaaGreatDoor.begun
open Go Gw Go.RowKit
set_option maxRecDepth 1000000
theorem ran5 : isTrue (callN (mkX noPX x5) D 10000 9 [] h0) = true := by kernel_rfl
end Go.Proofs.YtjcninlcdnkofaaGreatDoor.begun
