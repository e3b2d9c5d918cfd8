/- A stage of a closed run. -/
import Derived.Test.YtjcninlcdnkofabGreatDoorGxLA
namespace Go.Proofs.YtjcninlcdnkofabGreatDoor.begun
open Go Gw Go.RowKit
set_option maxRecDepth 1000000
theorem ran3 : isTrue (callN (mkX noPX x3) D 10000 54 [] h0) = true := by kernel_rfl
end Go.Proofs.YtjcninlcdnkofabGreatDoor.begun

/- A stage of a closed run. -/
namespace Go.Proofs.YtjcninlcdnkofabGreatDoor.begun
open Go Gw Go.RowKit
set_option maxRecDepth 1000000
theorem ran4 : isTrue (callN (mkX noPX x4) D 10000 55 [] h0) = true := by kernel_rfl
end Go.Proofs.YtjcninlcdnkofabGreatDoor.begun
