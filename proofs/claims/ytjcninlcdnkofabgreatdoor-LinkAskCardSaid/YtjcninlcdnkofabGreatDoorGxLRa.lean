/- A stage of a closed run. -/
import Derived.Test.YtjcninlcdnkofabGreatDoorGxLA
namespace Go.Proofs.YtjcninlcdnkofabGreatDoor.begun
open Go Gw Go.RowKit
set_option maxRecDepth 1000000
theorem ran0 : isTrue (callN (mkX noPX x0) D 10000 169 [] h0) = true := by kernel_rfl
end Go.Proofs.YtjcninlcdnkofabGreatDoor.begun

/- A stage of a closed run. -/
namespace Go.Proofs.YtjcninlcdnkofabGreatDoor.begun
open Go Gw Go.RowKit
set_option maxRecDepth 1000000
theorem ran1 : isTrue (callN (mkX noPX x1) D 10000 142 [] h0) = true := by kernel_rfl
end Go.Proofs.YtjcninlcdnkofabGreatDoor.begun

/- A stage of a closed run. -/
namespace Go.Proofs.YtjcninlcdnkofabGreatDoor.begun
open Go Gw Go.RowKit
set_option maxRecDepth 1000000
theorem ran2 : isTrue (callN (mkX noPX x2) D 10000 145 [] h0) = true := by kernel_rfl
end Go.Proofs.YtjcninlcdnkofabGreatDoor.begun
