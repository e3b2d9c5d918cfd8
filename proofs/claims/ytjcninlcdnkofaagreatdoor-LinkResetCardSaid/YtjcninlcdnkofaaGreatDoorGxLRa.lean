/- A stage of a closed run. -/
import Derived.Test.YtjcninlcdnkofaaGreatDoorGxLA
namespace Go.Proofs.YtjcninlcdnkofaaGreatDoor.begun
open Go Gw Go.RowKit
set_option maxRecDepth 1000000
theorem ran0 : isTrue (callN (mkX noPX x0) D 10000 176 [] h0) = true := by kernel_rfl
end Go.Proofs.YtjcninlcdnkofaaGreatDoor.begun

/- A stage of a closed run. -/
namespace Go.Proofs.YtjcninlcdnkofaaGreatDoor.begun
open Go Gw Go.RowKit
set_option maxRecDepth 1000000
theorem ran1 : isTrue (callN (mkX noPX x1) D 10000 149 [] h0) = true := by kernel_rfl
end Go.Proofs.YtjcninlcdnkofaaGreatDoor.begun

/- A stage of a closed run. -/
namespace Go.Proofs.YtjcninlcdnkofaaGreatDoor.begun
open Go Gw Go.RowKit
set_option maxRecDepth 1000000
theorem ran2 : isTrue (callN (mkX noPX x2) D 10000 152 [] h0) = true := by kernel_rfl
end Go.Proofs.YtjcninlcdnkofaaGreatDoor.begun

/- A stage of a closed run. -/
namespace Go.Proofs.YtjcninlcdnkofaaGreatDoor.begun
open Go Gw Go.RowKit
set_option maxRecDepth 1000000
theorem ran3 : isTrue (callN (mkX noPX x3) D 10000 64 [] h0) = true := by kernel_rfl
end Go.Proofs.YtjcninlcdnkofaaGreatDoor.begun

/- A stage of a closed run. -/
namespace Go.Proofs.YtjcninlcdnkofaaGreatDoor.begun
open Go Gw Go.RowKit
set_option maxRecDepth 1000000
theorem ran4 : isTrue (callN (mkX noPX x4) D 10000 65 [] h0) = true := by kernel_rfl
end Go.Proofs.YtjcninlcdnkofaaGreatDoor.begun

/- A stage of a closed run. -/
namespace Go.Proofs.YtjcninlcdnkofaaGreatDoor.begun
open Go Gw Go.RowKit
set_option maxRecDepth 1000000
theorem ran5 : isTrue (callN (mkX noPX x5) D 10000 9 [] h0) = true := by kernel_rfl
end Go.Proofs.YtjcninlcdnkofaaGreatDoor.begun
