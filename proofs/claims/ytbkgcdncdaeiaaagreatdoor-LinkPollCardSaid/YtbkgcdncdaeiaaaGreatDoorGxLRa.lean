/- A stage of a closed run. -/
import Derived.Test.YtbkgcdncdaeiaaaGreatDoorGxLA
namespace Go.Proofs.YtbkgcdncdaeiaaaGreatDoor.begun
open Go Gw Go.RowKit
set_option maxRecDepth 1000000
theorem ran0 : isTrue (callN (mkX noPX x0) D 10000 211 [] h0) = true := by kernel_rfl
end Go.Proofs.YtbkgcdncdaeiaaaGreatDoor.begun

/- A stage of a closed run. -/
namespace Go.Proofs.YtbkgcdncdaeiaaaGreatDoor.begun
open Go Gw Go.RowKit
set_option maxRecDepth 1000000
theorem ran1 : isTrue (callN (mkX noPX x1) D 10000 185 [] h0) = true := by kernel_rfl
end Go.Proofs.YtbkgcdncdaeiaaaGreatDoor.begun

/- A stage of a closed run. -/
namespace Go.Proofs.YtbkgcdncdaeiaaaGreatDoor.begun
open Go Gw Go.RowKit
set_option maxRecDepth 1000000
theorem ran2 : isTrue (callN (mkX noPX x2) D 10000 187 [] h0) = true := by kernel_rfl
end Go.Proofs.YtbkgcdncdaeiaaaGreatDoor.begun
