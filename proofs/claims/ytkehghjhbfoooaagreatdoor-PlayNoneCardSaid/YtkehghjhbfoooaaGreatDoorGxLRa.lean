/- A stage of a closed run. -/
import Derived.Test.YtkehghjhbfoooaaGreatDoorGxLA
namespace Go.Proofs.YtkehghjhbfoooaaGreatDoor.begun
open Go Gw Go.RowKit
set_option maxRecDepth 1000000
theorem ran0 : isTrue (callN (mkX noPX x0) D 10000 230 [] h0) = true := by kernel_rfl
end Go.Proofs.YtkehghjhbfoooaaGreatDoor.begun

/- A stage of a closed run. -/
namespace Go.Proofs.YtkehghjhbfoooaaGreatDoor.begun
open Go Gw Go.RowKit
set_option maxRecDepth 1000000
theorem ran1 : isTrue (callN (mkX noPX x1) D 10000 212 [] h0) = true := by kernel_rfl
end Go.Proofs.YtkehghjhbfoooaaGreatDoor.begun

/- A stage of a closed run. -/
namespace Go.Proofs.YtkehghjhbfoooaaGreatDoor.begun
open Go Gw Go.RowKit
set_option maxRecDepth 1000000
theorem ran2 : isTrue (callN (mkX noPX x2) D 10000 214 [] h0) = true := by kernel_rfl
end Go.Proofs.YtkehghjhbfoooaaGreatDoor.begun

/- A stage of a closed run. -/
namespace Go.Proofs.YtkehghjhbfoooaaGreatDoor.begun
open Go Gw Go.RowKit
set_option maxRecDepth 1000000
theorem ran3 : isTrue (callN (mkX noPX x3) D 10000 132 [] h0) = true := by kernel_rfl
end Go.Proofs.YtkehghjhbfoooaaGreatDoor.begun

/- A stage of a closed run. -/
namespace Go.Proofs.YtkehghjhbfoooaaGreatDoor.begun
open Go Gw Go.RowKit
set_option maxRecDepth 1000000
theorem ran4 : isTrue (callN (mkX noPX x4) D 10000 133 [] h0) = true := by kernel_rfl
end Go.Proofs.YtkehghjhbfoooaaGreatDoor.begun

/- A stage of a closed run. -/
namespace Go.Proofs.YtkehghjhbfoooaaGreatDoor.begun
open Go Gw Go.RowKit
set_option maxRecDepth 1000000
theorem ran5 : isTrue (callN (mkX noPX x5) D 10000 57 [] h0) = true := by kernel_rfl
end Go.Proofs.YtkehghjhbfoooaaGreatDoor.begun
