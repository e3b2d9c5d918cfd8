/- A stage of a closed run. -/
import Derived.Test.YtocaajkjbnkgoaaGreatDoorGxLA
namespace Go.Proofs.YtocaajkjbnkgoaaGreatDoor.linkNone
open Go Gw Go.RowKit
set_option maxRecDepth 1000000
theorem ran : isTrue (callN (mkX noPX x6) D 10000 3 [] h0) = true := by kernel_rfl
end Go.Proofs.YtocaajkjbnkgoaaGreatDoor.linkNone
