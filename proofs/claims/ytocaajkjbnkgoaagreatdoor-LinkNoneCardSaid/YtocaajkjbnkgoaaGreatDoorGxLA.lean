/- Stages of a closed run. -/
import Derived.Test.YtocaajkjbnkgoaaGreatDoorGxC2
import Derived.Test.YtocaajkjbnkgoaaGreatDoorGxT8
namespace Go.Proofs.YtocaajkjbnkgoaaGreatDoor.linkNone
open Go Gw Go.RowKit
set_option maxRecDepth 1000000
def x0 : OTab := noOX
def x1 : OTab := consO 158 (gTrue kT0 kT1 kT2) x0
def x2 : OTab := consO 122 (gTrue kT0 kT1 kT2) x1
def x3 : OTab := consO 128 (gTrue kT0 kT1 kT2) x2
def x4 : OTab := consO 39 (gTrue kT0 kT1 kT2) x3
def x5 : OTab := consO 40 (gTrue kT0 kT1 kT2) x4
def x6 : OTab := consO 8 (gTrue kT0 kT1 kT2) x5
end Go.Proofs.YtocaajkjbnkgoaaGreatDoor.linkNone
