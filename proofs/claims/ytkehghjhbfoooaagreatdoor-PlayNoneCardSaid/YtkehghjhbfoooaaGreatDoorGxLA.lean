/- Stages of a closed run. -/
import Derived.Test.YtkehghjhbfoooaaGreatDoorGxC2
import Derived.Test.YtkehghjhbfoooaaGreatDoorGxT8
noncomputable section
namespace Go.Proofs.YtkehghjhbfoooaaGreatDoor.begun
open Go Gw Go.RowKit
set_option maxRecDepth 1000000
def x0 : OTab := noOX
def x1 : OTab := consO 230 (gTrue kT0 kT1 kT2) x0
def x2 : OTab := consO 212 (gTrue kT0 kT1 kT2) x1
def x3 : OTab := consO 214 (gTrue kT0 kT1 kT2) x2
def x4 : OTab := consO 132 (gTrue kT0 kT1 kT2) x3
def x5 : OTab := consO 133 (gTrue kT0 kT1 kT2) x4
def x6 : OTab := consO 57 (gTrue kT0 kT1 kT2) x5
end Go.Proofs.YtkehghjhbfoooaaGreatDoor.begun
