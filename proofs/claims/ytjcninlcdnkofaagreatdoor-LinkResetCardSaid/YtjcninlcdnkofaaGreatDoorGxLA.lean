/- Stages of a closed run. -/
import Derived.Test.YtjcninlcdnkofaaGreatDoorGxC2
import Derived.Test.YtjcninlcdnkofaaGreatDoorGxT8
noncomputable section
namespace Go.Proofs.YtjcninlcdnkofaaGreatDoor.begun
open Go Gw Go.RowKit
set_option maxRecDepth 1000000
def x0 : OTab := noOX
def x1 : OTab := consO 176 (gTrue kT0 kT1 kT2) x0
def x2 : OTab := consO 149 (gTrue kT0 kT1 kT2) x1
def x3 : OTab := consO 152 (gTrue kT0 kT1 kT2) x2
def x4 : OTab := consO 64 (gTrue kT0 kT1 kT2) x3
def x5 : OTab := consO 65 (gTrue kT0 kT1 kT2) x4
def x6 : OTab := consO 9 (gTrue kT0 kT1 kT2) x5
end Go.Proofs.YtjcninlcdnkofaaGreatDoor.begun
