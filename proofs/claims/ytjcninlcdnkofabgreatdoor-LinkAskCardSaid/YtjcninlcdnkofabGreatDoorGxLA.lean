/- Stages of a closed run. -/
import Derived.Test.YtjcninlcdnkofabGreatDoorGxC2
import Derived.Test.YtjcninlcdnkofabGreatDoorGxT8
noncomputable section
namespace Go.Proofs.YtjcninlcdnkofabGreatDoor.begun
open Go Gw Go.RowKit
set_option maxRecDepth 1000000
def x0 : OTab := noOX
def x1 : OTab := consO 169 (gTrue kT0 kT1 kT2) x0
def x2 : OTab := consO 142 (gTrue kT0 kT1 kT2) x1
def x3 : OTab := consO 145 (gTrue kT0 kT1 kT2) x2
def x4 : OTab := consO 54 (gTrue kT0 kT1 kT2) x3
def x5 : OTab := consO 55 (gTrue kT0 kT1 kT2) x4
def x6 : OTab := consO 5 (gTrue kT0 kT1 kT2) x5
end Go.Proofs.YtjcninlcdnkofabGreatDoor.begun
