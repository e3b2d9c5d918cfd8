/- Stages of a closed run. -/
import Derived.Test.YtbkgcdncdaeiaaaGreatDoorGxC2
import Derived.Test.YtbkgcdncdaeiaaaGreatDoorGxT8
noncomputable section
namespace Go.Proofs.YtbkgcdncdaeiaaaGreatDoor.begun
open Go Gw Go.RowKit
set_option maxRecDepth 1000000
def x0 : OTab := noOX
def x1 : OTab := consO 211 (gTrue kT0 kT1 kT2) x0
def x2 : OTab := consO 185 (gTrue kT0 kT1 kT2) x1
def x3 : OTab := consO 187 (gTrue kT0 kT1 kT2) x2
def x4 : OTab := consO 100 (gTrue kT0 kT1 kT2) x3
def x5 : OTab := consO 101 (gTrue kT0 kT1 kT2) x4
def x6 : OTab := consO 19 (gTrue kT0 kT1 kT2) x5
end Go.Proofs.YtbkgcdncdaeiaaaGreatDoor.begun
