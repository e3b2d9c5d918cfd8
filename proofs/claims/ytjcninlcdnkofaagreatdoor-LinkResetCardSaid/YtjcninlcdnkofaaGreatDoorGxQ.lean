/- A small law of least ones. -/
import Derived.Test.YtjcninlcdnkofaaGreatDoorGxP
noncomputable section
namespace Go.Proofs.YtjcninlcdnkofaaGreatDoor
open Go Gw Go.RowKit
set_option linter.unusedSimpArgs false
set_option linter.unusedVariables false
theorem min0 (w : Int) : minV (.int .i64 (if (7 : Int) < (if (1 : Int) > w then 1 else w) then 7 else (if (1 : Int) > w then 1 else w))) [(.int .i64 0)] = some (.int .i64 0) := by
  show some (V.int .i64 (if (0 : Int) < (if (7 : Int) < (if (1 : Int) > w then 1 else w) then 7 else (if (1 : Int) > w then 1 else w)) then 0 else (if (7 : Int) < (if (1 : Int) > w then 1 else w) then 7 else (if (1 : Int) > w then 1 else w)))) = _
  congr 2
  repeat' split
  all_goals omega
def dv (a b : Gw.Offer) (w : Int) : List V := [.int .i64 (dealL (fineO a) (fineO b)).baud, .int .i64 200, .int .i64 (dealL (fineO a) (fineO b)).win, .int .i64 (dealL (fineO a) (fineO b)).size, .int .i64 w]
end Go.Proofs.YtjcninlcdnkofaaGreatDoor
