/- What the symbolic machine finds of glowwormlaw16.QueryTimes: whatever the arguments, true. -/
import Derived.Test.YtjnhaaolbcmdbaaGreatDoorGwE1
namespace Go.Proofs.YtjnhaaolbcmdbaaGreatDoor.queryTimes
open Go Gw
def sargs : List SV := [.int .u32 (.x 0), .int .i64 (.x 1)]
def pc0 : PC := ⟨[(.x 0, some (kMin .u32), some (kMax .u32)), (.x 1, some (kMin .i64), some (kMax .i64))], []⟩
set_option maxRecDepth 1000000 in
theorem ran : sTrue (sCallN SX1 D 10000 7 sargs pc0 sh0) = true := by kernel_rfl
end Go.Proofs.YtjnhaaolbcmdbaaGreatDoor.queryTimes
