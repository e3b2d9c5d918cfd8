/- What the symbolic machine finds of glowwormlaw16.ReplyLate: true, part 2 of five. -/
import Derived.Test.YtjnhaaolbcmdbaaGreatDoorGwE1
namespace Go.Proofs.YtjnhaaolbcmdbaaGreatDoor.replyLate2
open Go Gw
def sargs : List SV := [.int .u32 (.x 0), .int .i64 (.x 1), .int .i64 (.x 2), .int .u32 (.x 3)]
def pc0 : PC := ⟨[(.bin .rem .i64 (.x 1) (.c 2), some (1), some (1)), (.bin .rem .u32 (.x 3) (.c 8), some 4, some 7), (.x 0, some (kMin .u32), some (kMax .u32)), (.x 1, some (kMin .i64), some (kMax .i64)), (.x 2, some (kMin .i64), some (kMax .i64)), (.x 3, some (kMin .u32), some (kMax .u32))], []⟩
set_option maxRecDepth 1000000 in
theorem ran : sTrue (sCallN SX1 D 10000 10 sargs pc0 sh0) = true := by kernel_rfl
end Go.Proofs.YtjnhaaolbcmdbaaGreatDoor.replyLate2
