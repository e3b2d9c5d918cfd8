/- What the symbolic machine finds of glowwormlaw16.ReplyTwo: whatever the arguments, true. -/
import Derived.Test.YtjnhaaolbcmdbaaGreatDoorGwE1
namespace Go.Proofs.YtjnhaaolbcmdbaaGreatDoor.replyTwo
open Go Gw
def sargs : List SV := [.int .u32 (.x 0), .int .u32 (.x 1), .int .u32 (.x 2), .int .u32 (.x 3)]
def pc0 : PC := ⟨[(.x 0, some (kMin .u32), some (kMax .u32)), (.x 1, some (kMin .u32), some (kMax .u32)), (.x 2, some (kMin .u32), some (kMax .u32)), (.x 3, some (kMin .u32), some (kMax .u32))], []⟩
set_option maxRecDepth 1000000 in
theorem ran : sTrue (sCallN SX1 D 10000 14 sargs pc0 sh0) = true := by kernel_rfl
end Go.Proofs.YtjnhaaolbcmdbaaGreatDoor.replyTwo
