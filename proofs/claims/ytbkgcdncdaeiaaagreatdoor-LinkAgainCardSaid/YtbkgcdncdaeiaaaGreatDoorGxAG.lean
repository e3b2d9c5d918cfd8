/- LinkAgain: its run. -/
import Derived.Test.YtbkgcdncdaeiaaaGreatDoorGxAG0
import Derived.Test.YtbkgcdncdaeiaaaGreatDoorGxAG1
import Derived.Test.YtbkgcdncdaeiaaaGreatDoorGxAG2
noncomputable section
namespace Go.Proofs.YtbkgcdncdaeiaaaGreatDoor
open Go Gw Go.RowKit
set_option linter.unusedSimpArgs false
set_option linter.unusedVariables false
theorem runLinkAgain (a b : Gw.Offer) (n : Int) : Run Tryz.prog 9 [.agg a.vs, .agg b.vs, .int .i64 n] (tabH kT0 kT1 kT2 3) fun v _ => v = .bool true := by
  rcases wait3 a with w | w | w <;> rcases tm44 n with h | h | h | h
  · exact runLinkAgain0_0 a b n h w
  · exact runLinkAgain0_1 a b n h w
  · exact runLinkAgain0_2 a b n h w
  · exact runLinkAgain0_3 a b n h w
  · exact runLinkAgain1_0 a b n h w
  · exact runLinkAgain1_1 a b n h w
  · exact runLinkAgain1_2 a b n h w
  · exact runLinkAgain1_3 a b n h w
  · exact runLinkAgain2_0 a b n h w
  · exact runLinkAgain2_1 a b n h w
  · exact runLinkAgain2_2 a b n h w
  · exact runLinkAgain2_3 a b n h w
end Go.Proofs.YtbkgcdncdaeiaaaGreatDoor
