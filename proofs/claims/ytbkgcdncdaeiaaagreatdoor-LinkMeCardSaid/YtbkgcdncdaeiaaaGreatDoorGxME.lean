/- LinkMe: its run. -/
import Derived.Test.YtbkgcdncdaeiaaaGreatDoorGxME0
import Derived.Test.YtbkgcdncdaeiaaaGreatDoorGxME1
import Derived.Test.YtbkgcdncdaeiaaaGreatDoorGxME2
noncomputable section
namespace Go.Proofs.YtbkgcdncdaeiaaaGreatDoor
open Go Gw Go.RowKit
set_option linter.unusedSimpArgs false
set_option linter.unusedVariables false
theorem runLinkMe (id : Int) (a b : Gw.Offer) : Run Tryz.prog 16 [.int .u32 id, .agg a.vs, .agg b.vs] (tabH kT0 kT1 kT2 3) fun v _ => v = .bool true := by
  by_cases h0 : id = 0
  · subst h0
    rcases wait3 a with w | w | w
    · exact runLinkMe0_0 a b w
    · exact runLinkMe1_0 a b w
    · exact runLinkMe2_0 a b w
  · by_cases h1 : id = 4294967295
    · subst h1
      rcases wait3 a with w | w | w
      · exact runLinkMe0_1 a b w
      · exact runLinkMe1_1 a b w
      · exact runLinkMe2_1 a b w
    · rcases wait3 a with w | w | w
      · exact runLinkMe0_2 id a b h0 h1 w
      · exact runLinkMe1_2 id a b h0 h1 w
      · exact runLinkMe2_2 id a b h0 h1 w
end Go.Proofs.YtbkgcdncdaeiaaaGreatDoor
