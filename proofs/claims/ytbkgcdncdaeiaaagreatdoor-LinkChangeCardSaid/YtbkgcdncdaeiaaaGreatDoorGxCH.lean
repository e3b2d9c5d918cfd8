/- LinkChange: its run. -/
import Derived.Test.YtbkgcdncdaeiaaaGreatDoorGxCH0
import Derived.Test.YtbkgcdncdaeiaaaGreatDoorGxCH1
import Derived.Test.YtbkgcdncdaeiaaaGreatDoorGxCH2
noncomputable section
namespace Go.Proofs.YtbkgcdncdaeiaaaGreatDoor
open Go Gw Go.RowKit
set_option linter.unusedSimpArgs false
set_option linter.unusedVariables false
theorem runLinkChange (a b : Gw.Offer) (lost : Bool) : Run Tryz.prog 14 [.agg a.vs, .agg b.vs, .bool lost] (tabH kT0 kT1 kT2 3) fun v _ => v = .bool true := by
  cases lost <;> rcases wait3 a with w | w | w <;> rcases wait3 b with x | x | x
  · exact runLinkChange0_0f a b w x
  · exact runLinkChange0_1f a b w x
  · exact runLinkChange0_2f a b w x
  · exact runLinkChange1_0f a b w x
  · exact runLinkChange1_1f a b w x
  · exact runLinkChange1_2f a b w x
  · exact runLinkChange2_0f a b w x
  · exact runLinkChange2_1f a b w x
  · exact runLinkChange2_2f a b w x
  · exact runLinkChange0_0t a b w x
  · exact runLinkChange0_1t a b w x
  · exact runLinkChange0_2t a b w x
  · exact runLinkChange1_0t a b w x
  · exact runLinkChange1_1t a b w x
  · exact runLinkChange1_2t a b w x
  · exact runLinkChange2_0t a b w x
  · exact runLinkChange2_1t a b w x
  · exact runLinkChange2_2t a b w x
end Go.Proofs.YtbkgcdncdaeiaaaGreatDoor
