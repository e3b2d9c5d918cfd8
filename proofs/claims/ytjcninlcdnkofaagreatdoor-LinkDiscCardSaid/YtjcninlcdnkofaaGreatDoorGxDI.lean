/- LinkDisc: offers of the longest patience. -/
import Derived.Test.YtjcninlcdnkofaaGreatDoorGxE3
import Derived.Test.YtjcninlcdnkofaaGreatDoorGxQ
import Derived.Test.YtjcninlcdnkofaaGreatDoorGxT15
noncomputable section
namespace Go.Proofs.YtjcninlcdnkofaaGreatDoor
open Go Gw Go.RowKit
set_option linter.unusedSimpArgs false
set_option linter.unusedVariables false
def oxM : OTab := (consT 46 (gD dGet pGet noV) (consT 70 (gD dPut pPut noV) (consT 47 (gDT kT0 kT1 kT2 dDeal pDeal noV) (consT 43 (gD dOff pMayQ noV) (consT 10 (gD dOff pFine noV) noOX)))))
theorem tabM : TabX Tryz.prog noPX oxM := (((((TabX.nil.addT (ans_fine noV)).addT (ans_may noV)).addT (ans_deal noV)).addT (ans_put noV)).addT (ans_get noV))
theorem lt1_no {P : Program} {hint : Nat → List Nat} {m : Nat} {c : DC} : Lt1 P hint m (fun _ _ => .fail) c := fun _ _ _ _ _ h => absurd h (fun q => q)
abbrev cF (l : List V) : Option Blk := some (.cells false l)
abbrev rnd (orcs : Nat → Orc) (sts : Nat → List Nat) (orc : Orc) := codeT (α := Ex × Snap) (callT (mkXT noPX oxM) (mkXP noPX) (mkX noPX oxM) D orcs sts 13) (callN (mkX noPX oxM) D 13) (mkXP noPX) orc
abbrev disO (a : Gw.Offer) : Gw.Offer := ⟨(fineO a).baud, 7, (fineO a).win, (fineO a).size, (fineO a).wait⟩
theorem mayO_dis (a : Gw.Offer) : MayO (disO a) := by
  have h := mayO_fine a
  exact ⟨h.b1, (by show (7 : Int) % 2 = 1; decide), h.b, (by show (1 : Int) ≤ 7 ∧ (7 : Int) ≤ 7; decide), h.w, h.z, h.t⟩
theorem pMay_dis (a : Gw.Offer) : pMayQ [.agg [.int .i64 (fineO a).baud, .int .i64 7, .int .i64 (fineO a).win, .int .i64 (fineO a).size, .int .i64 (fineO a).wait]] = .bool true := by
  show V.bool (mayO (disO a)) = _
  rw [(mayO_iff _).2 (mayO_dis a)]
theorem okSetD (f t s c : Int) (a : Gw.Offer) (h1 : 0 < f ∧ f < 4294967295) (h2 : 0 < t ∧ t < 4294967295) (h3 : 0 ≤ s ∧ s < 8) (h4 : 0 ≤ c ∧ c < 250) : OkSetup ⟨f, t, s, c, disO a⟩ := ⟨h1, h2, h3, h4, mayO_dis a⟩
def dvD (a b : Gw.Offer) (w : Int) : List V := [.int .i64 (dealL (disO a) (disO b)).baud, .int .i64 200, .int .i64 (dealL (disO a) (disO b)).win, .int .i64 (dealL (disO a) (disO b)).size, .int .i64 w]
end Go.Proofs.YtjcninlcdnkofaaGreatDoor
