/- LinkUnfree: what is left of a number. -/
import Derived.Test.YtjcninlcdnkofaaGreatDoorGxE3
import Derived.Test.YtjcninlcdnkofaaGreatDoorGxQ
import Derived.Test.YtjcninlcdnkofaaGreatDoorGxT15
noncomputable section
namespace Go.Proofs.YtjcninlcdnkofaaGreatDoor
open Go Gw Go.RowKit
set_option linter.unusedSimpArgs false
set_option linter.unusedVariables false
def oxM : OTab := (consT 46 (gD dGet pGet noV) (consT 70 (gD dPut pPut noV) (consT 47 (gDT kT0 kT1 kT2 dDeal pDeal noV) (consT 43 (gD dOff pMayQ noV) (consT 10 (gD dOff pFine noV) noOX)))))
theorem tabM : TabX Tryz.prog noPX oxM := (((((TabX.nil.addT (ans_fine noV)).addT (ans_may noV)).addT (ans_deal noV)).addT (ans_put noV)).addT (ans_get noV))
theorem lt1_no {P : Program} {hint : Nat → List Nat} {m : Nat} {c : DC} : Lt1 P hint m (fun _ _ => .fail) c := fun _ _ _ _ _ h => absurd h (fun q => q)
abbrev cF (l : List V) : Option Blk := some (.cells false l)
abbrev rnd (orcs : Nat → Orc) (sts : Nat → List Nat) (orc : Orc) := codeT (α := Ex × Snap) (callT (mkXT noPX oxM) (mkXP noPX) (mkX noPX oxM) D orcs sts 13) (callN (mkX noPX oxM) D 13) (mkXP noPX) orc
theorem rem30 {n k : Int} (h : (n.tmod 30 + 30).tmod 30 = k) : binV .rem (.int .i64 (wrapK .i64 (n.tmod 30 + 30))) (.int .i64 30) = some (.int .i64 k) := by
  have h1 := Int.tmod_lt_of_pos n (show (0 : Int) < 30 by decide)
  have h2 := Int.lt_tmod_of_pos n (show (0 : Int) < 30 by decide)
  rw [wrap_small (by omega)]
  simp [binV, binI, h]
theorem rem30z {n : Int} (h : (n.tmod 30 + 30).tmod 30 = 0) : binV .rem (.int .i64 n) (.int .i64 30) = some (.int .i64 0) := by
  have h1 := Int.tmod_lt_of_pos n (show (0 : Int) < 30 by decide)
  have h2 := Int.lt_tmod_of_pos n (show (0 : Int) < 30 by decide)
  have h3 : (n.tmod 30 + 30).tmod 30 = (n.tmod 30 + 30) % 30 := Int.tmod_eq_emod_of_nonneg (by omega)
  have h4 : n.tmod 30 = 0 := by omega
  simp [binV, binI, h4]
theorem tm30 (n : Int) : ∃ m : Nat, (n.tmod 30 + 30).tmod 30 = (m : Int) ∧ m < 30 := by
  have h1 := Int.tmod_lt_of_pos n (show (0 : Int) < 30 by decide)
  have h2 := Int.lt_tmod_of_pos n (show (0 : Int) < 30 by decide)
  have h3 := Int.tmod_lt_of_pos (n.tmod 30 + 30) (show (0 : Int) < 30 by decide)
  have h4 := Int.tmod_nonneg 30 (show 0 ≤ n.tmod 30 + 30 by omega)
  exact ⟨((n.tmod 30 + 30).tmod 30).toNat, by omega, by omega⟩
end Go.Proofs.YtjcninlcdnkofaaGreatDoor
