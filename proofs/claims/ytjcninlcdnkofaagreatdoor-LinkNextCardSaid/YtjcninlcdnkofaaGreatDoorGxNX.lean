/- LinkNext: what is left of numbers. -/
import Derived.Test.YtjcninlcdnkofaaGreatDoorGxE3
import Derived.Test.YtjcninlcdnkofaaGreatDoorGxQ
import Derived.Test.YtjcninlcdnkofaaGreatDoorGxT15
noncomputable section
namespace Go.Proofs.YtjcninlcdnkofaaGreatDoor
open Go Gw Go.RowKit
set_option linter.unusedSimpArgs false
set_option linter.unusedVariables false
def oxM : OTab := (consT 46 (gD dGet pGet noV) (consT 70 (gD dPut pPut noV) (consT 47 (gDT kT0 kT1 kT2 dDeal pDeal noV) (consT 43 (gD dOff pMayQ noV) (consT 10 (gD dOff pFine noV) noOX)))))
theorem tabM : TabX Tryz.prog noPX oxM := (((((TabX.nil.addT (ans_fine noV)).addT (ans_may noV)).addT (ans_deal noV)).addT (ans_put noV)).addT (ans_get noV))
theorem lt1_no {P : Program} {hint : Nat → List Nat} {m : Nat} {c : DC} : Lt1 P hint m (fun _ _ => .fail) c := fun _ _ _ _ _ h => absurd h (fun q => q)
abbrev cF (l : List V) : Option Blk := some (.cells false l)
abbrev rnd (orcs : Nat → Orc) (sts : Nat → List Nat) (orc : Orc) := codeT (α := Ex × Snap) (callT (mkXT noPX oxM) (mkXP noPX) (mkX noPX oxM) D orcs sts 13) (callN (mkX noPX oxM) D 13) (mkXP noPX) orc
theorem okSetM (f t s c : Int) {o : Gw.Offer} (ho : MayO o) (h1 : 0 < f ∧ f < 4294967295) (h2 : 0 < t ∧ t < 4294967295) (h3 : 0 ≤ s ∧ s < 8) (h4 : 0 ≤ c ∧ c < 250) : OkSetup ⟨f, t, s, c, o⟩ := ⟨h1, h2, h3, h4, ho⟩
theorem mayO_one : MayO ⟨1, 1, 1, 1, 1⟩ := by
  constructor <;> decide
theorem rem8 {n k : Int} (h : (n.tmod 8 + 8).tmod 8 = k) : binV .rem (.int .i64 (wrapK .i64 (n.tmod 8 + 8))) (.int .i64 8) = some (.int .i64 k) := by
  have h1 := Int.tmod_lt_of_pos n (show (0 : Int) < 8 by decide)
  have h2 := Int.lt_tmod_of_pos n (show (0 : Int) < 8 by decide)
  rw [wrap_small (by omega)]
  simp [binV, binI, h]
theorem rem300 {n k : Int} (h : (n.tmod 300 + 300).tmod 300 = k) : binV .rem (.int .i64 (wrapK .i64 (n.tmod 300 + 300))) (.int .i64 300) = some (.int .i64 k) := by
  have h1 := Int.tmod_lt_of_pos n (show (0 : Int) < 300 by decide)
  have h2 := Int.lt_tmod_of_pos n (show (0 : Int) < 300 by decide)
  rw [wrap_small (by omega)]
  simp [binV, binI, h]
theorem rem300z {n : Int} (h : (n.tmod 300 + 300).tmod 300 = 0) : binV .rem (.int .i64 n) (.int .i64 300) = some (.int .i64 0) := by
  have h1 := Int.tmod_lt_of_pos n (show (0 : Int) < 300 by decide)
  have h2 := Int.lt_tmod_of_pos n (show (0 : Int) < 300 by decide)
  have h3 : (n.tmod 300 + 300).tmod 300 = (n.tmod 300 + 300) % 300 := Int.tmod_eq_emod_of_nonneg (by omega)
  have h4 : n.tmod 300 = 0 := by omega
  simp [binV, binI, h4]
theorem tm8 (n : Int) : ∃ m : Int, (n.tmod 8 + 8).tmod 8 = m ∧ (0 ≤ m ∧ m < 8) := by
  have h1 := Int.tmod_lt_of_pos n (show (0 : Int) < 8 by decide)
  have h2 := Int.lt_tmod_of_pos n (show (0 : Int) < 8 by decide)
  have h3 := Int.tmod_lt_of_pos (n.tmod 8 + 8) (show (0 : Int) < 8 by decide)
  have h4 := Int.tmod_nonneg 8 (show 0 ≤ n.tmod 8 + 8 by omega)
  exact ⟨_, rfl, h4, h3⟩
theorem tm300 (n : Int) : ∃ m : Nat, (n.tmod 300 + 300).tmod 300 = (m : Int) ∧ m < 300 := by
  have h1 := Int.tmod_lt_of_pos n (show (0 : Int) < 300 by decide)
  have h2 := Int.lt_tmod_of_pos n (show (0 : Int) < 300 by decide)
  have h3 := Int.tmod_lt_of_pos (n.tmod 300 + 300) (show (0 : Int) < 300 by decide)
  have h4 := Int.tmod_nonneg 300 (show 0 ≤ n.tmod 300 + 300 by omega)
  exact ⟨((n.tmod 300 + 300).tmod 300).toNat, by omega, by omega⟩
theorem rem250 {x y : Int} (h : x.tmod 250 = y) : binV .rem (.int .i64 x) (.int .i64 250) = some (.int .i64 y) := by
  simp [binV, binI, h]
theorem remC (k : Nat) : binV .rem (.int .i64 (wrapK .i64 (((k % 250 : Nat) : Int) + 1))) (.int .i64 250) = some (.int .i64 (((k + 1) % 250 : Nat) : Int)) := by
  have h1 : k % 250 < 250 := Nat.mod_lt _ (by decide)
  rw [wrap_small (by omega)]
  have h2 : ((((k % 250 : Nat) : Int) + 1).tmod 250) = (((k + 1) % 250 : Nat) : Int) := by
    rw [Int.tmod_eq_emod_of_nonneg (by omega)]
    omega
  exact rem250 h2
theorem remD (k : Nat) : binV .rem (.int .i64 (1 + (k : Int))) (.int .i64 250) = some (.int .i64 (((k + 1) % 250 : Nat) : Int)) := by
  have h2 : ((1 + (k : Int)).tmod 250) = (((k + 1) % 250 : Nat) : Int) := by
    rw [Int.tmod_eq_emod_of_nonneg (by omega)]
    omega
  exact rem250 h2
end Go.Proofs.YtjcninlcdnkofaaGreatDoor
