/- LinkSilence: the text that is sent. -/
import Derived.Test.YtjcninlcdnkofaaGreatDoorGxE3
import Derived.Test.YtjcninlcdnkofaaGreatDoorGxQ
import Derived.Test.YtjcninlcdnkofaaGreatDoorGxT15
noncomputable section
namespace Go.Proofs.YtjcninlcdnkofaaGreatDoor
open Go Gw Go.RowKit
set_option linter.unusedSimpArgs false
set_option linter.unusedVariables false
def oxM : OTab := (consT 46 (gD dGet pGet noV) (consT 70 (gD dPut pPut noV) (consT 47 (gDT kT0 kT1 kT2 dDeal pDeal noV) (consT 43 (gD dOff pMayQ noV) (consT 10 (gD dOff pFine noV) noOX)))))
theorem tabM : TabX Tryz.prog noPX oxM := (((((TabX.nil.addT (ans_fine noV)).addT (ans_may noV)).addT (ans_deal noV)).addT (ans_put noV)).addT (ans_get noV))
theorem lt1_no {P : Program} {hint : Nat → List Nat} {m : Nat} {c : DC} : Lt1 P hint m (fun _ _ => .fail) c := fun _ _ _ _ _ h => absurd h (fun q => q)
abbrev cF (l : List V) : Option Blk := some (.cells false l)
abbrev rnd (orcs : Nat → Orc) (sts : Nat → List Nat) (orc : Orc) := codeT (α := Ex × Snap) (callT (mkXT noPX oxM) (mkXP noPX) (mkX noPX oxM) D orcs sts 13) (callN (mkX noPX oxM) D 13) (mkXP noPX) orc
theorem min1 (w : Int) : minV (.int .i64 (if (7 : Int) < (if (1 : Int) > w then 1 else w) then 7 else (if (1 : Int) > w then 1 else w))) [(.int .i64 1)] = some (.int .i64 1) := by
  show some (V.int .i64 (if (1 : Int) < (if (7 : Int) < (if (1 : Int) > w then 1 else w) then 7 else (if (1 : Int) > w then 1 else w)) then 1 else (if (7 : Int) < (if (1 : Int) > w then 1 else w) then 7 else (if (1 : Int) > w then 1 else w)))) = _
  congr 2
  repeat' split
  all_goals omega
def cut8 (body : Str) : Str := extractL body 0 (((if (8 : Int) < ((body : Str).length : Int) then 8 else ((body : Str).length : Int)) : Int).toNat)
theorem cut8_len (body : Str) : (cut8 body).length ≤ 8 := by
  unfold cut8 extractL
  rw [List.length_take]
  split <;> omega
theorem size8 (a b : Gw.Offer) : 8 ≤ (dealL (fineO a) (fineO b)).size := by
  have h := hiL4 (n := (fineO b).size) (by have := (mayO_fine b).z; omega)
  show 8 ≤ sizeL (hiL (fineO b).size)
  rcases cases4 h with e | e | e | e <;> rw [e] <;> decide
theorem gtr8 (body : Str) {z : Int} (h : 8 ≤ z) : binV .gtr (.int .i64 (((cut8 body) : Str).length : Int)) (.int .i64 (if (64 : Int) < z then 64 else z)) = some (.bool false) := by
  have := cut8_len body
  simp [binV, binI]
  split <;> omega
end Go.Proofs.YtjcninlcdnkofaaGreatDoor
