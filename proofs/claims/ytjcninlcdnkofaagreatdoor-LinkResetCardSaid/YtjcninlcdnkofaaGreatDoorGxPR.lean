/- Pair: two that are linked. -/
import Derived.Test.YtjcninlcdnkofaaGreatDoorGxP
import Derived.Test.YtjcninlcdnkofaaGreatDoorGxT16
noncomputable section
namespace Go.Proofs.YtjcninlcdnkofaaGreatDoor
open Go Gw Go.RowKit
set_option linter.unusedSimpArgs false
set_option linter.unusedVariables false
theorem okSetM (f t s c : Int) {o : Gw.Offer} (ho : MayO o) (h1 : 0 < f ∧ f < 4294967295) (h2 : 0 < t ∧ t < 4294967295) (h3 : 0 ≤ s ∧ s < 8) (h4 : 0 ≤ c ∧ c < 250) : OkSetup ⟨f, t, s, c, o⟩ := ⟨h1, h2, h3, h4, ho⟩
theorem waitM {a : Gw.Offer} (h : MayO a) : loL a.wait = 0 ∨ loL a.wait = 1 ∨ loL a.wait = 2 := by
  have := h.t
  unfold loL
  repeat' split
  all_goals omega
def noR : Nat → Option (List (List V)) := fun _ => none
def pairRows (a b : Gw.Offer) (n : Nat) : List (List V) := [[.int .u32 1, .int .i64 0, .int .i64 a.baud, .int .i64 a.silent, .int .i64 a.win, .int .i64 a.size, .int .i64 a.wait, .int .i64 2, .int .u32 2, .int .i64 0, .int .i64 1, .int .i64 (dealL a b).baud, .int .i64 200, .int .i64 (dealL a b).win, .int .i64 (dealL a b).size, .int .i64 (loL b.wait), .ptr (n + 1) 0, .int .i64 1, .int .i64 0, .int .i64 0, .int .i64 0, .int .i64 0, .int .i64 (loL b.wait), .int .i64 0, .bool false, .bool false, .bool false, .nils],
  [.int .i64 1, .int .i64 (if (64 : Int) < (dealL a b).size then 64 else (dealL a b).size), .ptr (n + 2) 0, .ptr (n + 3) 0, .bool true],
  [.int .i64 (if (7 : Int) < (if (1 : Int) > (dealL a b).win then 1 else (dealL a b).win) then 7 else (if (1 : Int) > (dealL a b).win then 1 else (dealL a b).win)), .nils, .int .i64 0, .int .i64 0],
  [.int .i64 0, .bool false],
  [.int .u32 2, .int .i64 1, .int .i64 b.baud, .int .i64 b.silent, .int .i64 b.win, .int .i64 b.size, .int .i64 b.wait, .int .i64 2, .int .u32 1, .int .i64 0, .int .i64 1, .int .i64 (dealL b a).baud, .int .i64 200, .int .i64 (dealL b a).win, .int .i64 (dealL b a).size, .int .i64 (loL a.wait), .ptr (n + 5) 0, .int .i64 0, .int .i64 0, .int .i64 0, .int .i64 0, .int .i64 0, .int .i64 0, .int .i64 (loL a.wait + 1), .bool false, .bool false, .bool false, .nils],
  [.int .i64 2, .int .i64 (if (64 : Int) < (dealL b a).size then 64 else (dealL b a).size), .ptr (n + 6) 0, .ptr (n + 7) 0, .bool false],
  [.int .i64 (if (7 : Int) < (if (1 : Int) > (dealL b a).win then 1 else (dealL b a).win) then 7 else (if (1 : Int) > (dealL b a).win then 1 else (dealL b a).win)), .nils, .int .i64 0, .int .i64 0],
  [.int .i64 0, .bool false]]
def dPair : List V → Prop
  | [.agg [.int .i64 a1, .int .i64 a2, .int .i64 a3, .int .i64 a4, .int .i64 a5], .agg [.int .i64 b1, .int .i64 b2, .int .i64 b3, .int .i64 b4, .int .i64 b5]] => MayO ⟨a1, a2, a3, a4, a5⟩ ∧ MayO ⟨b1, b2, b3, b4, b5⟩
  | _ => False
def pPair : List V → Nat → List (List V)
  | [.agg [.int .i64 a1, .int .i64 a2, .int .i64 a3, .int .i64 a4, .int .i64 a5], .agg [.int .i64 b1, .int .i64 b2, .int .i64 b3, .int .i64 b4, .int .i64 b5]], n => pairRows ⟨a1, a2, a3, a4, a5⟩ ⟨b1, b2, b3, b4, b5⟩ n
  | _, _ => []
def prPair (n : Nat) : List V := [.ptr (n + 0) 0, .ptr (n + 4) 0]
def oxPair0 (a : Gw.Offer) (b : Gw.Offer) : OTab := (consT 46 (gD dGet pGet (fun n => match n with | 135 => some (.tup [.agg [.int .u32 1, .int .u32 2, .int .i64 0, .int .i64 1, .int .i64 a.baud, .int .i64 a.silent, .int .i64 a.win, .int .i64 a.size, .int .i64 a.wait], .bool true]) | 295 => some (.tup [.agg [.int .u32 2, .int .u32 1, .int .i64 0, .int .i64 1, .int .i64 b.baud, .int .i64 b.silent, .int .i64 b.win, .int .i64 b.size, .int .i64 b.wait], .bool true]) | _ => none)) (consT 70 (gD dPut pPut noV) (consT 47 (gDT kT0 kT1 kT2 dDeal pDeal (fun n => match n with | 148 => some (.tup [.agg [.int .i64 (dealL b a).baud, .int .i64 200, .int .i64 (dealL b a).win, .int .i64 (dealL b a).size, .int .i64 0], .bool true]) | 308 => some (.tup [.agg [.int .i64 (dealL a b).baud, .int .i64 200, .int .i64 (dealL a b).win, .int .i64 (dealL a b).size, .int .i64 (dealL a b).wait], .bool true]) | _ => none)) (consT 43 (gD dOff pMayQ (fun n => match n with | 9 => some (.bool true) | 17 => some (.bool true) | _ => none)) noOX))))
def treePair0 (a : Gw.Offer) (b : Gw.Offer) : DT (V × List (Option Blk)) :=
  .ob (dOff [.agg [.int .i64 a.baud, .int .i64 a.silent, .int .i64 a.win, .int .i64 a.size, .int .i64 a.wait]]) (
.ob (pMayQ [.agg [.int .i64 a.baud, .int .i64 a.silent, .int .i64 a.win, .int .i64 a.size, .int .i64 a.wait]] = (.bool true)) (
.ob (((V.beq (.agg [.int .i64 b.baud, .int .i64 b.silent, .int .i64 b.win, .int .i64 b.size, .int .i64 b.wait]) (.agg [.int .i64 b.baud, .int .i64 b.silent, .int .i64 b.win, .int .i64 b.size, .int .i64 b.wait])) && true) = true) (
.ob (dOff [.agg [.int .i64 b.baud, .int .i64 b.silent, .int .i64 b.win, .int .i64 b.size, .int .i64 b.wait]]) (
.ob (pMayQ [.agg [.int .i64 b.baud, .int .i64 b.silent, .int .i64 b.win, .int .i64 b.size, .int .i64 b.wait]] = (.bool true)) (
.ob (True) (
.ob (IntKind.i64 = IntKind.i64 ∧ (250 : Int) ≠ 0) (
.ob (((V.beq (.int .u32 2) (.int .u32 2)) && true) = true) (
.ob (((V.beq (.int .u32 2) (.int .u32 2)) && true) = true) (
.ob (dPut [.agg [.int .u32 1, .int .u32 2, .int .i64 0, .int .i64 1, .int .i64 a.baud, .int .i64 a.silent, .int .i64 a.win, .int .i64 a.size, .int .i64 a.wait]]) (
.ob (9 = 9 ∧ 0 ≤ (0 : Int) ∧ (0 : Int) < ((1 : Nat) : Int)) (
.ob (Gw.lenStr (.str (setupStr ⟨1, 2, 0, 1, a⟩)) = some (.int .i64 25)) (
.ob (Gw.lenStr (.str (setupStr ⟨1, 2, 0, 1, a⟩)) = some (.int .i64 25)) (
.ob (((V.beq (.str (setupStr ⟨1, 2, 0, 1, a⟩)) (.str (setupStr ⟨1, 2, 0, 1, a⟩))) && ((V.beq (.bool true) (.bool true)) && ((V.beq (.agg [.int .i64 127, .int .i64 255]) (.agg [.int .i64 127, .int .i64 255])) && true))) = true) (
.ob (((V.beq (.int .i64 2) (.int .i64 2)) && true) = true) (
.ob (((V.beq (.agg [.int .i64 127, .int .i64 255, .bool true, .int .i64 3, .int .i64 2, .int .i64 0, .int .i64 0, .bool true, .str (setupStr ⟨1, 2, 0, 1, a⟩)]) (.agg [.int .i64 127, .int .i64 255, .bool true, .int .i64 3, .int .i64 2, .int .i64 0, .int .i64 0, .bool true, .str (setupStr ⟨1, 2, 0, 1, a⟩)])) && true) = true) (
.ob (((eqV (.agg [.i, .i, .b, .i, .i, .i, .i, .b, .s]) (.agg [.int .i64 127, .int .i64 255, .bool true, .int .i64 3, .int .i64 2, .int .i64 0, .int .i64 0, .bool true, .str (setupStr ⟨1, 2, 0, 1, a⟩)]) (.agg [.int .i64 127, .int .i64 255, .bool true, .int .i64 3, .int .i64 2, .int .i64 0, .int .i64 0, .bool true, .str (setupStr ⟨1, 2, 0, 1, a⟩)])).map fun b => V.bool (if true then !b else b)) = some (.bool false)) (
.ob (((V.beq (.agg [.int .i64 127, .int .i64 255]) (.agg [.int .i64 127, .int .i64 255])) && true) = true) (
.ob (True) (
.ob (dGet [.str (setupStr ⟨1, 2, 0, 1, a⟩)]) (
.ob (pGet [.str (setupStr ⟨1, 2, 0, 1, a⟩)] = (.tup [.agg [.int .u32 1, .int .u32 2, .int .i64 0, .int .i64 1, .int .i64 a.baud, .int .i64 a.silent, .int .i64 a.win, .int .i64 a.size, .int .i64 a.wait], .bool true])) (
.ob (dDeal [.agg [.int .i64 b.baud, .int .i64 b.silent, .int .i64 b.win, .int .i64 b.size, .int .i64 b.wait], .agg [.int .i64 a.baud, .int .i64 a.silent, .int .i64 a.win, .int .i64 a.size, .int .i64 a.wait]]) (
.ob (pDeal [.agg [.int .i64 b.baud, .int .i64 b.silent, .int .i64 b.win, .int .i64 b.size, .int .i64 b.wait], .agg [.int .i64 a.baud, .int .i64 a.silent, .int .i64 a.win, .int .i64 a.size, .int .i64 a.wait]] = (.tup [.agg [.int .i64 (dealL b a).baud, .int .i64 200, .int .i64 (dealL b a).win, .int .i64 (dealL b a).size, .int .i64 0], .bool true])) (
.ob (((V.beq (.int .i64 (dealL b a).size) (.int .i64 (dealL b a).size)) && true) = true) (
.ob (((V.beq (.int .i64 (dealL b a).size) (.int .i64 (dealL b a).size)) && true) = true) (
.ob (((V.beq (.agg [.int .i64 (dealL b a).baud, .int .i64 200, .int .i64 (dealL b a).win, .int .i64 (dealL b a).size, .int .i64 0]) (.agg [.int .i64 (dealL b a).baud, .int .i64 200, .int .i64 (dealL b a).win, .int .i64 (dealL b a).size, .int .i64 0])) && ((V.beq (.agg [.int .i64 0, .int .i64 1]) (.agg [.int .i64 0, .int .i64 1])) && true)) = true) (
.ob (((V.beq (.agg [.int .i64 (dealL b a).baud, .int .i64 200, .int .i64 (dealL b a).win, .int .i64 (dealL b a).size, .int .i64 0]) (.agg [.int .i64 (dealL b a).baud, .int .i64 200, .int .i64 (dealL b a).win, .int .i64 (dealL b a).size, .int .i64 0])) && ((V.beq (.agg [.int .i64 0, .int .i64 1]) (.agg [.int .i64 0, .int .i64 1])) && true)) = true) (
.ob (((V.beq (.agg [.int .i64 (dealL b a).baud, .int .i64 200, .int .i64 (dealL b a).win, .int .i64 (dealL b a).size, .int .i64 0]) (.agg [.int .i64 (dealL b a).baud, .int .i64 200, .int .i64 (dealL b a).win, .int .i64 (dealL b a).size, .int .i64 0])) && ((V.beq (.agg [.int .i64 0, .int .i64 1]) (.agg [.int .i64 0, .int .i64 1])) && true)) = true) (
.ob (((V.beq (.agg [.int .i64 (dealL b a).baud, .int .i64 200, .int .i64 (dealL b a).win, .int .i64 (dealL b a).size, .int .i64 0]) (.agg [.int .i64 (dealL b a).baud, .int .i64 200, .int .i64 (dealL b a).win, .int .i64 (dealL b a).size, .int .i64 0])) && true) = true) (
.ob (((V.beq (.int .i64 0) (.int .i64 0)) && true) = true) (
.ob (((V.beq (.int .i64 0) (.int .i64 0)) && true) = true) (
.ob (((V.beq (.int .i64 0) (.int .i64 0)) && true) = true) (
.ob (dPut [.agg [.int .u32 2, .int .u32 1, .int .i64 0, .int .i64 1, .int .i64 b.baud, .int .i64 b.silent, .int .i64 b.win, .int .i64 b.size, .int .i64 b.wait]]) (
.ob (9 = 9 ∧ 0 ≤ (0 : Int) ∧ (0 : Int) < ((1 : Nat) : Int)) (
.ob (Gw.lenStr (.str (setupStr ⟨2, 1, 0, 1, b⟩)) = some (.int .i64 25)) (
.ob (Gw.lenStr (.str (setupStr ⟨2, 1, 0, 1, b⟩)) = some (.int .i64 25)) (
.ob (((V.beq (.str (setupStr ⟨2, 1, 0, 1, b⟩)) (.str (setupStr ⟨2, 1, 0, 1, b⟩))) && ((V.beq (.bool false) (.bool false)) && ((V.beq (.agg [.int .i64 127, .int .i64 255]) (.agg [.int .i64 127, .int .i64 255])) && true))) = true) (
.ob (((V.beq (.int .i64 3) (.int .i64 3)) && true) = true) (
.ob (((V.beq (.agg [.int .i64 127, .int .i64 255, .bool false, .int .i64 3, .int .i64 3, .int .i64 0, .int .i64 0, .bool true, .str (setupStr ⟨2, 1, 0, 1, b⟩)]) (.agg [.int .i64 127, .int .i64 255, .bool false, .int .i64 3, .int .i64 3, .int .i64 0, .int .i64 0, .bool true, .str (setupStr ⟨2, 1, 0, 1, b⟩)])) && true) = true) (
.ob (((eqV (.agg [.i, .i, .b, .i, .i, .i, .i, .b, .s]) (.agg [.int .i64 127, .int .i64 255, .bool false, .int .i64 3, .int .i64 3, .int .i64 0, .int .i64 0, .bool true, .str (setupStr ⟨2, 1, 0, 1, b⟩)]) (.agg [.int .i64 127, .int .i64 255, .bool false, .int .i64 3, .int .i64 3, .int .i64 0, .int .i64 0, .bool true, .str (setupStr ⟨2, 1, 0, 1, b⟩)])).map fun b => V.bool (if true then !b else b)) = some (.bool false)) (
.ob (((V.beq (.agg [.int .i64 127, .int .i64 255]) (.agg [.int .i64 127, .int .i64 255])) && true) = true) (
.ob (True) (
.ob (dGet [.str (setupStr ⟨2, 1, 0, 1, b⟩)]) (
.ob (pGet [.str (setupStr ⟨2, 1, 0, 1, b⟩)] = (.tup [.agg [.int .u32 2, .int .u32 1, .int .i64 0, .int .i64 1, .int .i64 b.baud, .int .i64 b.silent, .int .i64 b.win, .int .i64 b.size, .int .i64 b.wait], .bool true])) (
.ob (dDeal [.agg [.int .i64 a.baud, .int .i64 a.silent, .int .i64 a.win, .int .i64 a.size, .int .i64 a.wait], .agg [.int .i64 b.baud, .int .i64 b.silent, .int .i64 b.win, .int .i64 b.size, .int .i64 b.wait]]) (
.ob (pDeal [.agg [.int .i64 a.baud, .int .i64 a.silent, .int .i64 a.win, .int .i64 a.size, .int .i64 a.wait], .agg [.int .i64 b.baud, .int .i64 b.silent, .int .i64 b.win, .int .i64 b.size, .int .i64 b.wait]] = (.tup [.agg [.int .i64 (dealL a b).baud, .int .i64 200, .int .i64 (dealL a b).win, .int .i64 (dealL a b).size, .int .i64 (dealL a b).wait], .bool true])) (
.ob (True) (
.ob (((V.beq (.int .i64 (dealL a b).size) (.int .i64 (dealL a b).size)) && true) = true) (
.ob (((V.beq (.int .i64 (dealL a b).size) (.int .i64 (dealL a b).size)) && true) = true) (
.ob (((V.beq (.agg [.int .i64 (dealL a b).baud, .int .i64 200, .int .i64 (dealL a b).win, .int .i64 (dealL a b).size, .int .i64 (dealL a b).wait]) (.agg [.int .i64 (dealL a b).baud, .int .i64 200, .int .i64 (dealL a b).win, .int .i64 (dealL a b).size, .int .i64 (dealL a b).wait])) && ((V.beq (.agg [.int .i64 0, .int .i64 1]) (.agg [.int .i64 0, .int .i64 1])) && true)) = true) (
.ob (((V.beq (.agg [.int .i64 (dealL a b).baud, .int .i64 200, .int .i64 (dealL a b).win, .int .i64 (dealL a b).size, .int .i64 (dealL a b).wait]) (.agg [.int .i64 (dealL a b).baud, .int .i64 200, .int .i64 (dealL a b).win, .int .i64 (dealL a b).size, .int .i64 (dealL a b).wait])) && ((V.beq (.agg [.int .i64 0, .int .i64 1]) (.agg [.int .i64 0, .int .i64 1])) && true)) = true) (
.ob (((V.beq (.agg [.int .i64 (dealL a b).baud, .int .i64 200, .int .i64 (dealL a b).win, .int .i64 (dealL a b).size, .int .i64 (dealL a b).wait]) (.agg [.int .i64 (dealL a b).baud, .int .i64 200, .int .i64 (dealL a b).win, .int .i64 (dealL a b).size, .int .i64 (dealL a b).wait])) && ((V.beq (.agg [.int .i64 0, .int .i64 1]) (.agg [.int .i64 0, .int .i64 1])) && true)) = true) (
.ob (((V.beq (.agg [.int .i64 (dealL a b).baud, .int .i64 200, .int .i64 (dealL a b).win, .int .i64 (dealL a b).size, .int .i64 (dealL a b).wait]) (.agg [.int .i64 (dealL a b).baud, .int .i64 200, .int .i64 (dealL a b).win, .int .i64 (dealL a b).size, .int .i64 (dealL a b).wait])) && true) = true) (
.ob (((V.beq (.int .i64 (dealL a b).wait) (.int .i64 (dealL a b).wait)) && true) = true) (
.ob (((V.beq (.int .i64 (dealL a b).wait) (.int .i64 (dealL a b).wait)) && true) = true) (
.ob (((V.beq (.int .i64 (dealL a b).wait) (.int .i64 (dealL a b).wait)) && true) = true) (
.leaf ((.tup [.ptr 13 0, .ptr 21 0], [some (.cells false [.int .u32 1, .int .i64 0, .int .i64 a.baud, .int .i64 a.silent, .int .i64 a.win, .int .i64 a.size, .int .i64 a.wait, .int .i64 2, .int .u32 2, .int .i64 0, .int .i64 1, .int .i64 (dealL a b).baud, .int .i64 200, .int .i64 (dealL a b).win, .int .i64 (dealL a b).size, .int .i64 (dealL a b).wait, .ptr 327 0, .int .i64 1, .int .i64 0, .int .i64 0, .int .i64 0, .int .i64 0, .int .i64 (dealL a b).wait, .int .i64 0, .bool false, .bool false, .bool false, .nils]), some (.cells false [.int .i64 1, .int .i64 (if (64 : Int) < (dealL a b).size then 64 else (dealL a b).size), .ptr 333 0, .ptr 336 0, .bool true]), some (.cells false [.int .i64 (if (7 : Int) < (if (1 : Int) > (dealL a b).win then 1 else (dealL a b).win) then 7 else (if (1 : Int) > (dealL a b).win then 1 else (dealL a b).win)), .nils, .int .i64 0, .int .i64 0]), some (.cells false [.int .i64 0, .bool false]), some (.cells false [.int .u32 2, .int .i64 1, .int .i64 b.baud, .int .i64 b.silent, .int .i64 b.win, .int .i64 b.size, .int .i64 b.wait, .int .i64 2, .int .u32 1, .int .i64 0, .int .i64 1, .int .i64 (dealL b a).baud, .int .i64 200, .int .i64 (dealL b a).win, .int .i64 (dealL b a).size, .int .i64 0, .ptr 167 0, .int .i64 0, .int .i64 0, .int .i64 0, .int .i64 0, .int .i64 0, .int .i64 0, .int .i64 1, .bool false, .bool false, .bool false, .nils]), some (.cells false [.int .i64 2, .int .i64 (if (64 : Int) < (dealL b a).size then 64 else (dealL b a).size), .ptr 173 0, .ptr 176 0, .bool false]), some (.cells false [.int .i64 (if (7 : Int) < (if (1 : Int) > (dealL b a).win then 1 else (dealL b a).win) then 7 else (if (1 : Int) > (dealL b a).win then 1 else (dealL b a).win)), .nils, .int .i64 0, .int .i64 0]), some (.cells false [.int .i64 0, .bool false])]))))))))))))))))))))))))))))))))))))))))))))))))))))))))))
set_option maxRecDepth 1000000 in
theorem treePair0_eq (a : Gw.Offer) (b : Gw.Offer) : funT (mkXT (noPX) (oxPair0 a b)) (mkXP (noPX)) (mkX (noPX) (oxPair0 a b)) D (fun g => match g with | 76 => (fun k => match k with | 38 => some fun t h => (match h.n with | 90 => (.int .i64 25, h) | 109 => (.int .i64 25, h) | 250 => (.int .i64 25, h) | _ => (.int .i64 25, h)) | _ => none) | 44 => (fun k => match k with | 52 => some fun t h => (match h.n with | 125 => (.bool false, h) | _ => (.bool false, h)) | _ => none) | _ => noOrc) (fun k => match k with | 11 => [31, 41, 49, 60, 69, 72, 76] | 12 => [10, 15, 20, 25, 30, 31, 37, 41, 50, 57] | 16 => [15, 22, 31, 52, 58] | 21 => [8, 11, 15, 19, 23] | 22 => [16, 25, 30, 36, 39, 44, 47, 57, 67, 82, 86, 99] | 31 => [10, 33, 40, 44, 49] | 35 => [8, 25, 32] | 37 => [28, 30] | 44 => [8, 15, 26, 37, 41, 46, 52] | 48 => [14, 20, 28] | 49 => [13] | 71 => [10] | 76 => [11, 16, 20, 25, 30, 34, 39] | 77 => [8, 14, 19, 24, 34, 44] | 104 => [6, 9, 20] | 129 => [8, 19, 30, 34, 38] | 130 => [8, 13, 18, 21] | _ => []) 12 noOrc [31, 41, 49, 60, 69, 72, 76] (noLt) (dOf 11) [.agg a.vs, .agg b.vs] (tabH kT0 kT1 kT2 3) (fun v h => (v, gotC [13, 327, 333, 336, 21, 167, 173, 176] h)) = treePair0 a b := by kernel_rfl
def rowsPair0 (a : Gw.Offer) (b : Gw.Offer) : List (List V) := [[.int .u32 1, .int .i64 0, .int .i64 a.baud, .int .i64 a.silent, .int .i64 a.win, .int .i64 a.size, .int .i64 a.wait, .int .i64 2, .int .u32 2, .int .i64 0, .int .i64 1, .int .i64 (dealL a b).baud, .int .i64 200, .int .i64 (dealL a b).win, .int .i64 (dealL a b).size, .int .i64 (dealL a b).wait, .ptr 327 0, .int .i64 1, .int .i64 0, .int .i64 0, .int .i64 0, .int .i64 0, .int .i64 (dealL a b).wait, .int .i64 0, .bool false, .bool false, .bool false, .nils], [.int .i64 1, .int .i64 (if (64 : Int) < (dealL a b).size then 64 else (dealL a b).size), .ptr 333 0, .ptr 336 0, .bool true], [.int .i64 (if (7 : Int) < (if (1 : Int) > (dealL a b).win then 1 else (dealL a b).win) then 7 else (if (1 : Int) > (dealL a b).win then 1 else (dealL a b).win)), .nils, .int .i64 0, .int .i64 0], [.int .i64 0, .bool false], [.int .u32 2, .int .i64 1, .int .i64 b.baud, .int .i64 b.silent, .int .i64 b.win, .int .i64 b.size, .int .i64 b.wait, .int .i64 2, .int .u32 1, .int .i64 0, .int .i64 1, .int .i64 (dealL b a).baud, .int .i64 200, .int .i64 (dealL b a).win, .int .i64 (dealL b a).size, .int .i64 0, .ptr 167 0, .int .i64 0, .int .i64 0, .int .i64 0, .int .i64 0, .int .i64 0, .int .i64 0, .int .i64 1, .bool false, .bool false, .bool false, .nils], [.int .i64 2, .int .i64 (if (64 : Int) < (dealL b a).size then 64 else (dealL b a).size), .ptr 173 0, .ptr 176 0, .bool false], [.int .i64 (if (7 : Int) < (if (1 : Int) > (dealL b a).win then 1 else (dealL b a).win) then 7 else (if (1 : Int) > (dealL b a).win then 1 else (dealL b a).win)), .nils, .int .i64 0, .int .i64 0], [.int .i64 0, .bool false]]
theorem satPair0 (a : Gw.Offer) (b : Gw.Offer) (ha : MayO a) (hb : MayO b) (hw : loL a.wait = 0) : (treePair0 a b).sat fun q => q.1 = .tup [.ptr 13 0, .ptr 21 0] ∧ q.2 = cellsC (rowsPair0 a b) :=
 sat_ob trivial (
sat_ob (may_of ha) (
sat_ob (by simp only [V.beq_refl, Bool.and_true]) (
sat_ob trivial (
sat_ob (may_of hb) (
sat_ob trivial (
sat_ob (by decide) (
sat_ob (by simp only [V.beq_refl, Bool.and_true]) (
sat_ob (by simp only [V.beq_refl, Bool.and_true]) (
sat_ob (okSetM 1 2 0 1 ha (by decide) (by decide) (by decide) (by decide)) (
sat_ob (by decide) (
sat_ob rfl (
sat_ob rfl (
sat_ob (by simp only [V.beq_refl, Bool.and_true]) (
sat_ob (by simp only [V.beq_refl, Bool.and_true]) (
sat_ob (by simp only [V.beq_refl, Bool.and_true]) (
sat_ob (by simp [eqV, eqCells]) (
sat_ob (by simp only [V.beq_refl, Bool.and_true]) (
sat_ob trivial (
sat_ob ⟨⟨1, 2, 0, 1, a⟩, (okSetM 1 2 0 1 ha (by decide) (by decide) (by decide) (by decide)), rfl⟩ (
sat_ob (get_put ⟨1, 2, 0, 1, a⟩ (okSetM 1 2 0 1 ha (by decide) (by decide) (by decide) (by decide))) (
sat_ob ⟨hb, ha⟩ (
sat_ob (by show V.tup [.agg [.int .i64 _, .int .i64 _, .int .i64 _, .int .i64 _, .int .i64 (loL a.wait)], .bool true] = _; rw [hw]; rfl) (
sat_ob (by simp only [V.beq_refl, Bool.and_true]) (
sat_ob (by simp only [V.beq_refl, Bool.and_true]) (
sat_ob (by simp only [V.beq_refl, Bool.and_true]) (
sat_ob (by simp only [V.beq_refl, Bool.and_true]) (
sat_ob (by simp only [V.beq_refl, Bool.and_true]) (
sat_ob (by simp only [V.beq_refl, Bool.and_true]) (
sat_ob (by simp only [V.beq_refl, Bool.and_true]) (
sat_ob (by simp only [V.beq_refl, Bool.and_true]) (
sat_ob (by simp only [V.beq_refl, Bool.and_true]) (
sat_ob (okSetM 2 1 0 1 hb (by decide) (by decide) (by decide) (by decide)) (
sat_ob (by decide) (
sat_ob rfl (
sat_ob rfl (
sat_ob (by simp only [V.beq_refl, Bool.and_true]) (
sat_ob (by simp only [V.beq_refl, Bool.and_true]) (
sat_ob (by simp only [V.beq_refl, Bool.and_true]) (
sat_ob (by simp [eqV, eqCells]) (
sat_ob (by simp only [V.beq_refl, Bool.and_true]) (
sat_ob trivial (
sat_ob ⟨⟨2, 1, 0, 1, b⟩, (okSetM 2 1 0 1 hb (by decide) (by decide) (by decide) (by decide)), rfl⟩ (
sat_ob (get_put ⟨2, 1, 0, 1, b⟩ (okSetM 2 1 0 1 hb (by decide) (by decide) (by decide) (by decide))) (
sat_ob ⟨ha, hb⟩ (
sat_ob (by rfl) (
sat_ob trivial (
sat_ob (by simp only [V.beq_refl, Bool.and_true]) (
sat_ob (by simp only [V.beq_refl, Bool.and_true]) (
sat_ob (by simp only [V.beq_refl, Bool.and_true]) (
sat_ob (by simp only [V.beq_refl, Bool.and_true]) (
sat_ob (by simp only [V.beq_refl, Bool.and_true]) (
sat_ob (by simp only [V.beq_refl, Bool.and_true]) (
sat_ob (by simp only [V.beq_refl, Bool.and_true]) (
sat_ob (by simp only [V.beq_refl, Bool.and_true]) (
sat_ob (by simp only [V.beq_refl, Bool.and_true]) (
sat_leaf (⟨rfl, rfl⟩)))))))))))))))))))))))))))))))))))))))))))))))))))))))))
theorem runPair0 (a : Gw.Offer) (b : Gw.Offer) (ha : MayO a) (hb : MayO b) (hw : loL a.wait = 0) : Run Tryz.prog 11 [.agg a.vs, .agg b.vs] (tabH kT0 kT1 kT2 3) fun v h => v = .tup [.ptr 13 0, .ptr 21 0] ∧ gotC [13, 327, 333, 336, 21, 167, 173, 176] h = cellsC (rowsPair0 a b) := run_plainU mixed (show TabX Tryz.prog noPX (oxPair0 a b) from ((((TabX.nil.addT (ans_may (fun n => match n with | 9 => some (.bool true) | 17 => some (.bool true) | _ => none))).addT (ans_deal (fun n => match n with | 148 => some (.tup [.agg [.int .i64 (dealL b a).baud, .int .i64 200, .int .i64 (dealL b a).win, .int .i64 (dealL b a).size, .int .i64 0], .bool true]) | 308 => some (.tup [.agg [.int .i64 (dealL a b).baud, .int .i64 200, .int .i64 (dealL a b).win, .int .i64 (dealL a b).size, .int .i64 (dealL a b).wait], .bool true]) | _ => none))).addT (ans_put noV)).addT (ans_get (fun n => match n with | 135 => some (.tup [.agg [.int .u32 1, .int .u32 2, .int .i64 0, .int .i64 1, .int .i64 a.baud, .int .i64 a.silent, .int .i64 a.win, .int .i64 a.size, .int .i64 a.wait], .bool true]) | 295 => some (.tup [.agg [.int .u32 2, .int .u32 1, .int .i64 0, .int .i64 1, .int .i64 b.baud, .int .i64 b.silent, .int .i64 b.win, .int .i64 b.size, .int .i64 b.wait], .bool true]) | _ => none)))) tabD (dIs (by kernel_rfl)) (treePair0_eq a b) (Q := fun q => q.1 = .tup [.ptr 13 0, .ptr 21 0] ∧ q.2 = cellsC (rowsPair0 a b)) (satPair0 a b ha hb hw)
theorem getPair0 (a : Gw.Offer) (b : Gw.Offer) (ha : MayO a) (hb : MayO b) (hw : loL a.wait = 0) : V.flats [V.agg a.vs, V.agg b.vs] = true ∧ ∃ (frs : List Nat) (rows : List (List V)) (rs0 : List V), (Run Tryz.prog 11 [.agg a.vs, .agg b.vs] (tabH kT0 kT1 kT2 3) fun r1 h1 => r1 = .tup rs0 ∧ gotC frs h1 = cellsC rows) ∧ frs.Nodup ∧ rows.all (fun r => r.all (okV frs)) = true ∧ rs0.all (okV frs) = true ∧ isAnyL rs0 = false ∧ (∀ n, pPair [.agg a.vs, .agg b.vs] n = rows.map (List.map (reV frs n))) ∧ ∀ n, prPair n = rs0.map (reV frs n) :=
  ⟨rfl, [13, 327, 333, 336, 21, 167, 173, 176], rowsPair0 a b, [.ptr 13 0, .ptr 21 0], runPair0 a b ha hb hw, by decide, by kernel_rfl, by kernel_rfl, by kernel_rfl, fun n => by
    show pairRows a b n = _
    unfold pairRows
    rw [hw]
    rfl, fun n => rfl⟩
def oxPair1 (a : Gw.Offer) (b : Gw.Offer) : OTab := (consT 46 (gD dGet pGet (fun n => match n with | 135 => some (.tup [.agg [.int .u32 1, .int .u32 2, .int .i64 0, .int .i64 1, .int .i64 a.baud, .int .i64 a.silent, .int .i64 a.win, .int .i64 a.size, .int .i64 a.wait], .bool true]) | 295 => some (.tup [.agg [.int .u32 2, .int .u32 1, .int .i64 0, .int .i64 1, .int .i64 b.baud, .int .i64 b.silent, .int .i64 b.win, .int .i64 b.size, .int .i64 b.wait], .bool true]) | _ => none)) (consT 70 (gD dPut pPut noV) (consT 47 (gDT kT0 kT1 kT2 dDeal pDeal (fun n => match n with | 148 => some (.tup [.agg [.int .i64 (dealL b a).baud, .int .i64 200, .int .i64 (dealL b a).win, .int .i64 (dealL b a).size, .int .i64 1], .bool true]) | 308 => some (.tup [.agg [.int .i64 (dealL a b).baud, .int .i64 200, .int .i64 (dealL a b).win, .int .i64 (dealL a b).size, .int .i64 (dealL a b).wait], .bool true]) | _ => none)) (consT 43 (gD dOff pMayQ (fun n => match n with | 9 => some (.bool true) | 17 => some (.bool true) | _ => none)) noOX))))
def treePair1 (a : Gw.Offer) (b : Gw.Offer) : DT (V × List (Option Blk)) :=
  .ob (dOff [.agg [.int .i64 a.baud, .int .i64 a.silent, .int .i64 a.win, .int .i64 a.size, .int .i64 a.wait]]) (
.ob (pMayQ [.agg [.int .i64 a.baud, .int .i64 a.silent, .int .i64 a.win, .int .i64 a.size, .int .i64 a.wait]] = (.bool true)) (
.ob (((V.beq (.agg [.int .i64 b.baud, .int .i64 b.silent, .int .i64 b.win, .int .i64 b.size, .int .i64 b.wait]) (.agg [.int .i64 b.baud, .int .i64 b.silent, .int .i64 b.win, .int .i64 b.size, .int .i64 b.wait])) && true) = true) (
.ob (dOff [.agg [.int .i64 b.baud, .int .i64 b.silent, .int .i64 b.win, .int .i64 b.size, .int .i64 b.wait]]) (
.ob (pMayQ [.agg [.int .i64 b.baud, .int .i64 b.silent, .int .i64 b.win, .int .i64 b.size, .int .i64 b.wait]] = (.bool true)) (
.ob (True) (
.ob (IntKind.i64 = IntKind.i64 ∧ (250 : Int) ≠ 0) (
.ob (((V.beq (.int .u32 2) (.int .u32 2)) && true) = true) (
.ob (((V.beq (.int .u32 2) (.int .u32 2)) && true) = true) (
.ob (dPut [.agg [.int .u32 1, .int .u32 2, .int .i64 0, .int .i64 1, .int .i64 a.baud, .int .i64 a.silent, .int .i64 a.win, .int .i64 a.size, .int .i64 a.wait]]) (
.ob (9 = 9 ∧ 0 ≤ (0 : Int) ∧ (0 : Int) < ((1 : Nat) : Int)) (
.ob (Gw.lenStr (.str (setupStr ⟨1, 2, 0, 1, a⟩)) = some (.int .i64 25)) (
.ob (Gw.lenStr (.str (setupStr ⟨1, 2, 0, 1, a⟩)) = some (.int .i64 25)) (
.ob (((V.beq (.str (setupStr ⟨1, 2, 0, 1, a⟩)) (.str (setupStr ⟨1, 2, 0, 1, a⟩))) && ((V.beq (.bool true) (.bool true)) && ((V.beq (.agg [.int .i64 127, .int .i64 255]) (.agg [.int .i64 127, .int .i64 255])) && true))) = true) (
.ob (((V.beq (.int .i64 2) (.int .i64 2)) && true) = true) (
.ob (((V.beq (.agg [.int .i64 127, .int .i64 255, .bool true, .int .i64 3, .int .i64 2, .int .i64 0, .int .i64 0, .bool true, .str (setupStr ⟨1, 2, 0, 1, a⟩)]) (.agg [.int .i64 127, .int .i64 255, .bool true, .int .i64 3, .int .i64 2, .int .i64 0, .int .i64 0, .bool true, .str (setupStr ⟨1, 2, 0, 1, a⟩)])) && true) = true) (
.ob (((eqV (.agg [.i, .i, .b, .i, .i, .i, .i, .b, .s]) (.agg [.int .i64 127, .int .i64 255, .bool true, .int .i64 3, .int .i64 2, .int .i64 0, .int .i64 0, .bool true, .str (setupStr ⟨1, 2, 0, 1, a⟩)]) (.agg [.int .i64 127, .int .i64 255, .bool true, .int .i64 3, .int .i64 2, .int .i64 0, .int .i64 0, .bool true, .str (setupStr ⟨1, 2, 0, 1, a⟩)])).map fun b => V.bool (if true then !b else b)) = some (.bool false)) (
.ob (((V.beq (.agg [.int .i64 127, .int .i64 255]) (.agg [.int .i64 127, .int .i64 255])) && true) = true) (
.ob (True) (
.ob (dGet [.str (setupStr ⟨1, 2, 0, 1, a⟩)]) (
.ob (pGet [.str (setupStr ⟨1, 2, 0, 1, a⟩)] = (.tup [.agg [.int .u32 1, .int .u32 2, .int .i64 0, .int .i64 1, .int .i64 a.baud, .int .i64 a.silent, .int .i64 a.win, .int .i64 a.size, .int .i64 a.wait], .bool true])) (
.ob (dDeal [.agg [.int .i64 b.baud, .int .i64 b.silent, .int .i64 b.win, .int .i64 b.size, .int .i64 b.wait], .agg [.int .i64 a.baud, .int .i64 a.silent, .int .i64 a.win, .int .i64 a.size, .int .i64 a.wait]]) (
.ob (pDeal [.agg [.int .i64 b.baud, .int .i64 b.silent, .int .i64 b.win, .int .i64 b.size, .int .i64 b.wait], .agg [.int .i64 a.baud, .int .i64 a.silent, .int .i64 a.win, .int .i64 a.size, .int .i64 a.wait]] = (.tup [.agg [.int .i64 (dealL b a).baud, .int .i64 200, .int .i64 (dealL b a).win, .int .i64 (dealL b a).size, .int .i64 1], .bool true])) (
.ob (((V.beq (.int .i64 (dealL b a).size) (.int .i64 (dealL b a).size)) && true) = true) (
.ob (((V.beq (.int .i64 (dealL b a).size) (.int .i64 (dealL b a).size)) && true) = true) (
.ob (((V.beq (.agg [.int .i64 (dealL b a).baud, .int .i64 200, .int .i64 (dealL b a).win, .int .i64 (dealL b a).size, .int .i64 1]) (.agg [.int .i64 (dealL b a).baud, .int .i64 200, .int .i64 (dealL b a).win, .int .i64 (dealL b a).size, .int .i64 1])) && ((V.beq (.agg [.int .i64 0, .int .i64 1]) (.agg [.int .i64 0, .int .i64 1])) && true)) = true) (
.ob (((V.beq (.agg [.int .i64 (dealL b a).baud, .int .i64 200, .int .i64 (dealL b a).win, .int .i64 (dealL b a).size, .int .i64 1]) (.agg [.int .i64 (dealL b a).baud, .int .i64 200, .int .i64 (dealL b a).win, .int .i64 (dealL b a).size, .int .i64 1])) && ((V.beq (.agg [.int .i64 0, .int .i64 1]) (.agg [.int .i64 0, .int .i64 1])) && true)) = true) (
.ob (((V.beq (.agg [.int .i64 (dealL b a).baud, .int .i64 200, .int .i64 (dealL b a).win, .int .i64 (dealL b a).size, .int .i64 1]) (.agg [.int .i64 (dealL b a).baud, .int .i64 200, .int .i64 (dealL b a).win, .int .i64 (dealL b a).size, .int .i64 1])) && ((V.beq (.agg [.int .i64 0, .int .i64 1]) (.agg [.int .i64 0, .int .i64 1])) && true)) = true) (
.ob (((V.beq (.agg [.int .i64 (dealL b a).baud, .int .i64 200, .int .i64 (dealL b a).win, .int .i64 (dealL b a).size, .int .i64 1]) (.agg [.int .i64 (dealL b a).baud, .int .i64 200, .int .i64 (dealL b a).win, .int .i64 (dealL b a).size, .int .i64 1])) && true) = true) (
.ob (((V.beq (.int .i64 1) (.int .i64 1)) && true) = true) (
.ob (((V.beq (.int .i64 1) (.int .i64 1)) && true) = true) (
.ob (((V.beq (.int .i64 1) (.int .i64 1)) && true) = true) (
.ob (dPut [.agg [.int .u32 2, .int .u32 1, .int .i64 0, .int .i64 1, .int .i64 b.baud, .int .i64 b.silent, .int .i64 b.win, .int .i64 b.size, .int .i64 b.wait]]) (
.ob (9 = 9 ∧ 0 ≤ (0 : Int) ∧ (0 : Int) < ((1 : Nat) : Int)) (
.ob (Gw.lenStr (.str (setupStr ⟨2, 1, 0, 1, b⟩)) = some (.int .i64 25)) (
.ob (Gw.lenStr (.str (setupStr ⟨2, 1, 0, 1, b⟩)) = some (.int .i64 25)) (
.ob (((V.beq (.str (setupStr ⟨2, 1, 0, 1, b⟩)) (.str (setupStr ⟨2, 1, 0, 1, b⟩))) && ((V.beq (.bool false) (.bool false)) && ((V.beq (.agg [.int .i64 127, .int .i64 255]) (.agg [.int .i64 127, .int .i64 255])) && true))) = true) (
.ob (((V.beq (.int .i64 3) (.int .i64 3)) && true) = true) (
.ob (((V.beq (.agg [.int .i64 127, .int .i64 255, .bool false, .int .i64 3, .int .i64 3, .int .i64 0, .int .i64 0, .bool true, .str (setupStr ⟨2, 1, 0, 1, b⟩)]) (.agg [.int .i64 127, .int .i64 255, .bool false, .int .i64 3, .int .i64 3, .int .i64 0, .int .i64 0, .bool true, .str (setupStr ⟨2, 1, 0, 1, b⟩)])) && true) = true) (
.ob (((eqV (.agg [.i, .i, .b, .i, .i, .i, .i, .b, .s]) (.agg [.int .i64 127, .int .i64 255, .bool false, .int .i64 3, .int .i64 3, .int .i64 0, .int .i64 0, .bool true, .str (setupStr ⟨2, 1, 0, 1, b⟩)]) (.agg [.int .i64 127, .int .i64 255, .bool false, .int .i64 3, .int .i64 3, .int .i64 0, .int .i64 0, .bool true, .str (setupStr ⟨2, 1, 0, 1, b⟩)])).map fun b => V.bool (if true then !b else b)) = some (.bool false)) (
.ob (((V.beq (.agg [.int .i64 127, .int .i64 255]) (.agg [.int .i64 127, .int .i64 255])) && true) = true) (
.ob (True) (
.ob (dGet [.str (setupStr ⟨2, 1, 0, 1, b⟩)]) (
.ob (pGet [.str (setupStr ⟨2, 1, 0, 1, b⟩)] = (.tup [.agg [.int .u32 2, .int .u32 1, .int .i64 0, .int .i64 1, .int .i64 b.baud, .int .i64 b.silent, .int .i64 b.win, .int .i64 b.size, .int .i64 b.wait], .bool true])) (
.ob (dDeal [.agg [.int .i64 a.baud, .int .i64 a.silent, .int .i64 a.win, .int .i64 a.size, .int .i64 a.wait], .agg [.int .i64 b.baud, .int .i64 b.silent, .int .i64 b.win, .int .i64 b.size, .int .i64 b.wait]]) (
.ob (pDeal [.agg [.int .i64 a.baud, .int .i64 a.silent, .int .i64 a.win, .int .i64 a.size, .int .i64 a.wait], .agg [.int .i64 b.baud, .int .i64 b.silent, .int .i64 b.win, .int .i64 b.size, .int .i64 b.wait]] = (.tup [.agg [.int .i64 (dealL a b).baud, .int .i64 200, .int .i64 (dealL a b).win, .int .i64 (dealL a b).size, .int .i64 (dealL a b).wait], .bool true])) (
.ob (True) (
.ob (((V.beq (.int .i64 (dealL a b).size) (.int .i64 (dealL a b).size)) && true) = true) (
.ob (((V.beq (.int .i64 (dealL a b).size) (.int .i64 (dealL a b).size)) && true) = true) (
.ob (((V.beq (.agg [.int .i64 (dealL a b).baud, .int .i64 200, .int .i64 (dealL a b).win, .int .i64 (dealL a b).size, .int .i64 (dealL a b).wait]) (.agg [.int .i64 (dealL a b).baud, .int .i64 200, .int .i64 (dealL a b).win, .int .i64 (dealL a b).size, .int .i64 (dealL a b).wait])) && ((V.beq (.agg [.int .i64 0, .int .i64 1]) (.agg [.int .i64 0, .int .i64 1])) && true)) = true) (
.ob (((V.beq (.agg [.int .i64 (dealL a b).baud, .int .i64 200, .int .i64 (dealL a b).win, .int .i64 (dealL a b).size, .int .i64 (dealL a b).wait]) (.agg [.int .i64 (dealL a b).baud, .int .i64 200, .int .i64 (dealL a b).win, .int .i64 (dealL a b).size, .int .i64 (dealL a b).wait])) && ((V.beq (.agg [.int .i64 0, .int .i64 1]) (.agg [.int .i64 0, .int .i64 1])) && true)) = true) (
.ob (((V.beq (.agg [.int .i64 (dealL a b).baud, .int .i64 200, .int .i64 (dealL a b).win, .int .i64 (dealL a b).size, .int .i64 (dealL a b).wait]) (.agg [.int .i64 (dealL a b).baud, .int .i64 200, .int .i64 (dealL a b).win, .int .i64 (dealL a b).size, .int .i64 (dealL a b).wait])) && ((V.beq (.agg [.int .i64 0, .int .i64 1]) (.agg [.int .i64 0, .int .i64 1])) && true)) = true) (
.ob (((V.beq (.agg [.int .i64 (dealL a b).baud, .int .i64 200, .int .i64 (dealL a b).win, .int .i64 (dealL a b).size, .int .i64 (dealL a b).wait]) (.agg [.int .i64 (dealL a b).baud, .int .i64 200, .int .i64 (dealL a b).win, .int .i64 (dealL a b).size, .int .i64 (dealL a b).wait])) && true) = true) (
.ob (((V.beq (.int .i64 (dealL a b).wait) (.int .i64 (dealL a b).wait)) && true) = true) (
.ob (((V.beq (.int .i64 (dealL a b).wait) (.int .i64 (dealL a b).wait)) && true) = true) (
.ob (((V.beq (.int .i64 (dealL a b).wait) (.int .i64 (dealL a b).wait)) && true) = true) (
.leaf ((.tup [.ptr 13 0, .ptr 21 0], [some (.cells false [.int .u32 1, .int .i64 0, .int .i64 a.baud, .int .i64 a.silent, .int .i64 a.win, .int .i64 a.size, .int .i64 a.wait, .int .i64 2, .int .u32 2, .int .i64 0, .int .i64 1, .int .i64 (dealL a b).baud, .int .i64 200, .int .i64 (dealL a b).win, .int .i64 (dealL a b).size, .int .i64 (dealL a b).wait, .ptr 327 0, .int .i64 1, .int .i64 0, .int .i64 0, .int .i64 0, .int .i64 0, .int .i64 (dealL a b).wait, .int .i64 0, .bool false, .bool false, .bool false, .nils]), some (.cells false [.int .i64 1, .int .i64 (if (64 : Int) < (dealL a b).size then 64 else (dealL a b).size), .ptr 333 0, .ptr 336 0, .bool true]), some (.cells false [.int .i64 (if (7 : Int) < (if (1 : Int) > (dealL a b).win then 1 else (dealL a b).win) then 7 else (if (1 : Int) > (dealL a b).win then 1 else (dealL a b).win)), .nils, .int .i64 0, .int .i64 0]), some (.cells false [.int .i64 0, .bool false]), some (.cells false [.int .u32 2, .int .i64 1, .int .i64 b.baud, .int .i64 b.silent, .int .i64 b.win, .int .i64 b.size, .int .i64 b.wait, .int .i64 2, .int .u32 1, .int .i64 0, .int .i64 1, .int .i64 (dealL b a).baud, .int .i64 200, .int .i64 (dealL b a).win, .int .i64 (dealL b a).size, .int .i64 1, .ptr 167 0, .int .i64 0, .int .i64 0, .int .i64 0, .int .i64 0, .int .i64 0, .int .i64 0, .int .i64 2, .bool false, .bool false, .bool false, .nils]), some (.cells false [.int .i64 2, .int .i64 (if (64 : Int) < (dealL b a).size then 64 else (dealL b a).size), .ptr 173 0, .ptr 176 0, .bool false]), some (.cells false [.int .i64 (if (7 : Int) < (if (1 : Int) > (dealL b a).win then 1 else (dealL b a).win) then 7 else (if (1 : Int) > (dealL b a).win then 1 else (dealL b a).win)), .nils, .int .i64 0, .int .i64 0]), some (.cells false [.int .i64 0, .bool false])]))))))))))))))))))))))))))))))))))))))))))))))))))))))))))
set_option maxRecDepth 1000000 in
theorem treePair1_eq (a : Gw.Offer) (b : Gw.Offer) : funT (mkXT (noPX) (oxPair1 a b)) (mkXP (noPX)) (mkX (noPX) (oxPair1 a b)) D (fun g => match g with | 76 => (fun k => match k with | 38 => some fun t h => (match h.n with | 90 => (.int .i64 25, h) | 109 => (.int .i64 25, h) | 250 => (.int .i64 25, h) | _ => (.int .i64 25, h)) | _ => none) | 44 => (fun k => match k with | 52 => some fun t h => (match h.n with | 125 => (.bool false, h) | _ => (.bool false, h)) | _ => none) | _ => noOrc) (fun k => match k with | 11 => [31, 41, 49, 60, 69, 72, 76] | 12 => [10, 15, 20, 25, 30, 31, 37, 41, 50, 57] | 16 => [15, 22, 31, 52, 58] | 21 => [8, 11, 15, 19, 23] | 22 => [16, 25, 30, 36, 39, 44, 47, 57, 67, 82, 86, 99] | 31 => [10, 33, 40, 44, 49] | 35 => [8, 25, 32] | 37 => [28, 30] | 44 => [8, 15, 26, 37, 41, 46, 52] | 48 => [14, 20, 28] | 49 => [13] | 71 => [10] | 76 => [11, 16, 20, 25, 30, 34, 39] | 77 => [8, 14, 19, 24, 34, 44] | 104 => [6, 9, 20] | 129 => [8, 19, 30, 34, 38] | 130 => [8, 13, 18, 21] | _ => []) 12 noOrc [31, 41, 49, 60, 69, 72, 76] (noLt) (dOf 11) [.agg a.vs, .agg b.vs] (tabH kT0 kT1 kT2 3) (fun v h => (v, gotC [13, 327, 333, 336, 21, 167, 173, 176] h)) = treePair1 a b := by kernel_rfl
def rowsPair1 (a : Gw.Offer) (b : Gw.Offer) : List (List V) := [[.int .u32 1, .int .i64 0, .int .i64 a.baud, .int .i64 a.silent, .int .i64 a.win, .int .i64 a.size, .int .i64 a.wait, .int .i64 2, .int .u32 2, .int .i64 0, .int .i64 1, .int .i64 (dealL a b).baud, .int .i64 200, .int .i64 (dealL a b).win, .int .i64 (dealL a b).size, .int .i64 (dealL a b).wait, .ptr 327 0, .int .i64 1, .int .i64 0, .int .i64 0, .int .i64 0, .int .i64 0, .int .i64 (dealL a b).wait, .int .i64 0, .bool false, .bool false, .bool false, .nils], [.int .i64 1, .int .i64 (if (64 : Int) < (dealL a b).size then 64 else (dealL a b).size), .ptr 333 0, .ptr 336 0, .bool true], [.int .i64 (if (7 : Int) < (if (1 : Int) > (dealL a b).win then 1 else (dealL a b).win) then 7 else (if (1 : Int) > (dealL a b).win then 1 else (dealL a b).win)), .nils, .int .i64 0, .int .i64 0], [.int .i64 0, .bool false], [.int .u32 2, .int .i64 1, .int .i64 b.baud, .int .i64 b.silent, .int .i64 b.win, .int .i64 b.size, .int .i64 b.wait, .int .i64 2, .int .u32 1, .int .i64 0, .int .i64 1, .int .i64 (dealL b a).baud, .int .i64 200, .int .i64 (dealL b a).win, .int .i64 (dealL b a).size, .int .i64 1, .ptr 167 0, .int .i64 0, .int .i64 0, .int .i64 0, .int .i64 0, .int .i64 0, .int .i64 0, .int .i64 2, .bool false, .bool false, .bool false, .nils], [.int .i64 2, .int .i64 (if (64 : Int) < (dealL b a).size then 64 else (dealL b a).size), .ptr 173 0, .ptr 176 0, .bool false], [.int .i64 (if (7 : Int) < (if (1 : Int) > (dealL b a).win then 1 else (dealL b a).win) then 7 else (if (1 : Int) > (dealL b a).win then 1 else (dealL b a).win)), .nils, .int .i64 0, .int .i64 0], [.int .i64 0, .bool false]]
theorem satPair1 (a : Gw.Offer) (b : Gw.Offer) (ha : MayO a) (hb : MayO b) (hw : loL a.wait = 1) : (treePair1 a b).sat fun q => q.1 = .tup [.ptr 13 0, .ptr 21 0] ∧ q.2 = cellsC (rowsPair1 a b) :=
 sat_ob trivial (
sat_ob (may_of ha) (
sat_ob (by simp only [V.beq_refl, Bool.and_true]) (
sat_ob trivial (
sat_ob (may_of hb) (
sat_ob trivial (
sat_ob (by decide) (
sat_ob (by simp only [V.beq_refl, Bool.and_true]) (
sat_ob (by simp only [V.beq_refl, Bool.and_true]) (
sat_ob (okSetM 1 2 0 1 ha (by decide) (by decide) (by decide) (by decide)) (
sat_ob (by decide) (
sat_ob rfl (
sat_ob rfl (
sat_ob (by simp only [V.beq_refl, Bool.and_true]) (
sat_ob (by simp only [V.beq_refl, Bool.and_true]) (
sat_ob (by simp only [V.beq_refl, Bool.and_true]) (
sat_ob (by simp [eqV, eqCells]) (
sat_ob (by simp only [V.beq_refl, Bool.and_true]) (
sat_ob trivial (
sat_ob ⟨⟨1, 2, 0, 1, a⟩, (okSetM 1 2 0 1 ha (by decide) (by decide) (by decide) (by decide)), rfl⟩ (
sat_ob (get_put ⟨1, 2, 0, 1, a⟩ (okSetM 1 2 0 1 ha (by decide) (by decide) (by decide) (by decide))) (
sat_ob ⟨hb, ha⟩ (
sat_ob (by show V.tup [.agg [.int .i64 _, .int .i64 _, .int .i64 _, .int .i64 _, .int .i64 (loL a.wait)], .bool true] = _; rw [hw]; rfl) (
sat_ob (by simp only [V.beq_refl, Bool.and_true]) (
sat_ob (by simp only [V.beq_refl, Bool.and_true]) (
sat_ob (by simp only [V.beq_refl, Bool.and_true]) (
sat_ob (by simp only [V.beq_refl, Bool.and_true]) (
sat_ob (by simp only [V.beq_refl, Bool.and_true]) (
sat_ob (by simp only [V.beq_refl, Bool.and_true]) (
sat_ob (by simp only [V.beq_refl, Bool.and_true]) (
sat_ob (by simp only [V.beq_refl, Bool.and_true]) (
sat_ob (by simp only [V.beq_refl, Bool.and_true]) (
sat_ob (okSetM 2 1 0 1 hb (by decide) (by decide) (by decide) (by decide)) (
sat_ob (by decide) (
sat_ob rfl (
sat_ob rfl (
sat_ob (by simp only [V.beq_refl, Bool.and_true]) (
sat_ob (by simp only [V.beq_refl, Bool.and_true]) (
sat_ob (by simp only [V.beq_refl, Bool.and_true]) (
sat_ob (by simp [eqV, eqCells]) (
sat_ob (by simp only [V.beq_refl, Bool.and_true]) (
sat_ob trivial (
sat_ob ⟨⟨2, 1, 0, 1, b⟩, (okSetM 2 1 0 1 hb (by decide) (by decide) (by decide) (by decide)), rfl⟩ (
sat_ob (get_put ⟨2, 1, 0, 1, b⟩ (okSetM 2 1 0 1 hb (by decide) (by decide) (by decide) (by decide))) (
sat_ob ⟨ha, hb⟩ (
sat_ob (by rfl) (
sat_ob trivial (
sat_ob (by simp only [V.beq_refl, Bool.and_true]) (
sat_ob (by simp only [V.beq_refl, Bool.and_true]) (
sat_ob (by simp only [V.beq_refl, Bool.and_true]) (
sat_ob (by simp only [V.beq_refl, Bool.and_true]) (
sat_ob (by simp only [V.beq_refl, Bool.and_true]) (
sat_ob (by simp only [V.beq_refl, Bool.and_true]) (
sat_ob (by simp only [V.beq_refl, Bool.and_true]) (
sat_ob (by simp only [V.beq_refl, Bool.and_true]) (
sat_ob (by simp only [V.beq_refl, Bool.and_true]) (
sat_leaf (⟨rfl, rfl⟩)))))))))))))))))))))))))))))))))))))))))))))))))))))))))
theorem runPair1 (a : Gw.Offer) (b : Gw.Offer) (ha : MayO a) (hb : MayO b) (hw : loL a.wait = 1) : Run Tryz.prog 11 [.agg a.vs, .agg b.vs] (tabH kT0 kT1 kT2 3) fun v h => v = .tup [.ptr 13 0, .ptr 21 0] ∧ gotC [13, 327, 333, 336, 21, 167, 173, 176] h = cellsC (rowsPair1 a b) := run_plainU mixed (show TabX Tryz.prog noPX (oxPair1 a b) from ((((TabX.nil.addT (ans_may (fun n => match n with | 9 => some (.bool true) | 17 => some (.bool true) | _ => none))).addT (ans_deal (fun n => match n with | 148 => some (.tup [.agg [.int .i64 (dealL b a).baud, .int .i64 200, .int .i64 (dealL b a).win, .int .i64 (dealL b a).size, .int .i64 1], .bool true]) | 308 => some (.tup [.agg [.int .i64 (dealL a b).baud, .int .i64 200, .int .i64 (dealL a b).win, .int .i64 (dealL a b).size, .int .i64 (dealL a b).wait], .bool true]) | _ => none))).addT (ans_put noV)).addT (ans_get (fun n => match n with | 135 => some (.tup [.agg [.int .u32 1, .int .u32 2, .int .i64 0, .int .i64 1, .int .i64 a.baud, .int .i64 a.silent, .int .i64 a.win, .int .i64 a.size, .int .i64 a.wait], .bool true]) | 295 => some (.tup [.agg [.int .u32 2, .int .u32 1, .int .i64 0, .int .i64 1, .int .i64 b.baud, .int .i64 b.silent, .int .i64 b.win, .int .i64 b.size, .int .i64 b.wait], .bool true]) | _ => none)))) tabD (dIs (by kernel_rfl)) (treePair1_eq a b) (Q := fun q => q.1 = .tup [.ptr 13 0, .ptr 21 0] ∧ q.2 = cellsC (rowsPair1 a b)) (satPair1 a b ha hb hw)
theorem getPair1 (a : Gw.Offer) (b : Gw.Offer) (ha : MayO a) (hb : MayO b) (hw : loL a.wait = 1) : V.flats [V.agg a.vs, V.agg b.vs] = true ∧ ∃ (frs : List Nat) (rows : List (List V)) (rs0 : List V), (Run Tryz.prog 11 [.agg a.vs, .agg b.vs] (tabH kT0 kT1 kT2 3) fun r1 h1 => r1 = .tup rs0 ∧ gotC frs h1 = cellsC rows) ∧ frs.Nodup ∧ rows.all (fun r => r.all (okV frs)) = true ∧ rs0.all (okV frs) = true ∧ isAnyL rs0 = false ∧ (∀ n, pPair [.agg a.vs, .agg b.vs] n = rows.map (List.map (reV frs n))) ∧ ∀ n, prPair n = rs0.map (reV frs n) :=
  ⟨rfl, [13, 327, 333, 336, 21, 167, 173, 176], rowsPair1 a b, [.ptr 13 0, .ptr 21 0], runPair1 a b ha hb hw, by decide, by kernel_rfl, by kernel_rfl, by kernel_rfl, fun n => by
    show pairRows a b n = _
    unfold pairRows
    rw [hw]
    rfl, fun n => rfl⟩
def oxPair2 (a : Gw.Offer) (b : Gw.Offer) : OTab := (consT 46 (gD dGet pGet (fun n => match n with | 135 => some (.tup [.agg [.int .u32 1, .int .u32 2, .int .i64 0, .int .i64 1, .int .i64 a.baud, .int .i64 a.silent, .int .i64 a.win, .int .i64 a.size, .int .i64 a.wait], .bool true]) | 295 => some (.tup [.agg [.int .u32 2, .int .u32 1, .int .i64 0, .int .i64 1, .int .i64 b.baud, .int .i64 b.silent, .int .i64 b.win, .int .i64 b.size, .int .i64 b.wait], .bool true]) | _ => none)) (consT 70 (gD dPut pPut noV) (consT 47 (gDT kT0 kT1 kT2 dDeal pDeal (fun n => match n with | 148 => some (.tup [.agg [.int .i64 (dealL b a).baud, .int .i64 200, .int .i64 (dealL b a).win, .int .i64 (dealL b a).size, .int .i64 2], .bool true]) | 308 => some (.tup [.agg [.int .i64 (dealL a b).baud, .int .i64 200, .int .i64 (dealL a b).win, .int .i64 (dealL a b).size, .int .i64 (dealL a b).wait], .bool true]) | _ => none)) (consT 43 (gD dOff pMayQ (fun n => match n with | 9 => some (.bool true) | 17 => some (.bool true) | _ => none)) noOX))))
def treePair2 (a : Gw.Offer) (b : Gw.Offer) : DT (V × List (Option Blk)) :=
  .ob (dOff [.agg [.int .i64 a.baud, .int .i64 a.silent, .int .i64 a.win, .int .i64 a.size, .int .i64 a.wait]]) (
.ob (pMayQ [.agg [.int .i64 a.baud, .int .i64 a.silent, .int .i64 a.win, .int .i64 a.size, .int .i64 a.wait]] = (.bool true)) (
.ob (((V.beq (.agg [.int .i64 b.baud, .int .i64 b.silent, .int .i64 b.win, .int .i64 b.size, .int .i64 b.wait]) (.agg [.int .i64 b.baud, .int .i64 b.silent, .int .i64 b.win, .int .i64 b.size, .int .i64 b.wait])) && true) = true) (
.ob (dOff [.agg [.int .i64 b.baud, .int .i64 b.silent, .int .i64 b.win, .int .i64 b.size, .int .i64 b.wait]]) (
.ob (pMayQ [.agg [.int .i64 b.baud, .int .i64 b.silent, .int .i64 b.win, .int .i64 b.size, .int .i64 b.wait]] = (.bool true)) (
.ob (True) (
.ob (IntKind.i64 = IntKind.i64 ∧ (250 : Int) ≠ 0) (
.ob (((V.beq (.int .u32 2) (.int .u32 2)) && true) = true) (
.ob (((V.beq (.int .u32 2) (.int .u32 2)) && true) = true) (
.ob (dPut [.agg [.int .u32 1, .int .u32 2, .int .i64 0, .int .i64 1, .int .i64 a.baud, .int .i64 a.silent, .int .i64 a.win, .int .i64 a.size, .int .i64 a.wait]]) (
.ob (9 = 9 ∧ 0 ≤ (0 : Int) ∧ (0 : Int) < ((1 : Nat) : Int)) (
.ob (Gw.lenStr (.str (setupStr ⟨1, 2, 0, 1, a⟩)) = some (.int .i64 25)) (
.ob (Gw.lenStr (.str (setupStr ⟨1, 2, 0, 1, a⟩)) = some (.int .i64 25)) (
.ob (((V.beq (.str (setupStr ⟨1, 2, 0, 1, a⟩)) (.str (setupStr ⟨1, 2, 0, 1, a⟩))) && ((V.beq (.bool true) (.bool true)) && ((V.beq (.agg [.int .i64 127, .int .i64 255]) (.agg [.int .i64 127, .int .i64 255])) && true))) = true) (
.ob (((V.beq (.int .i64 2) (.int .i64 2)) && true) = true) (
.ob (((V.beq (.agg [.int .i64 127, .int .i64 255, .bool true, .int .i64 3, .int .i64 2, .int .i64 0, .int .i64 0, .bool true, .str (setupStr ⟨1, 2, 0, 1, a⟩)]) (.agg [.int .i64 127, .int .i64 255, .bool true, .int .i64 3, .int .i64 2, .int .i64 0, .int .i64 0, .bool true, .str (setupStr ⟨1, 2, 0, 1, a⟩)])) && true) = true) (
.ob (((eqV (.agg [.i, .i, .b, .i, .i, .i, .i, .b, .s]) (.agg [.int .i64 127, .int .i64 255, .bool true, .int .i64 3, .int .i64 2, .int .i64 0, .int .i64 0, .bool true, .str (setupStr ⟨1, 2, 0, 1, a⟩)]) (.agg [.int .i64 127, .int .i64 255, .bool true, .int .i64 3, .int .i64 2, .int .i64 0, .int .i64 0, .bool true, .str (setupStr ⟨1, 2, 0, 1, a⟩)])).map fun b => V.bool (if true then !b else b)) = some (.bool false)) (
.ob (((V.beq (.agg [.int .i64 127, .int .i64 255]) (.agg [.int .i64 127, .int .i64 255])) && true) = true) (
.ob (True) (
.ob (dGet [.str (setupStr ⟨1, 2, 0, 1, a⟩)]) (
.ob (pGet [.str (setupStr ⟨1, 2, 0, 1, a⟩)] = (.tup [.agg [.int .u32 1, .int .u32 2, .int .i64 0, .int .i64 1, .int .i64 a.baud, .int .i64 a.silent, .int .i64 a.win, .int .i64 a.size, .int .i64 a.wait], .bool true])) (
.ob (dDeal [.agg [.int .i64 b.baud, .int .i64 b.silent, .int .i64 b.win, .int .i64 b.size, .int .i64 b.wait], .agg [.int .i64 a.baud, .int .i64 a.silent, .int .i64 a.win, .int .i64 a.size, .int .i64 a.wait]]) (
.ob (pDeal [.agg [.int .i64 b.baud, .int .i64 b.silent, .int .i64 b.win, .int .i64 b.size, .int .i64 b.wait], .agg [.int .i64 a.baud, .int .i64 a.silent, .int .i64 a.win, .int .i64 a.size, .int .i64 a.wait]] = (.tup [.agg [.int .i64 (dealL b a).baud, .int .i64 200, .int .i64 (dealL b a).win, .int .i64 (dealL b a).size, .int .i64 2], .bool true])) (
.ob (((V.beq (.int .i64 (dealL b a).size) (.int .i64 (dealL b a).size)) && true) = true) (
.ob (((V.beq (.int .i64 (dealL b a).size) (.int .i64 (dealL b a).size)) && true) = true) (
.ob (((V.beq (.agg [.int .i64 (dealL b a).baud, .int .i64 200, .int .i64 (dealL b a).win, .int .i64 (dealL b a).size, .int .i64 2]) (.agg [.int .i64 (dealL b a).baud, .int .i64 200, .int .i64 (dealL b a).win, .int .i64 (dealL b a).size, .int .i64 2])) && ((V.beq (.agg [.int .i64 0, .int .i64 1]) (.agg [.int .i64 0, .int .i64 1])) && true)) = true) (
.ob (((V.beq (.agg [.int .i64 (dealL b a).baud, .int .i64 200, .int .i64 (dealL b a).win, .int .i64 (dealL b a).size, .int .i64 2]) (.agg [.int .i64 (dealL b a).baud, .int .i64 200, .int .i64 (dealL b a).win, .int .i64 (dealL b a).size, .int .i64 2])) && ((V.beq (.agg [.int .i64 0, .int .i64 1]) (.agg [.int .i64 0, .int .i64 1])) && true)) = true) (
.ob (((V.beq (.agg [.int .i64 (dealL b a).baud, .int .i64 200, .int .i64 (dealL b a).win, .int .i64 (dealL b a).size, .int .i64 2]) (.agg [.int .i64 (dealL b a).baud, .int .i64 200, .int .i64 (dealL b a).win, .int .i64 (dealL b a).size, .int .i64 2])) && ((V.beq (.agg [.int .i64 0, .int .i64 1]) (.agg [.int .i64 0, .int .i64 1])) && true)) = true) (
.ob (((V.beq (.agg [.int .i64 (dealL b a).baud, .int .i64 200, .int .i64 (dealL b a).win, .int .i64 (dealL b a).size, .int .i64 2]) (.agg [.int .i64 (dealL b a).baud, .int .i64 200, .int .i64 (dealL b a).win, .int .i64 (dealL b a).size, .int .i64 2])) && true) = true) (
.ob (((V.beq (.int .i64 2) (.int .i64 2)) && true) = true) (
.ob (((V.beq (.int .i64 2) (.int .i64 2)) && true) = true) (
.ob (((V.beq (.int .i64 2) (.int .i64 2)) && true) = true) (
.ob (dPut [.agg [.int .u32 2, .int .u32 1, .int .i64 0, .int .i64 1, .int .i64 b.baud, .int .i64 b.silent, .int .i64 b.win, .int .i64 b.size, .int .i64 b.wait]]) (
.ob (9 = 9 ∧ 0 ≤ (0 : Int) ∧ (0 : Int) < ((1 : Nat) : Int)) (
.ob (Gw.lenStr (.str (setupStr ⟨2, 1, 0, 1, b⟩)) = some (.int .i64 25)) (
.ob (Gw.lenStr (.str (setupStr ⟨2, 1, 0, 1, b⟩)) = some (.int .i64 25)) (
.ob (((V.beq (.str (setupStr ⟨2, 1, 0, 1, b⟩)) (.str (setupStr ⟨2, 1, 0, 1, b⟩))) && ((V.beq (.bool false) (.bool false)) && ((V.beq (.agg [.int .i64 127, .int .i64 255]) (.agg [.int .i64 127, .int .i64 255])) && true))) = true) (
.ob (((V.beq (.int .i64 3) (.int .i64 3)) && true) = true) (
.ob (((V.beq (.agg [.int .i64 127, .int .i64 255, .bool false, .int .i64 3, .int .i64 3, .int .i64 0, .int .i64 0, .bool true, .str (setupStr ⟨2, 1, 0, 1, b⟩)]) (.agg [.int .i64 127, .int .i64 255, .bool false, .int .i64 3, .int .i64 3, .int .i64 0, .int .i64 0, .bool true, .str (setupStr ⟨2, 1, 0, 1, b⟩)])) && true) = true) (
.ob (((eqV (.agg [.i, .i, .b, .i, .i, .i, .i, .b, .s]) (.agg [.int .i64 127, .int .i64 255, .bool false, .int .i64 3, .int .i64 3, .int .i64 0, .int .i64 0, .bool true, .str (setupStr ⟨2, 1, 0, 1, b⟩)]) (.agg [.int .i64 127, .int .i64 255, .bool false, .int .i64 3, .int .i64 3, .int .i64 0, .int .i64 0, .bool true, .str (setupStr ⟨2, 1, 0, 1, b⟩)])).map fun b => V.bool (if true then !b else b)) = some (.bool false)) (
.ob (((V.beq (.agg [.int .i64 127, .int .i64 255]) (.agg [.int .i64 127, .int .i64 255])) && true) = true) (
.ob (True) (
.ob (dGet [.str (setupStr ⟨2, 1, 0, 1, b⟩)]) (
.ob (pGet [.str (setupStr ⟨2, 1, 0, 1, b⟩)] = (.tup [.agg [.int .u32 2, .int .u32 1, .int .i64 0, .int .i64 1, .int .i64 b.baud, .int .i64 b.silent, .int .i64 b.win, .int .i64 b.size, .int .i64 b.wait], .bool true])) (
.ob (dDeal [.agg [.int .i64 a.baud, .int .i64 a.silent, .int .i64 a.win, .int .i64 a.size, .int .i64 a.wait], .agg [.int .i64 b.baud, .int .i64 b.silent, .int .i64 b.win, .int .i64 b.size, .int .i64 b.wait]]) (
.ob (pDeal [.agg [.int .i64 a.baud, .int .i64 a.silent, .int .i64 a.win, .int .i64 a.size, .int .i64 a.wait], .agg [.int .i64 b.baud, .int .i64 b.silent, .int .i64 b.win, .int .i64 b.size, .int .i64 b.wait]] = (.tup [.agg [.int .i64 (dealL a b).baud, .int .i64 200, .int .i64 (dealL a b).win, .int .i64 (dealL a b).size, .int .i64 (dealL a b).wait], .bool true])) (
.ob (True) (
.ob (((V.beq (.int .i64 (dealL a b).size) (.int .i64 (dealL a b).size)) && true) = true) (
.ob (((V.beq (.int .i64 (dealL a b).size) (.int .i64 (dealL a b).size)) && true) = true) (
.ob (((V.beq (.agg [.int .i64 (dealL a b).baud, .int .i64 200, .int .i64 (dealL a b).win, .int .i64 (dealL a b).size, .int .i64 (dealL a b).wait]) (.agg [.int .i64 (dealL a b).baud, .int .i64 200, .int .i64 (dealL a b).win, .int .i64 (dealL a b).size, .int .i64 (dealL a b).wait])) && ((V.beq (.agg [.int .i64 0, .int .i64 1]) (.agg [.int .i64 0, .int .i64 1])) && true)) = true) (
.ob (((V.beq (.agg [.int .i64 (dealL a b).baud, .int .i64 200, .int .i64 (dealL a b).win, .int .i64 (dealL a b).size, .int .i64 (dealL a b).wait]) (.agg [.int .i64 (dealL a b).baud, .int .i64 200, .int .i64 (dealL a b).win, .int .i64 (dealL a b).size, .int .i64 (dealL a b).wait])) && ((V.beq (.agg [.int .i64 0, .int .i64 1]) (.agg [.int .i64 0, .int .i64 1])) && true)) = true) (
.ob (((V.beq (.agg [.int .i64 (dealL a b).baud, .int .i64 200, .int .i64 (dealL a b).win, .int .i64 (dealL a b).size, .int .i64 (dealL a b).wait]) (.agg [.int .i64 (dealL a b).baud, .int .i64 200, .int .i64 (dealL a b).win, .int .i64 (dealL a b).size, .int .i64 (dealL a b).wait])) && ((V.beq (.agg [.int .i64 0, .int .i64 1]) (.agg [.int .i64 0, .int .i64 1])) && true)) = true) (
.ob (((V.beq (.agg [.int .i64 (dealL a b).baud, .int .i64 200, .int .i64 (dealL a b).win, .int .i64 (dealL a b).size, .int .i64 (dealL a b).wait]) (.agg [.int .i64 (dealL a b).baud, .int .i64 200, .int .i64 (dealL a b).win, .int .i64 (dealL a b).size, .int .i64 (dealL a b).wait])) && true) = true) (
.ob (((V.beq (.int .i64 (dealL a b).wait) (.int .i64 (dealL a b).wait)) && true) = true) (
.ob (((V.beq (.int .i64 (dealL a b).wait) (.int .i64 (dealL a b).wait)) && true) = true) (
.ob (((V.beq (.int .i64 (dealL a b).wait) (.int .i64 (dealL a b).wait)) && true) = true) (
.leaf ((.tup [.ptr 13 0, .ptr 21 0], [some (.cells false [.int .u32 1, .int .i64 0, .int .i64 a.baud, .int .i64 a.silent, .int .i64 a.win, .int .i64 a.size, .int .i64 a.wait, .int .i64 2, .int .u32 2, .int .i64 0, .int .i64 1, .int .i64 (dealL a b).baud, .int .i64 200, .int .i64 (dealL a b).win, .int .i64 (dealL a b).size, .int .i64 (dealL a b).wait, .ptr 327 0, .int .i64 1, .int .i64 0, .int .i64 0, .int .i64 0, .int .i64 0, .int .i64 (dealL a b).wait, .int .i64 0, .bool false, .bool false, .bool false, .nils]), some (.cells false [.int .i64 1, .int .i64 (if (64 : Int) < (dealL a b).size then 64 else (dealL a b).size), .ptr 333 0, .ptr 336 0, .bool true]), some (.cells false [.int .i64 (if (7 : Int) < (if (1 : Int) > (dealL a b).win then 1 else (dealL a b).win) then 7 else (if (1 : Int) > (dealL a b).win then 1 else (dealL a b).win)), .nils, .int .i64 0, .int .i64 0]), some (.cells false [.int .i64 0, .bool false]), some (.cells false [.int .u32 2, .int .i64 1, .int .i64 b.baud, .int .i64 b.silent, .int .i64 b.win, .int .i64 b.size, .int .i64 b.wait, .int .i64 2, .int .u32 1, .int .i64 0, .int .i64 1, .int .i64 (dealL b a).baud, .int .i64 200, .int .i64 (dealL b a).win, .int .i64 (dealL b a).size, .int .i64 2, .ptr 167 0, .int .i64 0, .int .i64 0, .int .i64 0, .int .i64 0, .int .i64 0, .int .i64 0, .int .i64 3, .bool false, .bool false, .bool false, .nils]), some (.cells false [.int .i64 2, .int .i64 (if (64 : Int) < (dealL b a).size then 64 else (dealL b a).size), .ptr 173 0, .ptr 176 0, .bool false]), some (.cells false [.int .i64 (if (7 : Int) < (if (1 : Int) > (dealL b a).win then 1 else (dealL b a).win) then 7 else (if (1 : Int) > (dealL b a).win then 1 else (dealL b a).win)), .nils, .int .i64 0, .int .i64 0]), some (.cells false [.int .i64 0, .bool false])]))))))))))))))))))))))))))))))))))))))))))))))))))))))))))
set_option maxRecDepth 1000000 in
theorem treePair2_eq (a : Gw.Offer) (b : Gw.Offer) : funT (mkXT (noPX) (oxPair2 a b)) (mkXP (noPX)) (mkX (noPX) (oxPair2 a b)) D (fun g => match g with | 76 => (fun k => match k with | 38 => some fun t h => (match h.n with | 90 => (.int .i64 25, h) | 109 => (.int .i64 25, h) | 250 => (.int .i64 25, h) | _ => (.int .i64 25, h)) | _ => none) | 44 => (fun k => match k with | 52 => some fun t h => (match h.n with | 125 => (.bool false, h) | _ => (.bool false, h)) | _ => none) | _ => noOrc) (fun k => match k with | 11 => [31, 41, 49, 60, 69, 72, 76] | 12 => [10, 15, 20, 25, 30, 31, 37, 41, 50, 57] | 16 => [15, 22, 31, 52, 58] | 21 => [8, 11, 15, 19, 23] | 22 => [16, 25, 30, 36, 39, 44, 47, 57, 67, 82, 86, 99] | 31 => [10, 33, 40, 44, 49] | 35 => [8, 25, 32] | 37 => [28, 30] | 44 => [8, 15, 26, 37, 41, 46, 52] | 48 => [14, 20, 28] | 49 => [13] | 71 => [10] | 76 => [11, 16, 20, 25, 30, 34, 39] | 77 => [8, 14, 19, 24, 34, 44] | 104 => [6, 9, 20] | 129 => [8, 19, 30, 34, 38] | 130 => [8, 13, 18, 21] | _ => []) 12 noOrc [31, 41, 49, 60, 69, 72, 76] (noLt) (dOf 11) [.agg a.vs, .agg b.vs] (tabH kT0 kT1 kT2 3) (fun v h => (v, gotC [13, 327, 333, 336, 21, 167, 173, 176] h)) = treePair2 a b := by kernel_rfl
def rowsPair2 (a : Gw.Offer) (b : Gw.Offer) : List (List V) := [[.int .u32 1, .int .i64 0, .int .i64 a.baud, .int .i64 a.silent, .int .i64 a.win, .int .i64 a.size, .int .i64 a.wait, .int .i64 2, .int .u32 2, .int .i64 0, .int .i64 1, .int .i64 (dealL a b).baud, .int .i64 200, .int .i64 (dealL a b).win, .int .i64 (dealL a b).size, .int .i64 (dealL a b).wait, .ptr 327 0, .int .i64 1, .int .i64 0, .int .i64 0, .int .i64 0, .int .i64 0, .int .i64 (dealL a b).wait, .int .i64 0, .bool false, .bool false, .bool false, .nils], [.int .i64 1, .int .i64 (if (64 : Int) < (dealL a b).size then 64 else (dealL a b).size), .ptr 333 0, .ptr 336 0, .bool true], [.int .i64 (if (7 : Int) < (if (1 : Int) > (dealL a b).win then 1 else (dealL a b).win) then 7 else (if (1 : Int) > (dealL a b).win then 1 else (dealL a b).win)), .nils, .int .i64 0, .int .i64 0], [.int .i64 0, .bool false], [.int .u32 2, .int .i64 1, .int .i64 b.baud, .int .i64 b.silent, .int .i64 b.win, .int .i64 b.size, .int .i64 b.wait, .int .i64 2, .int .u32 1, .int .i64 0, .int .i64 1, .int .i64 (dealL b a).baud, .int .i64 200, .int .i64 (dealL b a).win, .int .i64 (dealL b a).size, .int .i64 2, .ptr 167 0, .int .i64 0, .int .i64 0, .int .i64 0, .int .i64 0, .int .i64 0, .int .i64 0, .int .i64 3, .bool false, .bool false, .bool false, .nils], [.int .i64 2, .int .i64 (if (64 : Int) < (dealL b a).size then 64 else (dealL b a).size), .ptr 173 0, .ptr 176 0, .bool false], [.int .i64 (if (7 : Int) < (if (1 : Int) > (dealL b a).win then 1 else (dealL b a).win) then 7 else (if (1 : Int) > (dealL b a).win then 1 else (dealL b a).win)), .nils, .int .i64 0, .int .i64 0], [.int .i64 0, .bool false]]
theorem satPair2 (a : Gw.Offer) (b : Gw.Offer) (ha : MayO a) (hb : MayO b) (hw : loL a.wait = 2) : (treePair2 a b).sat fun q => q.1 = .tup [.ptr 13 0, .ptr 21 0] ∧ q.2 = cellsC (rowsPair2 a b) :=
 sat_ob trivial (
sat_ob (may_of ha) (
sat_ob (by simp only [V.beq_refl, Bool.and_true]) (
sat_ob trivial (
sat_ob (may_of hb) (
sat_ob trivial (
sat_ob (by decide) (
sat_ob (by simp only [V.beq_refl, Bool.and_true]) (
sat_ob (by simp only [V.beq_refl, Bool.and_true]) (
sat_ob (okSetM 1 2 0 1 ha (by decide) (by decide) (by decide) (by decide)) (
sat_ob (by decide) (
sat_ob rfl (
sat_ob rfl (
sat_ob (by simp only [V.beq_refl, Bool.and_true]) (
sat_ob (by simp only [V.beq_refl, Bool.and_true]) (
sat_ob (by simp only [V.beq_refl, Bool.and_true]) (
sat_ob (by simp [eqV, eqCells]) (
sat_ob (by simp only [V.beq_refl, Bool.and_true]) (
sat_ob trivial (
sat_ob ⟨⟨1, 2, 0, 1, a⟩, (okSetM 1 2 0 1 ha (by decide) (by decide) (by decide) (by decide)), rfl⟩ (
sat_ob (get_put ⟨1, 2, 0, 1, a⟩ (okSetM 1 2 0 1 ha (by decide) (by decide) (by decide) (by decide))) (
sat_ob ⟨hb, ha⟩ (
sat_ob (by show V.tup [.agg [.int .i64 _, .int .i64 _, .int .i64 _, .int .i64 _, .int .i64 (loL a.wait)], .bool true] = _; rw [hw]; rfl) (
sat_ob (by simp only [V.beq_refl, Bool.and_true]) (
sat_ob (by simp only [V.beq_refl, Bool.and_true]) (
sat_ob (by simp only [V.beq_refl, Bool.and_true]) (
sat_ob (by simp only [V.beq_refl, Bool.and_true]) (
sat_ob (by simp only [V.beq_refl, Bool.and_true]) (
sat_ob (by simp only [V.beq_refl, Bool.and_true]) (
sat_ob (by simp only [V.beq_refl, Bool.and_true]) (
sat_ob (by simp only [V.beq_refl, Bool.and_true]) (
sat_ob (by simp only [V.beq_refl, Bool.and_true]) (
sat_ob (okSetM 2 1 0 1 hb (by decide) (by decide) (by decide) (by decide)) (
sat_ob (by decide) (
sat_ob rfl (
sat_ob rfl (
sat_ob (by simp only [V.beq_refl, Bool.and_true]) (
sat_ob (by simp only [V.beq_refl, Bool.and_true]) (
sat_ob (by simp only [V.beq_refl, Bool.and_true]) (
sat_ob (by simp [eqV, eqCells]) (
sat_ob (by simp only [V.beq_refl, Bool.and_true]) (
sat_ob trivial (
sat_ob ⟨⟨2, 1, 0, 1, b⟩, (okSetM 2 1 0 1 hb (by decide) (by decide) (by decide) (by decide)), rfl⟩ (
sat_ob (get_put ⟨2, 1, 0, 1, b⟩ (okSetM 2 1 0 1 hb (by decide) (by decide) (by decide) (by decide))) (
sat_ob ⟨ha, hb⟩ (
sat_ob (by rfl) (
sat_ob trivial (
sat_ob (by simp only [V.beq_refl, Bool.and_true]) (
sat_ob (by simp only [V.beq_refl, Bool.and_true]) (
sat_ob (by simp only [V.beq_refl, Bool.and_true]) (
sat_ob (by simp only [V.beq_refl, Bool.and_true]) (
sat_ob (by simp only [V.beq_refl, Bool.and_true]) (
sat_ob (by simp only [V.beq_refl, Bool.and_true]) (
sat_ob (by simp only [V.beq_refl, Bool.and_true]) (
sat_ob (by simp only [V.beq_refl, Bool.and_true]) (
sat_ob (by simp only [V.beq_refl, Bool.and_true]) (
sat_leaf (⟨rfl, rfl⟩)))))))))))))))))))))))))))))))))))))))))))))))))))))))))
theorem runPair2 (a : Gw.Offer) (b : Gw.Offer) (ha : MayO a) (hb : MayO b) (hw : loL a.wait = 2) : Run Tryz.prog 11 [.agg a.vs, .agg b.vs] (tabH kT0 kT1 kT2 3) fun v h => v = .tup [.ptr 13 0, .ptr 21 0] ∧ gotC [13, 327, 333, 336, 21, 167, 173, 176] h = cellsC (rowsPair2 a b) := run_plainU mixed (show TabX Tryz.prog noPX (oxPair2 a b) from ((((TabX.nil.addT (ans_may (fun n => match n with | 9 => some (.bool true) | 17 => some (.bool true) | _ => none))).addT (ans_deal (fun n => match n with | 148 => some (.tup [.agg [.int .i64 (dealL b a).baud, .int .i64 200, .int .i64 (dealL b a).win, .int .i64 (dealL b a).size, .int .i64 2], .bool true]) | 308 => some (.tup [.agg [.int .i64 (dealL a b).baud, .int .i64 200, .int .i64 (dealL a b).win, .int .i64 (dealL a b).size, .int .i64 (dealL a b).wait], .bool true]) | _ => none))).addT (ans_put noV)).addT (ans_get (fun n => match n with | 135 => some (.tup [.agg [.int .u32 1, .int .u32 2, .int .i64 0, .int .i64 1, .int .i64 a.baud, .int .i64 a.silent, .int .i64 a.win, .int .i64 a.size, .int .i64 a.wait], .bool true]) | 295 => some (.tup [.agg [.int .u32 2, .int .u32 1, .int .i64 0, .int .i64 1, .int .i64 b.baud, .int .i64 b.silent, .int .i64 b.win, .int .i64 b.size, .int .i64 b.wait], .bool true]) | _ => none)))) tabD (dIs (by kernel_rfl)) (treePair2_eq a b) (Q := fun q => q.1 = .tup [.ptr 13 0, .ptr 21 0] ∧ q.2 = cellsC (rowsPair2 a b)) (satPair2 a b ha hb hw)
theorem getPair2 (a : Gw.Offer) (b : Gw.Offer) (ha : MayO a) (hb : MayO b) (hw : loL a.wait = 2) : V.flats [V.agg a.vs, V.agg b.vs] = true ∧ ∃ (frs : List Nat) (rows : List (List V)) (rs0 : List V), (Run Tryz.prog 11 [.agg a.vs, .agg b.vs] (tabH kT0 kT1 kT2 3) fun r1 h1 => r1 = .tup rs0 ∧ gotC frs h1 = cellsC rows) ∧ frs.Nodup ∧ rows.all (fun r => r.all (okV frs)) = true ∧ rs0.all (okV frs) = true ∧ isAnyL rs0 = false ∧ (∀ n, pPair [.agg a.vs, .agg b.vs] n = rows.map (List.map (reV frs n))) ∧ ∀ n, prPair n = rs0.map (reV frs n) :=
  ⟨rfl, [13, 327, 333, 336, 21, 167, 173, 176], rowsPair2 a b, [.ptr 13 0, .ptr 21 0], runPair2 a b ha hb hw, by decide, by kernel_rfl, by kernel_rfl, by kernel_rfl, fun n => by
    show pairRows a b n = _
    unfold pairRows
    rw [hw]
    rfl, fun n => rfl⟩
theorem ans_pair (orc : Nat → Option (List (List V))) : AnsO Tryz.prog 11 (fun args h => (gNew kT0 kT1 kT2 dPair pPair prPair orc args h).run) := ansNew orc fun args hd => by
  unfold dPair at hd
  split at hd
  · rename_i a1 a2 a3 a4 a5 b1 b2 b3 b4 b5
    rcases waitM hd.1 with w | w | w
    · exact getPair0 ⟨a1, a2, a3, a4, a5⟩ ⟨b1, b2, b3, b4, b5⟩ hd.1 hd.2 w
    · exact getPair1 ⟨a1, a2, a3, a4, a5⟩ ⟨b1, b2, b3, b4, b5⟩ hd.1 hd.2 w
    · exact getPair2 ⟨a1, a2, a3, a4, a5⟩ ⟨b1, b2, b3, b4, b5⟩ hd.1 hd.2 w
  · exact hd.elim
end Go.Proofs.YtjcninlcdnkofaaGreatDoor
