/- LinkMe: its trees. -/
import Derived.Test.YtbkgcdncdaeiaaaGreatDoorGxP
import Derived.Test.YtbkgcdncdaeiaaaGreatDoorGxE3
noncomputable section
namespace Go.Proofs.YtbkgcdncdaeiaaaGreatDoor
open Go Gw Go.RowKit
set_option linter.unusedSimpArgs false
set_option linter.unusedVariables false
def oxLinkMe1_0 (a : Gw.Offer) (b : Gw.Offer) : OTab := (consT 79 (gD dGet pGet (fun n => match n with | 138 => some (.tup [.agg [.int .u32 1, .int .u32 2, .int .i64 0, .int .i64 1, .int .i64 (fineO a).baud, .int .i64 (fineO a).silent, .int .i64 (fineO a).win, .int .i64 (fineO a).size, .int .i64 (fineO a).wait], .bool true]) | 298 => some (.tup [.agg [.int .u32 2, .int .u32 1, .int .i64 0, .int .i64 1, .int .i64 (fineO b).baud, .int .i64 (fineO b).silent, .int .i64 (fineO b).win, .int .i64 (fineO b).size, .int .i64 (fineO b).wait], .bool true]) | _ => none)) (consT 106 (gD dPut pPut noV) (consT 80 (gDT kT0 kT1 kT2 dDeal pDeal (fun n => match n with | 151 => some (.tup [.agg [.int .i64 (dealL (fineO b) (fineO a)).baud, .int .i64 200, .int .i64 (dealL (fineO b) (fineO a)).win, .int .i64 (dealL (fineO b) (fineO a)).size, .int .i64 1], .bool true]) | 311 => some (.tup [.agg [.int .i64 (dealL (fineO a) (fineO b)).baud, .int .i64 200, .int .i64 (dealL (fineO a) (fineO b)).win, .int .i64 (dealL (fineO a) (fineO b)).size, .int .i64 (dealL (fineO a) (fineO b)).wait], .bool true]) | _ => none)) (consT 76 (gD dOff pMayQ (fun n => match n with | 12 => some (.bool true) | 20 => some (.bool true) | 351 => some (.bool true) | _ => none)) (consT 20 (gD dOff pFine noV) (consO 19 (gTrue kT0 kT1 kT2) noOX))))))
def treeLinkMe1_0 (a : Gw.Offer) (b : Gw.Offer) : DT V :=
  .ob (dOff [.agg [.int .i64 a.baud, .int .i64 a.silent, .int .i64 a.win, .int .i64 a.size, .int .i64 a.wait]]) (
.ob (((V.beq (.agg [.int .i64 b.baud, .int .i64 b.silent, .int .i64 b.win, .int .i64 b.size, .int .i64 b.wait]) (.agg [.int .i64 b.baud, .int .i64 b.silent, .int .i64 b.win, .int .i64 b.size, .int .i64 b.wait])) && true) = true) (
.ob (dOff [.agg [.int .i64 b.baud, .int .i64 b.silent, .int .i64 b.win, .int .i64 b.size, .int .i64 b.wait]]) (
.ob (dOff [.agg [.int .i64 (fineO a).baud, .int .i64 (fineO a).silent, .int .i64 (fineO a).win, .int .i64 (fineO a).size, .int .i64 (fineO a).wait]]) (
.ob (pMayQ [.agg [.int .i64 (fineO a).baud, .int .i64 (fineO a).silent, .int .i64 (fineO a).win, .int .i64 (fineO a).size, .int .i64 (fineO a).wait]] = (.bool true)) (
.ob (((V.beq (.agg [.int .i64 (fineO b).baud, .int .i64 (fineO b).silent, .int .i64 (fineO b).win, .int .i64 (fineO b).size, .int .i64 (fineO b).wait]) (.agg [.int .i64 (fineO b).baud, .int .i64 (fineO b).silent, .int .i64 (fineO b).win, .int .i64 (fineO b).size, .int .i64 (fineO b).wait])) && true) = true) (
.ob (dOff [.agg [.int .i64 (fineO b).baud, .int .i64 (fineO b).silent, .int .i64 (fineO b).win, .int .i64 (fineO b).size, .int .i64 (fineO b).wait]]) (
.ob (pMayQ [.agg [.int .i64 (fineO b).baud, .int .i64 (fineO b).silent, .int .i64 (fineO b).win, .int .i64 (fineO b).size, .int .i64 (fineO b).wait]] = (.bool true)) (
.ob (True) (
.ob (IntKind.i64 = IntKind.i64 ∧ (250 : Int) ≠ 0) (
.ob (((V.beq (.int .u32 2) (.int .u32 2)) && true) = true) (
.ob (((V.beq (.int .u32 2) (.int .u32 2)) && true) = true) (
.ob (dPut [.agg [.int .u32 1, .int .u32 2, .int .i64 0, .int .i64 1, .int .i64 (fineO a).baud, .int .i64 (fineO a).silent, .int .i64 (fineO a).win, .int .i64 (fineO a).size, .int .i64 (fineO a).wait]]) (
.ob (9 = 9 ∧ 0 ≤ (0 : Int) ∧ (0 : Int) < ((1 : Nat) : Int)) (
.ob (Gw.lenStr (.str (setupStr ⟨1, 2, 0, 1, (fineO a)⟩)) = some (.int .i64 25)) (
.ob (Gw.lenStr (.str (setupStr ⟨1, 2, 0, 1, (fineO a)⟩)) = some (.int .i64 25)) (
.ob (((V.beq (.str (setupStr ⟨1, 2, 0, 1, (fineO a)⟩)) (.str (setupStr ⟨1, 2, 0, 1, (fineO a)⟩))) && ((V.beq (.bool true) (.bool true)) && ((V.beq (.agg [.int .i64 127, .int .i64 255]) (.agg [.int .i64 127, .int .i64 255])) && true))) = true) (
.ob (((V.beq (.int .i64 2) (.int .i64 2)) && true) = true) (
.ob (((V.beq (.agg [.int .i64 127, .int .i64 255, .bool true, .int .i64 3, .int .i64 2, .int .i64 0, .int .i64 0, .bool true, .str (setupStr ⟨1, 2, 0, 1, (fineO a)⟩)]) (.agg [.int .i64 127, .int .i64 255, .bool true, .int .i64 3, .int .i64 2, .int .i64 0, .int .i64 0, .bool true, .str (setupStr ⟨1, 2, 0, 1, (fineO a)⟩)])) && true) = true) (
.ob (((eqV (.agg [.i, .i, .b, .i, .i, .i, .i, .b, .s]) (.agg [.int .i64 127, .int .i64 255, .bool true, .int .i64 3, .int .i64 2, .int .i64 0, .int .i64 0, .bool true, .str (setupStr ⟨1, 2, 0, 1, (fineO a)⟩)]) (.agg [.int .i64 127, .int .i64 255, .bool true, .int .i64 3, .int .i64 2, .int .i64 0, .int .i64 0, .bool true, .str (setupStr ⟨1, 2, 0, 1, (fineO a)⟩)])).map fun b => V.bool (if true then !b else b)) = some (.bool false)) (
.ob (((V.beq (.agg [.int .i64 127, .int .i64 255]) (.agg [.int .i64 127, .int .i64 255])) && true) = true) (
.ob (True) (
.ob (dGet [.str (setupStr ⟨1, 2, 0, 1, (fineO a)⟩)]) (
.ob (pGet [.str (setupStr ⟨1, 2, 0, 1, (fineO a)⟩)] = (.tup [.agg [.int .u32 1, .int .u32 2, .int .i64 0, .int .i64 1, .int .i64 (fineO a).baud, .int .i64 (fineO a).silent, .int .i64 (fineO a).win, .int .i64 (fineO a).size, .int .i64 (fineO a).wait], .bool true])) (
.ob (dDeal [.agg [.int .i64 (fineO b).baud, .int .i64 (fineO b).silent, .int .i64 (fineO b).win, .int .i64 (fineO b).size, .int .i64 (fineO b).wait], .agg [.int .i64 (fineO a).baud, .int .i64 (fineO a).silent, .int .i64 (fineO a).win, .int .i64 (fineO a).size, .int .i64 (fineO a).wait]]) (
.ob (pDeal [.agg [.int .i64 (fineO b).baud, .int .i64 (fineO b).silent, .int .i64 (fineO b).win, .int .i64 (fineO b).size, .int .i64 (fineO b).wait], .agg [.int .i64 (fineO a).baud, .int .i64 (fineO a).silent, .int .i64 (fineO a).win, .int .i64 (fineO a).size, .int .i64 (fineO a).wait]] = (.tup [.agg [.int .i64 (dealL (fineO b) (fineO a)).baud, .int .i64 200, .int .i64 (dealL (fineO b) (fineO a)).win, .int .i64 (dealL (fineO b) (fineO a)).size, .int .i64 1], .bool true])) (
.ob (((V.beq (.int .i64 (dealL (fineO b) (fineO a)).size) (.int .i64 (dealL (fineO b) (fineO a)).size)) && true) = true) (
.ob (((V.beq (.int .i64 (dealL (fineO b) (fineO a)).size) (.int .i64 (dealL (fineO b) (fineO a)).size)) && true) = true) (
.ob (((V.beq (.agg [.int .i64 (dealL (fineO b) (fineO a)).baud, .int .i64 200, .int .i64 (dealL (fineO b) (fineO a)).win, .int .i64 (dealL (fineO b) (fineO a)).size, .int .i64 1]) (.agg [.int .i64 (dealL (fineO b) (fineO a)).baud, .int .i64 200, .int .i64 (dealL (fineO b) (fineO a)).win, .int .i64 (dealL (fineO b) (fineO a)).size, .int .i64 1])) && ((V.beq (.agg [.int .i64 0, .int .i64 1]) (.agg [.int .i64 0, .int .i64 1])) && true)) = true) (
.ob (((V.beq (.agg [.int .i64 (dealL (fineO b) (fineO a)).baud, .int .i64 200, .int .i64 (dealL (fineO b) (fineO a)).win, .int .i64 (dealL (fineO b) (fineO a)).size, .int .i64 1]) (.agg [.int .i64 (dealL (fineO b) (fineO a)).baud, .int .i64 200, .int .i64 (dealL (fineO b) (fineO a)).win, .int .i64 (dealL (fineO b) (fineO a)).size, .int .i64 1])) && ((V.beq (.agg [.int .i64 0, .int .i64 1]) (.agg [.int .i64 0, .int .i64 1])) && true)) = true) (
.ob (((V.beq (.agg [.int .i64 (dealL (fineO b) (fineO a)).baud, .int .i64 200, .int .i64 (dealL (fineO b) (fineO a)).win, .int .i64 (dealL (fineO b) (fineO a)).size, .int .i64 1]) (.agg [.int .i64 (dealL (fineO b) (fineO a)).baud, .int .i64 200, .int .i64 (dealL (fineO b) (fineO a)).win, .int .i64 (dealL (fineO b) (fineO a)).size, .int .i64 1])) && ((V.beq (.agg [.int .i64 0, .int .i64 1]) (.agg [.int .i64 0, .int .i64 1])) && true)) = true) (
.ob (((V.beq (.agg [.int .i64 (dealL (fineO b) (fineO a)).baud, .int .i64 200, .int .i64 (dealL (fineO b) (fineO a)).win, .int .i64 (dealL (fineO b) (fineO a)).size, .int .i64 1]) (.agg [.int .i64 (dealL (fineO b) (fineO a)).baud, .int .i64 200, .int .i64 (dealL (fineO b) (fineO a)).win, .int .i64 (dealL (fineO b) (fineO a)).size, .int .i64 1])) && true) = true) (
.ob (((V.beq (.int .i64 1) (.int .i64 1)) && true) = true) (
.ob (((V.beq (.int .i64 1) (.int .i64 1)) && true) = true) (
.ob (((V.beq (.int .i64 1) (.int .i64 1)) && true) = true) (
.ob (dPut [.agg [.int .u32 2, .int .u32 1, .int .i64 0, .int .i64 1, .int .i64 (fineO b).baud, .int .i64 (fineO b).silent, .int .i64 (fineO b).win, .int .i64 (fineO b).size, .int .i64 (fineO b).wait]]) (
.ob (9 = 9 ∧ 0 ≤ (0 : Int) ∧ (0 : Int) < ((1 : Nat) : Int)) (
.ob (Gw.lenStr (.str (setupStr ⟨2, 1, 0, 1, (fineO b)⟩)) = some (.int .i64 25)) (
.ob (Gw.lenStr (.str (setupStr ⟨2, 1, 0, 1, (fineO b)⟩)) = some (.int .i64 25)) (
.ob (((V.beq (.str (setupStr ⟨2, 1, 0, 1, (fineO b)⟩)) (.str (setupStr ⟨2, 1, 0, 1, (fineO b)⟩))) && ((V.beq (.bool false) (.bool false)) && ((V.beq (.agg [.int .i64 127, .int .i64 255]) (.agg [.int .i64 127, .int .i64 255])) && true))) = true) (
.ob (((V.beq (.int .i64 3) (.int .i64 3)) && true) = true) (
.ob (((V.beq (.agg [.int .i64 127, .int .i64 255, .bool false, .int .i64 3, .int .i64 3, .int .i64 0, .int .i64 0, .bool true, .str (setupStr ⟨2, 1, 0, 1, (fineO b)⟩)]) (.agg [.int .i64 127, .int .i64 255, .bool false, .int .i64 3, .int .i64 3, .int .i64 0, .int .i64 0, .bool true, .str (setupStr ⟨2, 1, 0, 1, (fineO b)⟩)])) && true) = true) (
.ob (((eqV (.agg [.i, .i, .b, .i, .i, .i, .i, .b, .s]) (.agg [.int .i64 127, .int .i64 255, .bool false, .int .i64 3, .int .i64 3, .int .i64 0, .int .i64 0, .bool true, .str (setupStr ⟨2, 1, 0, 1, (fineO b)⟩)]) (.agg [.int .i64 127, .int .i64 255, .bool false, .int .i64 3, .int .i64 3, .int .i64 0, .int .i64 0, .bool true, .str (setupStr ⟨2, 1, 0, 1, (fineO b)⟩)])).map fun b => V.bool (if true then !b else b)) = some (.bool false)) (
.ob (((V.beq (.agg [.int .i64 127, .int .i64 255]) (.agg [.int .i64 127, .int .i64 255])) && true) = true) (
.ob (True) (
.ob (dGet [.str (setupStr ⟨2, 1, 0, 1, (fineO b)⟩)]) (
.ob (pGet [.str (setupStr ⟨2, 1, 0, 1, (fineO b)⟩)] = (.tup [.agg [.int .u32 2, .int .u32 1, .int .i64 0, .int .i64 1, .int .i64 (fineO b).baud, .int .i64 (fineO b).silent, .int .i64 (fineO b).win, .int .i64 (fineO b).size, .int .i64 (fineO b).wait], .bool true])) (
.ob (dDeal [.agg [.int .i64 (fineO a).baud, .int .i64 (fineO a).silent, .int .i64 (fineO a).win, .int .i64 (fineO a).size, .int .i64 (fineO a).wait], .agg [.int .i64 (fineO b).baud, .int .i64 (fineO b).silent, .int .i64 (fineO b).win, .int .i64 (fineO b).size, .int .i64 (fineO b).wait]]) (
.ob (pDeal [.agg [.int .i64 (fineO a).baud, .int .i64 (fineO a).silent, .int .i64 (fineO a).win, .int .i64 (fineO a).size, .int .i64 (fineO a).wait], .agg [.int .i64 (fineO b).baud, .int .i64 (fineO b).silent, .int .i64 (fineO b).win, .int .i64 (fineO b).size, .int .i64 (fineO b).wait]] = (.tup [.agg [.int .i64 (dealL (fineO a) (fineO b)).baud, .int .i64 200, .int .i64 (dealL (fineO a) (fineO b)).win, .int .i64 (dealL (fineO a) (fineO b)).size, .int .i64 (dealL (fineO a) (fineO b)).wait], .bool true])) (
.ob (True) (
.ob (((V.beq (.int .i64 (dealL (fineO a) (fineO b)).size) (.int .i64 (dealL (fineO a) (fineO b)).size)) && true) = true) (
.ob (((V.beq (.int .i64 (dealL (fineO a) (fineO b)).size) (.int .i64 (dealL (fineO a) (fineO b)).size)) && true) = true) (
.ob (((V.beq (.agg [.int .i64 (dealL (fineO a) (fineO b)).baud, .int .i64 200, .int .i64 (dealL (fineO a) (fineO b)).win, .int .i64 (dealL (fineO a) (fineO b)).size, .int .i64 (dealL (fineO a) (fineO b)).wait]) (.agg [.int .i64 (dealL (fineO a) (fineO b)).baud, .int .i64 200, .int .i64 (dealL (fineO a) (fineO b)).win, .int .i64 (dealL (fineO a) (fineO b)).size, .int .i64 (dealL (fineO a) (fineO b)).wait])) && ((V.beq (.agg [.int .i64 0, .int .i64 1]) (.agg [.int .i64 0, .int .i64 1])) && true)) = true) (
.ob (((V.beq (.agg [.int .i64 (dealL (fineO a) (fineO b)).baud, .int .i64 200, .int .i64 (dealL (fineO a) (fineO b)).win, .int .i64 (dealL (fineO a) (fineO b)).size, .int .i64 (dealL (fineO a) (fineO b)).wait]) (.agg [.int .i64 (dealL (fineO a) (fineO b)).baud, .int .i64 200, .int .i64 (dealL (fineO a) (fineO b)).win, .int .i64 (dealL (fineO a) (fineO b)).size, .int .i64 (dealL (fineO a) (fineO b)).wait])) && ((V.beq (.agg [.int .i64 0, .int .i64 1]) (.agg [.int .i64 0, .int .i64 1])) && true)) = true) (
.ob (((V.beq (.agg [.int .i64 (dealL (fineO a) (fineO b)).baud, .int .i64 200, .int .i64 (dealL (fineO a) (fineO b)).win, .int .i64 (dealL (fineO a) (fineO b)).size, .int .i64 (dealL (fineO a) (fineO b)).wait]) (.agg [.int .i64 (dealL (fineO a) (fineO b)).baud, .int .i64 200, .int .i64 (dealL (fineO a) (fineO b)).win, .int .i64 (dealL (fineO a) (fineO b)).size, .int .i64 (dealL (fineO a) (fineO b)).wait])) && ((V.beq (.agg [.int .i64 0, .int .i64 1]) (.agg [.int .i64 0, .int .i64 1])) && true)) = true) (
.ob (((V.beq (.agg [.int .i64 (dealL (fineO a) (fineO b)).baud, .int .i64 200, .int .i64 (dealL (fineO a) (fineO b)).win, .int .i64 (dealL (fineO a) (fineO b)).size, .int .i64 (dealL (fineO a) (fineO b)).wait]) (.agg [.int .i64 (dealL (fineO a) (fineO b)).baud, .int .i64 200, .int .i64 (dealL (fineO a) (fineO b)).win, .int .i64 (dealL (fineO a) (fineO b)).size, .int .i64 (dealL (fineO a) (fineO b)).wait])) && true) = true) (
.ob (((V.beq (.int .i64 (dealL (fineO a) (fineO b)).wait) (.int .i64 (dealL (fineO a) (fineO b)).wait)) && true) = true) (
.ob (((V.beq (.int .i64 (dealL (fineO a) (fineO b)).wait) (.int .i64 (dealL (fineO a) (fineO b)).wait)) && true) = true) (
.ob (((V.beq (.int .i64 (dealL (fineO a) (fineO b)).wait) (.int .i64 (dealL (fineO a) (fineO b)).wait)) && true) = true) (
.ob (dOff [.agg [.int .i64 a.baud, .int .i64 a.silent, .int .i64 a.win, .int .i64 a.size, .int .i64 a.wait]]) (
.ob (dOff [.agg [.int .i64 (fineO a).baud, .int .i64 (fineO a).silent, .int .i64 (fineO a).win, .int .i64 (fineO a).size, .int .i64 (fineO a).wait]]) (
.ob (pMayQ [.agg [.int .i64 (fineO a).baud, .int .i64 (fineO a).silent, .int .i64 (fineO a).win, .int .i64 (fineO a).size, .int .i64 (fineO a).wait]] = (.bool true)) (
.ob (True) (
.leaf (.bool true))))))))))))))))))))))))))))))))))))))))))))))))))))))))))))))))
set_option maxRecDepth 1000000 in
theorem treeLinkMe1_0_eq (a : Gw.Offer) (b : Gw.Offer) : funT (mkXT (noPX) (oxLinkMe1_0 a b)) (mkXP (noPX)) (mkX (noPX) (oxLinkMe1_0 a b)) D (fun g => match g with | 113 => (fun k => match k with | 38 => some fun t h => (match h.n with | 93 => (.int .i64 25, h) | 112 => (.int .i64 25, h) | 253 => (.int .i64 25, h) | _ => (.int .i64 25, h)) | _ => none) | 77 => (fun k => match k with | 52 => some fun t h => (match h.n with | 128 => (.bool false, h) | _ => (.bool false, h)) | _ => none) | _ => noOrc) (fun k => match k with | 16 => [13, 38, 45, 47, 51, 59, 63] | 21 => [31, 41, 49, 60, 69, 72, 76] | 22 => [10, 15, 20, 25, 30, 31, 37, 41, 50, 57] | 26 => [15, 22, 31, 52, 58] | 35 => [8, 11, 15, 19, 23] | 39 => [16, 25, 30, 36, 39, 44, 47, 57, 67, 82, 86, 99] | 42 => [12, 16] | 56 => [10, 33, 40, 44, 49] | 60 => [8, 25, 32] | 62 => [28, 30] | 77 => [8, 15, 26, 37, 41, 46, 52] | 81 => [14, 20, 28] | 82 => [13] | 107 => [10] | 113 => [11, 16, 20, 25, 30, 34, 39] | 114 => [8, 14, 19, 24, 34, 44] | 146 => [6, 9, 20] | 165 => [8, 19, 30, 34, 38] | 166 => [8, 13, 18, 21] | _ => []) 12 noOrc [13, 38, 45, 47, 51, 59, 63] (noLt) (dOf 16) [.int .u32 0, .agg a.vs, .agg b.vs] (tabH kT0 kT1 kT2 3) (fun v _ => v) = treeLinkMe1_0 a b := by kernel_rfl
theorem satLinkMe1_0 (a : Gw.Offer) (b : Gw.Offer) (hwa : loL (fineO a).wait = 1) : (treeLinkMe1_0 a b).sat fun v => v = .bool true :=
 sat_ob trivial (
sat_ob (by simp only [V.beq_refl, Bool.and_true]) (
sat_ob trivial (
sat_ob trivial (
sat_ob (pMay_fine a) (
sat_ob (by simp only [V.beq_refl, Bool.and_true]) (
sat_ob trivial (
sat_ob (pMay_fine b) (
sat_ob trivial (
sat_ob (by decide) (
sat_ob (by simp only [V.beq_refl, Bool.and_true]) (
sat_ob (by simp only [V.beq_refl, Bool.and_true]) (
sat_ob (okSet 1 2 0 1 a (by decide) (by decide) (by decide) (by decide)) (
sat_ob (by decide) (
sat_ob rfl (
sat_ob rfl (
sat_ob (by simp only [V.beq_refl, Bool.and_true]) (
sat_ob (by simp only [V.beq_refl, Bool.and_true]) (
sat_ob (by simp only [V.beq_refl, Bool.and_true]) (
sat_ob (by simp [eqV, eqCells]) (
sat_ob (by simp only [V.beq_refl, Bool.and_true]) (
sat_ob trivial (
sat_ob ⟨⟨1, 2, 0, 1, (fineO a)⟩, (okSet 1 2 0 1 a (by decide) (by decide) (by decide) (by decide)), rfl⟩ (
sat_ob (get_put ⟨1, 2, 0, 1, (fineO a)⟩ (okSet 1 2 0 1 a (by decide) (by decide) (by decide) (by decide))) (
sat_ob ⟨mayO_fine b, mayO_fine a⟩ (
sat_ob (by show V.tup [.agg [.int .i64 _, .int .i64 _, .int .i64 _, .int .i64 _, .int .i64 (loL (fineO a).wait)], .bool true] = _; rw [hwa]; rfl) (
sat_ob (by simp only [V.beq_refl, Bool.and_true]) (
sat_ob (by simp only [V.beq_refl, Bool.and_true]) (
sat_ob (by simp only [V.beq_refl, Bool.and_true]) (
sat_ob (by simp only [V.beq_refl, Bool.and_true]) (
sat_ob (by simp only [V.beq_refl, Bool.and_true]) (
sat_ob (by simp only [V.beq_refl, Bool.and_true]) (
sat_ob (by simp only [V.beq_refl, Bool.and_true]) (
sat_ob (by simp only [V.beq_refl, Bool.and_true]) (
sat_ob (by simp only [V.beq_refl, Bool.and_true]) (
sat_ob (okSet 2 1 0 1 b (by decide) (by decide) (by decide) (by decide)) (
sat_ob (by decide) (
sat_ob rfl (
sat_ob rfl (
sat_ob (by simp only [V.beq_refl, Bool.and_true]) (
sat_ob (by simp only [V.beq_refl, Bool.and_true]) (
sat_ob (by simp only [V.beq_refl, Bool.and_true]) (
sat_ob (by simp [eqV, eqCells]) (
sat_ob (by simp only [V.beq_refl, Bool.and_true]) (
sat_ob trivial (
sat_ob ⟨⟨2, 1, 0, 1, (fineO b)⟩, (okSet 2 1 0 1 b (by decide) (by decide) (by decide) (by decide)), rfl⟩ (
sat_ob (get_put ⟨2, 1, 0, 1, (fineO b)⟩ (okSet 2 1 0 1 b (by decide) (by decide) (by decide) (by decide))) (
sat_ob ⟨mayO_fine a, mayO_fine b⟩ (
sat_ob (by rfl) (
sat_ob trivial (
sat_ob (by simp only [V.beq_refl, Bool.and_true]) (
sat_ob (by simp only [V.beq_refl, Bool.and_true]) (
sat_ob (by simp only [V.beq_refl, Bool.and_true]) (
sat_ob (by simp only [V.beq_refl, Bool.and_true]) (
sat_ob (by simp only [V.beq_refl, Bool.and_true]) (
sat_ob (by simp only [V.beq_refl, Bool.and_true]) (
sat_ob (by simp only [V.beq_refl, Bool.and_true]) (
sat_ob (by simp only [V.beq_refl, Bool.and_true]) (
sat_ob (by simp only [V.beq_refl, Bool.and_true]) (
sat_ob trivial (
sat_ob trivial (
sat_ob (pMay_fine a) (
sat_ob trivial (
sat_leaf (rfl))))))))))))))))))))))))))))))))))))))))))))))))))))))))))))))))
theorem runLinkMe1_0 (a : Gw.Offer) (b : Gw.Offer) (hwa : loL (fineO a).wait = 1) : Run Tryz.prog 16 [.int .u32 0, .agg a.vs, .agg b.vs] (tabH kT0 kT1 kT2 3) fun v _ => v = .bool true := run_plainU mixed (show TabX Tryz.prog noPX (oxLinkMe1_0 a b) from ((((((TabX.nil.addO ans_begun).addT (ans_fine noV)).addT (ans_may (fun n => match n with | 12 => some (.bool true) | 20 => some (.bool true) | 351 => some (.bool true) | _ => none))).addT (ans_deal (fun n => match n with | 151 => some (.tup [.agg [.int .i64 (dealL (fineO b) (fineO a)).baud, .int .i64 200, .int .i64 (dealL (fineO b) (fineO a)).win, .int .i64 (dealL (fineO b) (fineO a)).size, .int .i64 1], .bool true]) | 311 => some (.tup [.agg [.int .i64 (dealL (fineO a) (fineO b)).baud, .int .i64 200, .int .i64 (dealL (fineO a) (fineO b)).win, .int .i64 (dealL (fineO a) (fineO b)).size, .int .i64 (dealL (fineO a) (fineO b)).wait], .bool true]) | _ => none))).addT (ans_put noV)).addT (ans_get (fun n => match n with | 138 => some (.tup [.agg [.int .u32 1, .int .u32 2, .int .i64 0, .int .i64 1, .int .i64 (fineO a).baud, .int .i64 (fineO a).silent, .int .i64 (fineO a).win, .int .i64 (fineO a).size, .int .i64 (fineO a).wait], .bool true]) | 298 => some (.tup [.agg [.int .u32 2, .int .u32 1, .int .i64 0, .int .i64 1, .int .i64 (fineO b).baud, .int .i64 (fineO b).silent, .int .i64 (fineO b).win, .int .i64 (fineO b).size, .int .i64 (fineO b).wait], .bool true]) | _ => none)))) tabD (dIs (by kernel_rfl)) (treeLinkMe1_0_eq a b) (satLinkMe1_0 a b hwa)
def oxLinkMe1_1 (a : Gw.Offer) (b : Gw.Offer) : OTab := (consT 79 (gD dGet pGet (fun n => match n with | 138 => some (.tup [.agg [.int .u32 1, .int .u32 2, .int .i64 0, .int .i64 1, .int .i64 (fineO a).baud, .int .i64 (fineO a).silent, .int .i64 (fineO a).win, .int .i64 (fineO a).size, .int .i64 (fineO a).wait], .bool true]) | 298 => some (.tup [.agg [.int .u32 2, .int .u32 1, .int .i64 0, .int .i64 1, .int .i64 (fineO b).baud, .int .i64 (fineO b).silent, .int .i64 (fineO b).win, .int .i64 (fineO b).size, .int .i64 (fineO b).wait], .bool true]) | _ => none)) (consT 106 (gD dPut pPut noV) (consT 80 (gDT kT0 kT1 kT2 dDeal pDeal (fun n => match n with | 151 => some (.tup [.agg [.int .i64 (dealL (fineO b) (fineO a)).baud, .int .i64 200, .int .i64 (dealL (fineO b) (fineO a)).win, .int .i64 (dealL (fineO b) (fineO a)).size, .int .i64 1], .bool true]) | 311 => some (.tup [.agg [.int .i64 (dealL (fineO a) (fineO b)).baud, .int .i64 200, .int .i64 (dealL (fineO a) (fineO b)).win, .int .i64 (dealL (fineO a) (fineO b)).size, .int .i64 (dealL (fineO a) (fineO b)).wait], .bool true]) | _ => none)) (consT 76 (gD dOff pMayQ (fun n => match n with | 12 => some (.bool true) | 20 => some (.bool true) | 351 => some (.bool true) | _ => none)) (consT 20 (gD dOff pFine noV) (consO 19 (gTrue kT0 kT1 kT2) noOX))))))
def treeLinkMe1_1 (a : Gw.Offer) (b : Gw.Offer) : DT V :=
  .ob (dOff [.agg [.int .i64 a.baud, .int .i64 a.silent, .int .i64 a.win, .int .i64 a.size, .int .i64 a.wait]]) (
.ob (((V.beq (.agg [.int .i64 b.baud, .int .i64 b.silent, .int .i64 b.win, .int .i64 b.size, .int .i64 b.wait]) (.agg [.int .i64 b.baud, .int .i64 b.silent, .int .i64 b.win, .int .i64 b.size, .int .i64 b.wait])) && true) = true) (
.ob (dOff [.agg [.int .i64 b.baud, .int .i64 b.silent, .int .i64 b.win, .int .i64 b.size, .int .i64 b.wait]]) (
.ob (dOff [.agg [.int .i64 (fineO a).baud, .int .i64 (fineO a).silent, .int .i64 (fineO a).win, .int .i64 (fineO a).size, .int .i64 (fineO a).wait]]) (
.ob (pMayQ [.agg [.int .i64 (fineO a).baud, .int .i64 (fineO a).silent, .int .i64 (fineO a).win, .int .i64 (fineO a).size, .int .i64 (fineO a).wait]] = (.bool true)) (
.ob (((V.beq (.agg [.int .i64 (fineO b).baud, .int .i64 (fineO b).silent, .int .i64 (fineO b).win, .int .i64 (fineO b).size, .int .i64 (fineO b).wait]) (.agg [.int .i64 (fineO b).baud, .int .i64 (fineO b).silent, .int .i64 (fineO b).win, .int .i64 (fineO b).size, .int .i64 (fineO b).wait])) && true) = true) (
.ob (dOff [.agg [.int .i64 (fineO b).baud, .int .i64 (fineO b).silent, .int .i64 (fineO b).win, .int .i64 (fineO b).size, .int .i64 (fineO b).wait]]) (
.ob (pMayQ [.agg [.int .i64 (fineO b).baud, .int .i64 (fineO b).silent, .int .i64 (fineO b).win, .int .i64 (fineO b).size, .int .i64 (fineO b).wait]] = (.bool true)) (
.ob (True) (
.ob (IntKind.i64 = IntKind.i64 ∧ (250 : Int) ≠ 0) (
.ob (((V.beq (.int .u32 2) (.int .u32 2)) && true) = true) (
.ob (((V.beq (.int .u32 2) (.int .u32 2)) && true) = true) (
.ob (dPut [.agg [.int .u32 1, .int .u32 2, .int .i64 0, .int .i64 1, .int .i64 (fineO a).baud, .int .i64 (fineO a).silent, .int .i64 (fineO a).win, .int .i64 (fineO a).size, .int .i64 (fineO a).wait]]) (
.ob (9 = 9 ∧ 0 ≤ (0 : Int) ∧ (0 : Int) < ((1 : Nat) : Int)) (
.ob (Gw.lenStr (.str (setupStr ⟨1, 2, 0, 1, (fineO a)⟩)) = some (.int .i64 25)) (
.ob (Gw.lenStr (.str (setupStr ⟨1, 2, 0, 1, (fineO a)⟩)) = some (.int .i64 25)) (
.ob (((V.beq (.str (setupStr ⟨1, 2, 0, 1, (fineO a)⟩)) (.str (setupStr ⟨1, 2, 0, 1, (fineO a)⟩))) && ((V.beq (.bool true) (.bool true)) && ((V.beq (.agg [.int .i64 127, .int .i64 255]) (.agg [.int .i64 127, .int .i64 255])) && true))) = true) (
.ob (((V.beq (.int .i64 2) (.int .i64 2)) && true) = true) (
.ob (((V.beq (.agg [.int .i64 127, .int .i64 255, .bool true, .int .i64 3, .int .i64 2, .int .i64 0, .int .i64 0, .bool true, .str (setupStr ⟨1, 2, 0, 1, (fineO a)⟩)]) (.agg [.int .i64 127, .int .i64 255, .bool true, .int .i64 3, .int .i64 2, .int .i64 0, .int .i64 0, .bool true, .str (setupStr ⟨1, 2, 0, 1, (fineO a)⟩)])) && true) = true) (
.ob (((eqV (.agg [.i, .i, .b, .i, .i, .i, .i, .b, .s]) (.agg [.int .i64 127, .int .i64 255, .bool true, .int .i64 3, .int .i64 2, .int .i64 0, .int .i64 0, .bool true, .str (setupStr ⟨1, 2, 0, 1, (fineO a)⟩)]) (.agg [.int .i64 127, .int .i64 255, .bool true, .int .i64 3, .int .i64 2, .int .i64 0, .int .i64 0, .bool true, .str (setupStr ⟨1, 2, 0, 1, (fineO a)⟩)])).map fun b => V.bool (if true then !b else b)) = some (.bool false)) (
.ob (((V.beq (.agg [.int .i64 127, .int .i64 255]) (.agg [.int .i64 127, .int .i64 255])) && true) = true) (
.ob (True) (
.ob (dGet [.str (setupStr ⟨1, 2, 0, 1, (fineO a)⟩)]) (
.ob (pGet [.str (setupStr ⟨1, 2, 0, 1, (fineO a)⟩)] = (.tup [.agg [.int .u32 1, .int .u32 2, .int .i64 0, .int .i64 1, .int .i64 (fineO a).baud, .int .i64 (fineO a).silent, .int .i64 (fineO a).win, .int .i64 (fineO a).size, .int .i64 (fineO a).wait], .bool true])) (
.ob (dDeal [.agg [.int .i64 (fineO b).baud, .int .i64 (fineO b).silent, .int .i64 (fineO b).win, .int .i64 (fineO b).size, .int .i64 (fineO b).wait], .agg [.int .i64 (fineO a).baud, .int .i64 (fineO a).silent, .int .i64 (fineO a).win, .int .i64 (fineO a).size, .int .i64 (fineO a).wait]]) (
.ob (pDeal [.agg [.int .i64 (fineO b).baud, .int .i64 (fineO b).silent, .int .i64 (fineO b).win, .int .i64 (fineO b).size, .int .i64 (fineO b).wait], .agg [.int .i64 (fineO a).baud, .int .i64 (fineO a).silent, .int .i64 (fineO a).win, .int .i64 (fineO a).size, .int .i64 (fineO a).wait]] = (.tup [.agg [.int .i64 (dealL (fineO b) (fineO a)).baud, .int .i64 200, .int .i64 (dealL (fineO b) (fineO a)).win, .int .i64 (dealL (fineO b) (fineO a)).size, .int .i64 1], .bool true])) (
.ob (((V.beq (.int .i64 (dealL (fineO b) (fineO a)).size) (.int .i64 (dealL (fineO b) (fineO a)).size)) && true) = true) (
.ob (((V.beq (.int .i64 (dealL (fineO b) (fineO a)).size) (.int .i64 (dealL (fineO b) (fineO a)).size)) && true) = true) (
.ob (((V.beq (.agg [.int .i64 (dealL (fineO b) (fineO a)).baud, .int .i64 200, .int .i64 (dealL (fineO b) (fineO a)).win, .int .i64 (dealL (fineO b) (fineO a)).size, .int .i64 1]) (.agg [.int .i64 (dealL (fineO b) (fineO a)).baud, .int .i64 200, .int .i64 (dealL (fineO b) (fineO a)).win, .int .i64 (dealL (fineO b) (fineO a)).size, .int .i64 1])) && ((V.beq (.agg [.int .i64 0, .int .i64 1]) (.agg [.int .i64 0, .int .i64 1])) && true)) = true) (
.ob (((V.beq (.agg [.int .i64 (dealL (fineO b) (fineO a)).baud, .int .i64 200, .int .i64 (dealL (fineO b) (fineO a)).win, .int .i64 (dealL (fineO b) (fineO a)).size, .int .i64 1]) (.agg [.int .i64 (dealL (fineO b) (fineO a)).baud, .int .i64 200, .int .i64 (dealL (fineO b) (fineO a)).win, .int .i64 (dealL (fineO b) (fineO a)).size, .int .i64 1])) && ((V.beq (.agg [.int .i64 0, .int .i64 1]) (.agg [.int .i64 0, .int .i64 1])) && true)) = true) (
.ob (((V.beq (.agg [.int .i64 (dealL (fineO b) (fineO a)).baud, .int .i64 200, .int .i64 (dealL (fineO b) (fineO a)).win, .int .i64 (dealL (fineO b) (fineO a)).size, .int .i64 1]) (.agg [.int .i64 (dealL (fineO b) (fineO a)).baud, .int .i64 200, .int .i64 (dealL (fineO b) (fineO a)).win, .int .i64 (dealL (fineO b) (fineO a)).size, .int .i64 1])) && ((V.beq (.agg [.int .i64 0, .int .i64 1]) (.agg [.int .i64 0, .int .i64 1])) && true)) = true) (
.ob (((V.beq (.agg [.int .i64 (dealL (fineO b) (fineO a)).baud, .int .i64 200, .int .i64 (dealL (fineO b) (fineO a)).win, .int .i64 (dealL (fineO b) (fineO a)).size, .int .i64 1]) (.agg [.int .i64 (dealL (fineO b) (fineO a)).baud, .int .i64 200, .int .i64 (dealL (fineO b) (fineO a)).win, .int .i64 (dealL (fineO b) (fineO a)).size, .int .i64 1])) && true) = true) (
.ob (((V.beq (.int .i64 1) (.int .i64 1)) && true) = true) (
.ob (((V.beq (.int .i64 1) (.int .i64 1)) && true) = true) (
.ob (((V.beq (.int .i64 1) (.int .i64 1)) && true) = true) (
.ob (dPut [.agg [.int .u32 2, .int .u32 1, .int .i64 0, .int .i64 1, .int .i64 (fineO b).baud, .int .i64 (fineO b).silent, .int .i64 (fineO b).win, .int .i64 (fineO b).size, .int .i64 (fineO b).wait]]) (
.ob (9 = 9 ∧ 0 ≤ (0 : Int) ∧ (0 : Int) < ((1 : Nat) : Int)) (
.ob (Gw.lenStr (.str (setupStr ⟨2, 1, 0, 1, (fineO b)⟩)) = some (.int .i64 25)) (
.ob (Gw.lenStr (.str (setupStr ⟨2, 1, 0, 1, (fineO b)⟩)) = some (.int .i64 25)) (
.ob (((V.beq (.str (setupStr ⟨2, 1, 0, 1, (fineO b)⟩)) (.str (setupStr ⟨2, 1, 0, 1, (fineO b)⟩))) && ((V.beq (.bool false) (.bool false)) && ((V.beq (.agg [.int .i64 127, .int .i64 255]) (.agg [.int .i64 127, .int .i64 255])) && true))) = true) (
.ob (((V.beq (.int .i64 3) (.int .i64 3)) && true) = true) (
.ob (((V.beq (.agg [.int .i64 127, .int .i64 255, .bool false, .int .i64 3, .int .i64 3, .int .i64 0, .int .i64 0, .bool true, .str (setupStr ⟨2, 1, 0, 1, (fineO b)⟩)]) (.agg [.int .i64 127, .int .i64 255, .bool false, .int .i64 3, .int .i64 3, .int .i64 0, .int .i64 0, .bool true, .str (setupStr ⟨2, 1, 0, 1, (fineO b)⟩)])) && true) = true) (
.ob (((eqV (.agg [.i, .i, .b, .i, .i, .i, .i, .b, .s]) (.agg [.int .i64 127, .int .i64 255, .bool false, .int .i64 3, .int .i64 3, .int .i64 0, .int .i64 0, .bool true, .str (setupStr ⟨2, 1, 0, 1, (fineO b)⟩)]) (.agg [.int .i64 127, .int .i64 255, .bool false, .int .i64 3, .int .i64 3, .int .i64 0, .int .i64 0, .bool true, .str (setupStr ⟨2, 1, 0, 1, (fineO b)⟩)])).map fun b => V.bool (if true then !b else b)) = some (.bool false)) (
.ob (((V.beq (.agg [.int .i64 127, .int .i64 255]) (.agg [.int .i64 127, .int .i64 255])) && true) = true) (
.ob (True) (
.ob (dGet [.str (setupStr ⟨2, 1, 0, 1, (fineO b)⟩)]) (
.ob (pGet [.str (setupStr ⟨2, 1, 0, 1, (fineO b)⟩)] = (.tup [.agg [.int .u32 2, .int .u32 1, .int .i64 0, .int .i64 1, .int .i64 (fineO b).baud, .int .i64 (fineO b).silent, .int .i64 (fineO b).win, .int .i64 (fineO b).size, .int .i64 (fineO b).wait], .bool true])) (
.ob (dDeal [.agg [.int .i64 (fineO a).baud, .int .i64 (fineO a).silent, .int .i64 (fineO a).win, .int .i64 (fineO a).size, .int .i64 (fineO a).wait], .agg [.int .i64 (fineO b).baud, .int .i64 (fineO b).silent, .int .i64 (fineO b).win, .int .i64 (fineO b).size, .int .i64 (fineO b).wait]]) (
.ob (pDeal [.agg [.int .i64 (fineO a).baud, .int .i64 (fineO a).silent, .int .i64 (fineO a).win, .int .i64 (fineO a).size, .int .i64 (fineO a).wait], .agg [.int .i64 (fineO b).baud, .int .i64 (fineO b).silent, .int .i64 (fineO b).win, .int .i64 (fineO b).size, .int .i64 (fineO b).wait]] = (.tup [.agg [.int .i64 (dealL (fineO a) (fineO b)).baud, .int .i64 200, .int .i64 (dealL (fineO a) (fineO b)).win, .int .i64 (dealL (fineO a) (fineO b)).size, .int .i64 (dealL (fineO a) (fineO b)).wait], .bool true])) (
.ob (True) (
.ob (((V.beq (.int .i64 (dealL (fineO a) (fineO b)).size) (.int .i64 (dealL (fineO a) (fineO b)).size)) && true) = true) (
.ob (((V.beq (.int .i64 (dealL (fineO a) (fineO b)).size) (.int .i64 (dealL (fineO a) (fineO b)).size)) && true) = true) (
.ob (((V.beq (.agg [.int .i64 (dealL (fineO a) (fineO b)).baud, .int .i64 200, .int .i64 (dealL (fineO a) (fineO b)).win, .int .i64 (dealL (fineO a) (fineO b)).size, .int .i64 (dealL (fineO a) (fineO b)).wait]) (.agg [.int .i64 (dealL (fineO a) (fineO b)).baud, .int .i64 200, .int .i64 (dealL (fineO a) (fineO b)).win, .int .i64 (dealL (fineO a) (fineO b)).size, .int .i64 (dealL (fineO a) (fineO b)).wait])) && ((V.beq (.agg [.int .i64 0, .int .i64 1]) (.agg [.int .i64 0, .int .i64 1])) && true)) = true) (
.ob (((V.beq (.agg [.int .i64 (dealL (fineO a) (fineO b)).baud, .int .i64 200, .int .i64 (dealL (fineO a) (fineO b)).win, .int .i64 (dealL (fineO a) (fineO b)).size, .int .i64 (dealL (fineO a) (fineO b)).wait]) (.agg [.int .i64 (dealL (fineO a) (fineO b)).baud, .int .i64 200, .int .i64 (dealL (fineO a) (fineO b)).win, .int .i64 (dealL (fineO a) (fineO b)).size, .int .i64 (dealL (fineO a) (fineO b)).wait])) && ((V.beq (.agg [.int .i64 0, .int .i64 1]) (.agg [.int .i64 0, .int .i64 1])) && true)) = true) (
.ob (((V.beq (.agg [.int .i64 (dealL (fineO a) (fineO b)).baud, .int .i64 200, .int .i64 (dealL (fineO a) (fineO b)).win, .int .i64 (dealL (fineO a) (fineO b)).size, .int .i64 (dealL (fineO a) (fineO b)).wait]) (.agg [.int .i64 (dealL (fineO a) (fineO b)).baud, .int .i64 200, .int .i64 (dealL (fineO a) (fineO b)).win, .int .i64 (dealL (fineO a) (fineO b)).size, .int .i64 (dealL (fineO a) (fineO b)).wait])) && ((V.beq (.agg [.int .i64 0, .int .i64 1]) (.agg [.int .i64 0, .int .i64 1])) && true)) = true) (
.ob (((V.beq (.agg [.int .i64 (dealL (fineO a) (fineO b)).baud, .int .i64 200, .int .i64 (dealL (fineO a) (fineO b)).win, .int .i64 (dealL (fineO a) (fineO b)).size, .int .i64 (dealL (fineO a) (fineO b)).wait]) (.agg [.int .i64 (dealL (fineO a) (fineO b)).baud, .int .i64 200, .int .i64 (dealL (fineO a) (fineO b)).win, .int .i64 (dealL (fineO a) (fineO b)).size, .int .i64 (dealL (fineO a) (fineO b)).wait])) && true) = true) (
.ob (((V.beq (.int .i64 (dealL (fineO a) (fineO b)).wait) (.int .i64 (dealL (fineO a) (fineO b)).wait)) && true) = true) (
.ob (((V.beq (.int .i64 (dealL (fineO a) (fineO b)).wait) (.int .i64 (dealL (fineO a) (fineO b)).wait)) && true) = true) (
.ob (((V.beq (.int .i64 (dealL (fineO a) (fineO b)).wait) (.int .i64 (dealL (fineO a) (fineO b)).wait)) && true) = true) (
.ob (dOff [.agg [.int .i64 a.baud, .int .i64 a.silent, .int .i64 a.win, .int .i64 a.size, .int .i64 a.wait]]) (
.ob (dOff [.agg [.int .i64 (fineO a).baud, .int .i64 (fineO a).silent, .int .i64 (fineO a).win, .int .i64 (fineO a).size, .int .i64 (fineO a).wait]]) (
.ob (pMayQ [.agg [.int .i64 (fineO a).baud, .int .i64 (fineO a).silent, .int .i64 (fineO a).win, .int .i64 (fineO a).size, .int .i64 (fineO a).wait]] = (.bool true)) (
.ob (True) (
.leaf (.bool true))))))))))))))))))))))))))))))))))))))))))))))))))))))))))))))))
set_option maxRecDepth 1000000 in
theorem treeLinkMe1_1_eq (a : Gw.Offer) (b : Gw.Offer) : funT (mkXT (noPX) (oxLinkMe1_1 a b)) (mkXP (noPX)) (mkX (noPX) (oxLinkMe1_1 a b)) D (fun g => match g with | 113 => (fun k => match k with | 38 => some fun t h => (match h.n with | 93 => (.int .i64 25, h) | 112 => (.int .i64 25, h) | 253 => (.int .i64 25, h) | _ => (.int .i64 25, h)) | _ => none) | 77 => (fun k => match k with | 52 => some fun t h => (match h.n with | 128 => (.bool false, h) | _ => (.bool false, h)) | _ => none) | _ => noOrc) (fun k => match k with | 16 => [13, 38, 41, 45, 47, 51, 59, 63] | 21 => [31, 41, 49, 60, 69, 72, 76] | 22 => [10, 15, 20, 25, 30, 31, 37, 41, 50, 57] | 26 => [15, 22, 31, 52, 58] | 35 => [8, 11, 15, 19, 23] | 39 => [16, 25, 30, 36, 39, 44, 47, 57, 67, 82, 86, 99] | 42 => [12, 16, 20] | 56 => [10, 33, 40, 44, 49] | 60 => [8, 25, 32] | 62 => [28, 30] | 77 => [8, 15, 26, 37, 41, 46, 52] | 81 => [14, 20, 28] | 82 => [13] | 107 => [10] | 113 => [11, 16, 20, 25, 30, 34, 39] | 114 => [8, 14, 19, 24, 34, 44] | 146 => [6, 9, 20] | 165 => [8, 19, 30, 34, 38] | 166 => [8, 13, 18, 21] | _ => []) 12 noOrc [13, 38, 41, 45, 47, 51, 59, 63] (noLt) (dOf 16) [.int .u32 4294967295, .agg a.vs, .agg b.vs] (tabH kT0 kT1 kT2 3) (fun v _ => v) = treeLinkMe1_1 a b := by kernel_rfl
theorem satLinkMe1_1 (a : Gw.Offer) (b : Gw.Offer) (hwa : loL (fineO a).wait = 1) : (treeLinkMe1_1 a b).sat fun v => v = .bool true :=
 sat_ob trivial (
sat_ob (by simp only [V.beq_refl, Bool.and_true]) (
sat_ob trivial (
sat_ob trivial (
sat_ob (pMay_fine a) (
sat_ob (by simp only [V.beq_refl, Bool.and_true]) (
sat_ob trivial (
sat_ob (pMay_fine b) (
sat_ob trivial (
sat_ob (by decide) (
sat_ob (by simp only [V.beq_refl, Bool.and_true]) (
sat_ob (by simp only [V.beq_refl, Bool.and_true]) (
sat_ob (okSet 1 2 0 1 a (by decide) (by decide) (by decide) (by decide)) (
sat_ob (by decide) (
sat_ob rfl (
sat_ob rfl (
sat_ob (by simp only [V.beq_refl, Bool.and_true]) (
sat_ob (by simp only [V.beq_refl, Bool.and_true]) (
sat_ob (by simp only [V.beq_refl, Bool.and_true]) (
sat_ob (by simp [eqV, eqCells]) (
sat_ob (by simp only [V.beq_refl, Bool.and_true]) (
sat_ob trivial (
sat_ob ⟨⟨1, 2, 0, 1, (fineO a)⟩, (okSet 1 2 0 1 a (by decide) (by decide) (by decide) (by decide)), rfl⟩ (
sat_ob (get_put ⟨1, 2, 0, 1, (fineO a)⟩ (okSet 1 2 0 1 a (by decide) (by decide) (by decide) (by decide))) (
sat_ob ⟨mayO_fine b, mayO_fine a⟩ (
sat_ob (by show V.tup [.agg [.int .i64 _, .int .i64 _, .int .i64 _, .int .i64 _, .int .i64 (loL (fineO a).wait)], .bool true] = _; rw [hwa]; rfl) (
sat_ob (by simp only [V.beq_refl, Bool.and_true]) (
sat_ob (by simp only [V.beq_refl, Bool.and_true]) (
sat_ob (by simp only [V.beq_refl, Bool.and_true]) (
sat_ob (by simp only [V.beq_refl, Bool.and_true]) (
sat_ob (by simp only [V.beq_refl, Bool.and_true]) (
sat_ob (by simp only [V.beq_refl, Bool.and_true]) (
sat_ob (by simp only [V.beq_refl, Bool.and_true]) (
sat_ob (by simp only [V.beq_refl, Bool.and_true]) (
sat_ob (by simp only [V.beq_refl, Bool.and_true]) (
sat_ob (okSet 2 1 0 1 b (by decide) (by decide) (by decide) (by decide)) (
sat_ob (by decide) (
sat_ob rfl (
sat_ob rfl (
sat_ob (by simp only [V.beq_refl, Bool.and_true]) (
sat_ob (by simp only [V.beq_refl, Bool.and_true]) (
sat_ob (by simp only [V.beq_refl, Bool.and_true]) (
sat_ob (by simp [eqV, eqCells]) (
sat_ob (by simp only [V.beq_refl, Bool.and_true]) (
sat_ob trivial (
sat_ob ⟨⟨2, 1, 0, 1, (fineO b)⟩, (okSet 2 1 0 1 b (by decide) (by decide) (by decide) (by decide)), rfl⟩ (
sat_ob (get_put ⟨2, 1, 0, 1, (fineO b)⟩ (okSet 2 1 0 1 b (by decide) (by decide) (by decide) (by decide))) (
sat_ob ⟨mayO_fine a, mayO_fine b⟩ (
sat_ob (by rfl) (
sat_ob trivial (
sat_ob (by simp only [V.beq_refl, Bool.and_true]) (
sat_ob (by simp only [V.beq_refl, Bool.and_true]) (
sat_ob (by simp only [V.beq_refl, Bool.and_true]) (
sat_ob (by simp only [V.beq_refl, Bool.and_true]) (
sat_ob (by simp only [V.beq_refl, Bool.and_true]) (
sat_ob (by simp only [V.beq_refl, Bool.and_true]) (
sat_ob (by simp only [V.beq_refl, Bool.and_true]) (
sat_ob (by simp only [V.beq_refl, Bool.and_true]) (
sat_ob (by simp only [V.beq_refl, Bool.and_true]) (
sat_ob trivial (
sat_ob trivial (
sat_ob (pMay_fine a) (
sat_ob trivial (
sat_leaf (rfl))))))))))))))))))))))))))))))))))))))))))))))))))))))))))))))))
theorem runLinkMe1_1 (a : Gw.Offer) (b : Gw.Offer) (hwa : loL (fineO a).wait = 1) : Run Tryz.prog 16 [.int .u32 4294967295, .agg a.vs, .agg b.vs] (tabH kT0 kT1 kT2 3) fun v _ => v = .bool true := run_plainU mixed (show TabX Tryz.prog noPX (oxLinkMe1_1 a b) from ((((((TabX.nil.addO ans_begun).addT (ans_fine noV)).addT (ans_may (fun n => match n with | 12 => some (.bool true) | 20 => some (.bool true) | 351 => some (.bool true) | _ => none))).addT (ans_deal (fun n => match n with | 151 => some (.tup [.agg [.int .i64 (dealL (fineO b) (fineO a)).baud, .int .i64 200, .int .i64 (dealL (fineO b) (fineO a)).win, .int .i64 (dealL (fineO b) (fineO a)).size, .int .i64 1], .bool true]) | 311 => some (.tup [.agg [.int .i64 (dealL (fineO a) (fineO b)).baud, .int .i64 200, .int .i64 (dealL (fineO a) (fineO b)).win, .int .i64 (dealL (fineO a) (fineO b)).size, .int .i64 (dealL (fineO a) (fineO b)).wait], .bool true]) | _ => none))).addT (ans_put noV)).addT (ans_get (fun n => match n with | 138 => some (.tup [.agg [.int .u32 1, .int .u32 2, .int .i64 0, .int .i64 1, .int .i64 (fineO a).baud, .int .i64 (fineO a).silent, .int .i64 (fineO a).win, .int .i64 (fineO a).size, .int .i64 (fineO a).wait], .bool true]) | 298 => some (.tup [.agg [.int .u32 2, .int .u32 1, .int .i64 0, .int .i64 1, .int .i64 (fineO b).baud, .int .i64 (fineO b).silent, .int .i64 (fineO b).win, .int .i64 (fineO b).size, .int .i64 (fineO b).wait], .bool true]) | _ => none)))) tabD (dIs (by kernel_rfl)) (treeLinkMe1_1_eq a b) (satLinkMe1_1 a b hwa)
def oxLinkMe1_2 (id : Int) (a : Gw.Offer) (b : Gw.Offer) : OTab := (consT 79 (gD dGet pGet (fun n => match n with | 138 => some (.tup [.agg [.int .u32 1, .int .u32 2, .int .i64 0, .int .i64 1, .int .i64 (fineO a).baud, .int .i64 (fineO a).silent, .int .i64 (fineO a).win, .int .i64 (fineO a).size, .int .i64 (fineO a).wait], .bool true]) | 298 => some (.tup [.agg [.int .u32 2, .int .u32 1, .int .i64 0, .int .i64 1, .int .i64 (fineO b).baud, .int .i64 (fineO b).silent, .int .i64 (fineO b).win, .int .i64 (fineO b).size, .int .i64 (fineO b).wait], .bool true]) | _ => none)) (consT 106 (gD dPut pPut noV) (consT 80 (gDT kT0 kT1 kT2 dDeal pDeal (fun n => match n with | 151 => some (.tup [.agg [.int .i64 (dealL (fineO b) (fineO a)).baud, .int .i64 200, .int .i64 (dealL (fineO b) (fineO a)).win, .int .i64 (dealL (fineO b) (fineO a)).size, .int .i64 1], .bool true]) | 311 => some (.tup [.agg [.int .i64 (dealL (fineO a) (fineO b)).baud, .int .i64 200, .int .i64 (dealL (fineO a) (fineO b)).win, .int .i64 (dealL (fineO a) (fineO b)).size, .int .i64 (dealL (fineO a) (fineO b)).wait], .bool true]) | _ => none)) (consT 76 (gD dOff pMayQ (fun n => match n with | 12 => some (.bool true) | 20 => some (.bool true) | 351 => some (.bool true) | _ => none)) (consT 20 (gD dOff pFine noV) (consO 19 (gTrue kT0 kT1 kT2) noOX))))))
def treeLinkMe1_2 (id : Int) (a : Gw.Offer) (b : Gw.Offer) : DT V :=
  .ob (dOff [.agg [.int .i64 a.baud, .int .i64 a.silent, .int .i64 a.win, .int .i64 a.size, .int .i64 a.wait]]) (
.ob (((V.beq (.agg [.int .i64 b.baud, .int .i64 b.silent, .int .i64 b.win, .int .i64 b.size, .int .i64 b.wait]) (.agg [.int .i64 b.baud, .int .i64 b.silent, .int .i64 b.win, .int .i64 b.size, .int .i64 b.wait])) && true) = true) (
.ob (dOff [.agg [.int .i64 b.baud, .int .i64 b.silent, .int .i64 b.win, .int .i64 b.size, .int .i64 b.wait]]) (
.ob (dOff [.agg [.int .i64 (fineO a).baud, .int .i64 (fineO a).silent, .int .i64 (fineO a).win, .int .i64 (fineO a).size, .int .i64 (fineO a).wait]]) (
.ob (pMayQ [.agg [.int .i64 (fineO a).baud, .int .i64 (fineO a).silent, .int .i64 (fineO a).win, .int .i64 (fineO a).size, .int .i64 (fineO a).wait]] = (.bool true)) (
.ob (((V.beq (.agg [.int .i64 (fineO b).baud, .int .i64 (fineO b).silent, .int .i64 (fineO b).win, .int .i64 (fineO b).size, .int .i64 (fineO b).wait]) (.agg [.int .i64 (fineO b).baud, .int .i64 (fineO b).silent, .int .i64 (fineO b).win, .int .i64 (fineO b).size, .int .i64 (fineO b).wait])) && true) = true) (
.ob (dOff [.agg [.int .i64 (fineO b).baud, .int .i64 (fineO b).silent, .int .i64 (fineO b).win, .int .i64 (fineO b).size, .int .i64 (fineO b).wait]]) (
.ob (pMayQ [.agg [.int .i64 (fineO b).baud, .int .i64 (fineO b).silent, .int .i64 (fineO b).win, .int .i64 (fineO b).size, .int .i64 (fineO b).wait]] = (.bool true)) (
.ob (((eqV (.agg [.i, .i, .i, .s]) (.agg [.int .i64 2, .int .i64 0, .int .u32 2, .str []]) (.agg [.int .i64 2, .int .i64 0, .int .u32 2, .str []])).map fun b => V.bool (if false then !b else b)) = some (.bool true)) (
.ob (binV .neq (.int .u32 2) (.int .u32 0) = some (.bool true)) (
.ob (binV .neq (.int .u32 2) (.int .u32 4294967295) = some (.bool true)) (
.ob (binV .eql (.int .u32 2) (.int .u32 1) = some (.bool false)) (
.ob (IntKind.i64 = IntKind.i64 ∧ (250 : Int) ≠ 0) (
.ob (((V.beq (.int .u32 2) (.int .u32 2)) && true) = true) (
.ob (((V.beq (.int .u32 2) (.int .u32 2)) && true) = true) (
.ob (dPut [.agg [.int .u32 1, .int .u32 2, .int .i64 0, .int .i64 1, .int .i64 (fineO a).baud, .int .i64 (fineO a).silent, .int .i64 (fineO a).win, .int .i64 (fineO a).size, .int .i64 (fineO a).wait]]) (
.ob (9 = 9 ∧ 0 ≤ (0 : Int) ∧ (0 : Int) < ((1 : Nat) : Int)) (
.ob (Gw.lenStr (.str (setupStr ⟨1, 2, 0, 1, (fineO a)⟩)) = some (.int .i64 25)) (
.ob (Gw.lenStr (.str (setupStr ⟨1, 2, 0, 1, (fineO a)⟩)) = some (.int .i64 25)) (
.ob (((V.beq (.str (setupStr ⟨1, 2, 0, 1, (fineO a)⟩)) (.str (setupStr ⟨1, 2, 0, 1, (fineO a)⟩))) && ((V.beq (.bool true) (.bool true)) && ((V.beq (.agg [.int .i64 127, .int .i64 255]) (.agg [.int .i64 127, .int .i64 255])) && true))) = true) (
.ob (((V.beq (.int .i64 2) (.int .i64 2)) && true) = true) (
.ob (((V.beq (.agg [.int .i64 127, .int .i64 255, .bool true, .int .i64 3, .int .i64 2, .int .i64 0, .int .i64 0, .bool true, .str (setupStr ⟨1, 2, 0, 1, (fineO a)⟩)]) (.agg [.int .i64 127, .int .i64 255, .bool true, .int .i64 3, .int .i64 2, .int .i64 0, .int .i64 0, .bool true, .str (setupStr ⟨1, 2, 0, 1, (fineO a)⟩)])) && true) = true) (
.ob (((eqV (.agg [.i, .i, .b, .i, .i, .i, .i, .b, .s]) (.agg [.int .i64 127, .int .i64 255, .bool true, .int .i64 3, .int .i64 2, .int .i64 0, .int .i64 0, .bool true, .str (setupStr ⟨1, 2, 0, 1, (fineO a)⟩)]) (.agg [.int .i64 127, .int .i64 255, .bool true, .int .i64 3, .int .i64 2, .int .i64 0, .int .i64 0, .bool true, .str (setupStr ⟨1, 2, 0, 1, (fineO a)⟩)])).map fun b => V.bool (if true then !b else b)) = some (.bool false)) (
.ob (((V.beq (.agg [.int .i64 127, .int .i64 255]) (.agg [.int .i64 127, .int .i64 255])) && true) = true) (
.ob (True) (
.ob (dGet [.str (setupStr ⟨1, 2, 0, 1, (fineO a)⟩)]) (
.ob (pGet [.str (setupStr ⟨1, 2, 0, 1, (fineO a)⟩)] = (.tup [.agg [.int .u32 1, .int .u32 2, .int .i64 0, .int .i64 1, .int .i64 (fineO a).baud, .int .i64 (fineO a).silent, .int .i64 (fineO a).win, .int .i64 (fineO a).size, .int .i64 (fineO a).wait], .bool true])) (
.ob (dDeal [.agg [.int .i64 (fineO b).baud, .int .i64 (fineO b).silent, .int .i64 (fineO b).win, .int .i64 (fineO b).size, .int .i64 (fineO b).wait], .agg [.int .i64 (fineO a).baud, .int .i64 (fineO a).silent, .int .i64 (fineO a).win, .int .i64 (fineO a).size, .int .i64 (fineO a).wait]]) (
.ob (pDeal [.agg [.int .i64 (fineO b).baud, .int .i64 (fineO b).silent, .int .i64 (fineO b).win, .int .i64 (fineO b).size, .int .i64 (fineO b).wait], .agg [.int .i64 (fineO a).baud, .int .i64 (fineO a).silent, .int .i64 (fineO a).win, .int .i64 (fineO a).size, .int .i64 (fineO a).wait]] = (.tup [.agg [.int .i64 (dealL (fineO b) (fineO a)).baud, .int .i64 200, .int .i64 (dealL (fineO b) (fineO a)).win, .int .i64 (dealL (fineO b) (fineO a)).size, .int .i64 1], .bool true])) (
.ob (((V.beq (.int .i64 (dealL (fineO b) (fineO a)).size) (.int .i64 (dealL (fineO b) (fineO a)).size)) && true) = true) (
.ob (((V.beq (.int .i64 (dealL (fineO b) (fineO a)).size) (.int .i64 (dealL (fineO b) (fineO a)).size)) && true) = true) (
.ob (((V.beq (.agg [.int .i64 (dealL (fineO b) (fineO a)).baud, .int .i64 200, .int .i64 (dealL (fineO b) (fineO a)).win, .int .i64 (dealL (fineO b) (fineO a)).size, .int .i64 1]) (.agg [.int .i64 (dealL (fineO b) (fineO a)).baud, .int .i64 200, .int .i64 (dealL (fineO b) (fineO a)).win, .int .i64 (dealL (fineO b) (fineO a)).size, .int .i64 1])) && ((V.beq (.agg [.int .i64 0, .int .i64 1]) (.agg [.int .i64 0, .int .i64 1])) && true)) = true) (
.ob (((V.beq (.agg [.int .i64 (dealL (fineO b) (fineO a)).baud, .int .i64 200, .int .i64 (dealL (fineO b) (fineO a)).win, .int .i64 (dealL (fineO b) (fineO a)).size, .int .i64 1]) (.agg [.int .i64 (dealL (fineO b) (fineO a)).baud, .int .i64 200, .int .i64 (dealL (fineO b) (fineO a)).win, .int .i64 (dealL (fineO b) (fineO a)).size, .int .i64 1])) && ((V.beq (.agg [.int .i64 0, .int .i64 1]) (.agg [.int .i64 0, .int .i64 1])) && true)) = true) (
.ob (((V.beq (.agg [.int .i64 (dealL (fineO b) (fineO a)).baud, .int .i64 200, .int .i64 (dealL (fineO b) (fineO a)).win, .int .i64 (dealL (fineO b) (fineO a)).size, .int .i64 1]) (.agg [.int .i64 (dealL (fineO b) (fineO a)).baud, .int .i64 200, .int .i64 (dealL (fineO b) (fineO a)).win, .int .i64 (dealL (fineO b) (fineO a)).size, .int .i64 1])) && ((V.beq (.agg [.int .i64 0, .int .i64 1]) (.agg [.int .i64 0, .int .i64 1])) && true)) = true) (
.ob (((V.beq (.agg [.int .i64 (dealL (fineO b) (fineO a)).baud, .int .i64 200, .int .i64 (dealL (fineO b) (fineO a)).win, .int .i64 (dealL (fineO b) (fineO a)).size, .int .i64 1]) (.agg [.int .i64 (dealL (fineO b) (fineO a)).baud, .int .i64 200, .int .i64 (dealL (fineO b) (fineO a)).win, .int .i64 (dealL (fineO b) (fineO a)).size, .int .i64 1])) && true) = true) (
.ob (((V.beq (.int .i64 1) (.int .i64 1)) && true) = true) (
.ob (((V.beq (.int .i64 1) (.int .i64 1)) && true) = true) (
.ob (((V.beq (.int .i64 1) (.int .i64 1)) && true) = true) (
.ob (dPut [.agg [.int .u32 2, .int .u32 1, .int .i64 0, .int .i64 1, .int .i64 (fineO b).baud, .int .i64 (fineO b).silent, .int .i64 (fineO b).win, .int .i64 (fineO b).size, .int .i64 (fineO b).wait]]) (
.ob (9 = 9 ∧ 0 ≤ (0 : Int) ∧ (0 : Int) < ((1 : Nat) : Int)) (
.ob (Gw.lenStr (.str (setupStr ⟨2, 1, 0, 1, (fineO b)⟩)) = some (.int .i64 25)) (
.ob (Gw.lenStr (.str (setupStr ⟨2, 1, 0, 1, (fineO b)⟩)) = some (.int .i64 25)) (
.ob (((V.beq (.str (setupStr ⟨2, 1, 0, 1, (fineO b)⟩)) (.str (setupStr ⟨2, 1, 0, 1, (fineO b)⟩))) && ((V.beq (.bool false) (.bool false)) && ((V.beq (.agg [.int .i64 127, .int .i64 255]) (.agg [.int .i64 127, .int .i64 255])) && true))) = true) (
.ob (((V.beq (.int .i64 3) (.int .i64 3)) && true) = true) (
.ob (((V.beq (.agg [.int .i64 127, .int .i64 255, .bool false, .int .i64 3, .int .i64 3, .int .i64 0, .int .i64 0, .bool true, .str (setupStr ⟨2, 1, 0, 1, (fineO b)⟩)]) (.agg [.int .i64 127, .int .i64 255, .bool false, .int .i64 3, .int .i64 3, .int .i64 0, .int .i64 0, .bool true, .str (setupStr ⟨2, 1, 0, 1, (fineO b)⟩)])) && true) = true) (
.ob (((eqV (.agg [.i, .i, .b, .i, .i, .i, .i, .b, .s]) (.agg [.int .i64 127, .int .i64 255, .bool false, .int .i64 3, .int .i64 3, .int .i64 0, .int .i64 0, .bool true, .str (setupStr ⟨2, 1, 0, 1, (fineO b)⟩)]) (.agg [.int .i64 127, .int .i64 255, .bool false, .int .i64 3, .int .i64 3, .int .i64 0, .int .i64 0, .bool true, .str (setupStr ⟨2, 1, 0, 1, (fineO b)⟩)])).map fun b => V.bool (if true then !b else b)) = some (.bool false)) (
.ob (((V.beq (.agg [.int .i64 127, .int .i64 255]) (.agg [.int .i64 127, .int .i64 255])) && true) = true) (
.ob (True) (
.ob (dGet [.str (setupStr ⟨2, 1, 0, 1, (fineO b)⟩)]) (
.ob (pGet [.str (setupStr ⟨2, 1, 0, 1, (fineO b)⟩)] = (.tup [.agg [.int .u32 2, .int .u32 1, .int .i64 0, .int .i64 1, .int .i64 (fineO b).baud, .int .i64 (fineO b).silent, .int .i64 (fineO b).win, .int .i64 (fineO b).size, .int .i64 (fineO b).wait], .bool true])) (
.ob (dDeal [.agg [.int .i64 (fineO a).baud, .int .i64 (fineO a).silent, .int .i64 (fineO a).win, .int .i64 (fineO a).size, .int .i64 (fineO a).wait], .agg [.int .i64 (fineO b).baud, .int .i64 (fineO b).silent, .int .i64 (fineO b).win, .int .i64 (fineO b).size, .int .i64 (fineO b).wait]]) (
.ob (pDeal [.agg [.int .i64 (fineO a).baud, .int .i64 (fineO a).silent, .int .i64 (fineO a).win, .int .i64 (fineO a).size, .int .i64 (fineO a).wait], .agg [.int .i64 (fineO b).baud, .int .i64 (fineO b).silent, .int .i64 (fineO b).win, .int .i64 (fineO b).size, .int .i64 (fineO b).wait]] = (.tup [.agg [.int .i64 (dealL (fineO a) (fineO b)).baud, .int .i64 200, .int .i64 (dealL (fineO a) (fineO b)).win, .int .i64 (dealL (fineO a) (fineO b)).size, .int .i64 (dealL (fineO a) (fineO b)).wait], .bool true])) (
.ob (True) (
.ob (((V.beq (.int .i64 (dealL (fineO a) (fineO b)).size) (.int .i64 (dealL (fineO a) (fineO b)).size)) && true) = true) (
.ob (((V.beq (.int .i64 (dealL (fineO a) (fineO b)).size) (.int .i64 (dealL (fineO a) (fineO b)).size)) && true) = true) (
.ob (((V.beq (.agg [.int .i64 (dealL (fineO a) (fineO b)).baud, .int .i64 200, .int .i64 (dealL (fineO a) (fineO b)).win, .int .i64 (dealL (fineO a) (fineO b)).size, .int .i64 (dealL (fineO a) (fineO b)).wait]) (.agg [.int .i64 (dealL (fineO a) (fineO b)).baud, .int .i64 200, .int .i64 (dealL (fineO a) (fineO b)).win, .int .i64 (dealL (fineO a) (fineO b)).size, .int .i64 (dealL (fineO a) (fineO b)).wait])) && ((V.beq (.agg [.int .i64 0, .int .i64 1]) (.agg [.int .i64 0, .int .i64 1])) && true)) = true) (
.ob (((V.beq (.agg [.int .i64 (dealL (fineO a) (fineO b)).baud, .int .i64 200, .int .i64 (dealL (fineO a) (fineO b)).win, .int .i64 (dealL (fineO a) (fineO b)).size, .int .i64 (dealL (fineO a) (fineO b)).wait]) (.agg [.int .i64 (dealL (fineO a) (fineO b)).baud, .int .i64 200, .int .i64 (dealL (fineO a) (fineO b)).win, .int .i64 (dealL (fineO a) (fineO b)).size, .int .i64 (dealL (fineO a) (fineO b)).wait])) && ((V.beq (.agg [.int .i64 0, .int .i64 1]) (.agg [.int .i64 0, .int .i64 1])) && true)) = true) (
.ob (((V.beq (.agg [.int .i64 (dealL (fineO a) (fineO b)).baud, .int .i64 200, .int .i64 (dealL (fineO a) (fineO b)).win, .int .i64 (dealL (fineO a) (fineO b)).size, .int .i64 (dealL (fineO a) (fineO b)).wait]) (.agg [.int .i64 (dealL (fineO a) (fineO b)).baud, .int .i64 200, .int .i64 (dealL (fineO a) (fineO b)).win, .int .i64 (dealL (fineO a) (fineO b)).size, .int .i64 (dealL (fineO a) (fineO b)).wait])) && ((V.beq (.agg [.int .i64 0, .int .i64 1]) (.agg [.int .i64 0, .int .i64 1])) && true)) = true) (
.ob (((V.beq (.agg [.int .i64 (dealL (fineO a) (fineO b)).baud, .int .i64 200, .int .i64 (dealL (fineO a) (fineO b)).win, .int .i64 (dealL (fineO a) (fineO b)).size, .int .i64 (dealL (fineO a) (fineO b)).wait]) (.agg [.int .i64 (dealL (fineO a) (fineO b)).baud, .int .i64 200, .int .i64 (dealL (fineO a) (fineO b)).win, .int .i64 (dealL (fineO a) (fineO b)).size, .int .i64 (dealL (fineO a) (fineO b)).wait])) && true) = true) (
.ob (((V.beq (.int .i64 (dealL (fineO a) (fineO b)).wait) (.int .i64 (dealL (fineO a) (fineO b)).wait)) && true) = true) (
.ob (((V.beq (.int .i64 (dealL (fineO a) (fineO b)).wait) (.int .i64 (dealL (fineO a) (fineO b)).wait)) && true) = true) (
.ob (((V.beq (.int .i64 (dealL (fineO a) (fineO b)).wait) (.int .i64 (dealL (fineO a) (fineO b)).wait)) && true) = true) (
.ob (dOff [.agg [.int .i64 a.baud, .int .i64 a.silent, .int .i64 a.win, .int .i64 a.size, .int .i64 a.wait]]) (
.ob (dOff [.agg [.int .i64 (fineO a).baud, .int .i64 (fineO a).silent, .int .i64 (fineO a).win, .int .i64 (fineO a).size, .int .i64 (fineO a).wait]]) (
.ob (pMayQ [.agg [.int .i64 (fineO a).baud, .int .i64 (fineO a).silent, .int .i64 (fineO a).win, .int .i64 (fineO a).size, .int .i64 (fineO a).wait]] = (.bool true)) (
.ob (binV .neq (.int .u32 id) (.int .u32 0) = some (.bool true)) (
.ob (binV .neq (.int .u32 id) (.int .u32 4294967295) = some (.bool true)) (
.ob (binV .eql (.int .u32 id) (.int .u32 0) = some (.bool false)) (
.ob (binV .eql (.int .u32 id) (.int .u32 4294967295) = some (.bool false)) (
.ob (((eqV (.agg [.i, .i, .i, .s]) (.agg [.int .i64 2, .int .i64 0, .int .u32 id, .str []]) (.agg [.int .i64 2, .int .i64 0, .int .u32 id, .str []])).map fun b => V.bool (if false then !b else b)) = some (.bool true)) (
.ob (binV .neq (.int .u32 id) (.int .u32 0) = some (.bool true)) (
.ob (binV .neq (.int .u32 id) (.int .u32 4294967295) = some (.bool true)) (
.ob (binV .eql (.int .u32 id) (.int .u32 id) = some (.bool true)) (
.leaf (.bool true))))))))))))))))))))))))))))))))))))))))))))))))))))))))))))))))))))))))))
set_option maxRecDepth 1000000 in
theorem treeLinkMe1_2_eq (id : Int) (a : Gw.Offer) (b : Gw.Offer) : funT (mkXT (noPX) (oxLinkMe1_2 id a b)) (mkXP (noPX)) (mkX (noPX) (oxLinkMe1_2 id a b)) D (fun g => match g with | 56 => (fun k => match k with | 40 => some fun t h => (match h.n with | 35 => (.bool true, h) | _ => (.bool true, h)) | 44 => some fun t h => (match h.n with | 35 => (.bool true, h) | _ => (.bool true, h)) | 49 => some fun t h => (match h.n with | 35 => (.bool true, h) | _ => (.bool true, h)) | _ => none) | 22 => (fun k => match k with | 57 => some fun t h => (match h.n with | 35 => (.bool false, h) | _ => (.bool true, h)) | _ => none) | 113 => (fun k => match k with | 38 => some fun t h => (match h.n with | 93 => (.int .i64 25, h) | 112 => (.int .i64 25, h) | 253 => (.int .i64 25, h) | _ => (.int .i64 25, h)) | _ => none) | 77 => (fun k => match k with | 52 => some fun t h => (match h.n with | 128 => (.bool false, h) | _ => (.bool false, h)) | _ => none) | 42 => (fun k => match k with | 16 => some fun t h => (.bool false, h) | 20 => some fun t h => (.bool false, h) | _ => none) | _ => noOrc) (fun k => match k with | 16 => [13, 38, 41, 45, 47, 51, 59, 63] | 21 => [31, 41, 49, 60, 69, 72, 76] | 22 => [10, 15, 20, 25, 30, 31, 37, 41, 50, 57] | 26 => [15, 22, 31, 52, 58] | 35 => [8, 11, 15, 19, 23] | 39 => [16, 25, 30, 36, 39, 44, 47, 57, 67, 82, 86, 99] | 42 => [12, 16, 20] | 56 => [10, 33, 40, 44, 49] | 60 => [8, 25, 32] | 62 => [28, 30] | 77 => [8, 15, 26, 37, 41, 46, 52] | 81 => [14, 20, 28] | 82 => [13] | 107 => [10] | 113 => [11, 16, 20, 25, 30, 34, 39] | 114 => [8, 14, 19, 24, 34, 44] | 146 => [6, 9, 20] | 165 => [8, 19, 30, 34, 38] | 166 => [8, 13, 18, 21] | _ => []) 12 (fun k => match k with | 38 => some fun t h => (.bool true, h) | 41 => some fun t h => (.bool true, h) | _ => none) [13, 38, 41, 45, 47, 51, 59, 63] (noLt) (dOf 16) [.int .u32 id, .agg a.vs, .agg b.vs] (tabH kT0 kT1 kT2 3) (fun v _ => v) = treeLinkMe1_2 id a b := by kernel_rfl
theorem satLinkMe1_2 (id : Int) (a : Gw.Offer) (b : Gw.Offer) (h0 : id ≠ 0) (h1 : id ≠ 4294967295) (hwa : loL (fineO a).wait = 1) : (treeLinkMe1_2 id a b).sat fun v => v = .bool true :=
 sat_ob trivial (
sat_ob (by simp only [V.beq_refl, Bool.and_true]) (
sat_ob trivial (
sat_ob trivial (
sat_ob (pMay_fine a) (
sat_ob (by simp only [V.beq_refl, Bool.and_true]) (
sat_ob trivial (
sat_ob (pMay_fine b) (
sat_ob (by simp [eqV, eqCells]) (
sat_ob (by first | rfl | simp [binV, binI, eqV, eqCells]) (
sat_ob (by first | rfl | simp [binV, binI, eqV, eqCells]) (
sat_ob (by first | rfl | simp [binV, binI, eqV, eqCells]) (
sat_ob (by decide) (
sat_ob (by simp only [V.beq_refl, Bool.and_true]) (
sat_ob (by simp only [V.beq_refl, Bool.and_true]) (
sat_ob (okSet 1 2 0 1 a (by decide) (by decide) (by decide) (by decide)) (
sat_ob (by decide) (
sat_ob rfl (
sat_ob rfl (
sat_ob (by simp only [V.beq_refl, Bool.and_true]) (
sat_ob (by simp only [V.beq_refl, Bool.and_true]) (
sat_ob (by simp only [V.beq_refl, Bool.and_true]) (
sat_ob (by simp [eqV, eqCells]) (
sat_ob (by simp only [V.beq_refl, Bool.and_true]) (
sat_ob trivial (
sat_ob ⟨⟨1, 2, 0, 1, (fineO a)⟩, (okSet 1 2 0 1 a (by decide) (by decide) (by decide) (by decide)), rfl⟩ (
sat_ob (get_put ⟨1, 2, 0, 1, (fineO a)⟩ (okSet 1 2 0 1 a (by decide) (by decide) (by decide) (by decide))) (
sat_ob ⟨mayO_fine b, mayO_fine a⟩ (
sat_ob (by show V.tup [.agg [.int .i64 _, .int .i64 _, .int .i64 _, .int .i64 _, .int .i64 (loL (fineO a).wait)], .bool true] = _; rw [hwa]; rfl) (
sat_ob (by simp only [V.beq_refl, Bool.and_true]) (
sat_ob (by simp only [V.beq_refl, Bool.and_true]) (
sat_ob (by simp only [V.beq_refl, Bool.and_true]) (
sat_ob (by simp only [V.beq_refl, Bool.and_true]) (
sat_ob (by simp only [V.beq_refl, Bool.and_true]) (
sat_ob (by simp only [V.beq_refl, Bool.and_true]) (
sat_ob (by simp only [V.beq_refl, Bool.and_true]) (
sat_ob (by simp only [V.beq_refl, Bool.and_true]) (
sat_ob (by simp only [V.beq_refl, Bool.and_true]) (
sat_ob (okSet 2 1 0 1 b (by decide) (by decide) (by decide) (by decide)) (
sat_ob (by decide) (
sat_ob rfl (
sat_ob rfl (
sat_ob (by simp only [V.beq_refl, Bool.and_true]) (
sat_ob (by simp only [V.beq_refl, Bool.and_true]) (
sat_ob (by simp only [V.beq_refl, Bool.and_true]) (
sat_ob (by simp [eqV, eqCells]) (
sat_ob (by simp only [V.beq_refl, Bool.and_true]) (
sat_ob trivial (
sat_ob ⟨⟨2, 1, 0, 1, (fineO b)⟩, (okSet 2 1 0 1 b (by decide) (by decide) (by decide) (by decide)), rfl⟩ (
sat_ob (get_put ⟨2, 1, 0, 1, (fineO b)⟩ (okSet 2 1 0 1 b (by decide) (by decide) (by decide) (by decide))) (
sat_ob ⟨mayO_fine a, mayO_fine b⟩ (
sat_ob (by rfl) (
sat_ob trivial (
sat_ob (by simp only [V.beq_refl, Bool.and_true]) (
sat_ob (by simp only [V.beq_refl, Bool.and_true]) (
sat_ob (by simp only [V.beq_refl, Bool.and_true]) (
sat_ob (by simp only [V.beq_refl, Bool.and_true]) (
sat_ob (by simp only [V.beq_refl, Bool.and_true]) (
sat_ob (by simp only [V.beq_refl, Bool.and_true]) (
sat_ob (by simp only [V.beq_refl, Bool.and_true]) (
sat_ob (by simp only [V.beq_refl, Bool.and_true]) (
sat_ob (by simp only [V.beq_refl, Bool.and_true]) (
sat_ob trivial (
sat_ob trivial (
sat_ob (pMay_fine a) (
sat_ob (by simp [binV, binI, h0, h1]) (
sat_ob (by simp [binV, binI, h0, h1]) (
sat_ob (by simp [binV, binI, h0, h1]) (
sat_ob (by simp [binV, binI, h0, h1]) (
sat_ob (by simp [eqV, eqCells]) (
sat_ob (by simp [binV, binI, h0, h1]) (
sat_ob (by simp [binV, binI, h0, h1]) (
sat_ob (by simp [binV, binI, h0, h1]) (
sat_leaf (rfl))))))))))))))))))))))))))))))))))))))))))))))))))))))))))))))))))))))))))
theorem runLinkMe1_2 (id : Int) (a : Gw.Offer) (b : Gw.Offer) (h0 : id ≠ 0) (h1 : id ≠ 4294967295) (hwa : loL (fineO a).wait = 1) : Run Tryz.prog 16 [.int .u32 id, .agg a.vs, .agg b.vs] (tabH kT0 kT1 kT2 3) fun v _ => v = .bool true := run_plainU mixed (show TabX Tryz.prog noPX (oxLinkMe1_2 id a b) from ((((((TabX.nil.addO ans_begun).addT (ans_fine noV)).addT (ans_may (fun n => match n with | 12 => some (.bool true) | 20 => some (.bool true) | 351 => some (.bool true) | _ => none))).addT (ans_deal (fun n => match n with | 151 => some (.tup [.agg [.int .i64 (dealL (fineO b) (fineO a)).baud, .int .i64 200, .int .i64 (dealL (fineO b) (fineO a)).win, .int .i64 (dealL (fineO b) (fineO a)).size, .int .i64 1], .bool true]) | 311 => some (.tup [.agg [.int .i64 (dealL (fineO a) (fineO b)).baud, .int .i64 200, .int .i64 (dealL (fineO a) (fineO b)).win, .int .i64 (dealL (fineO a) (fineO b)).size, .int .i64 (dealL (fineO a) (fineO b)).wait], .bool true]) | _ => none))).addT (ans_put noV)).addT (ans_get (fun n => match n with | 138 => some (.tup [.agg [.int .u32 1, .int .u32 2, .int .i64 0, .int .i64 1, .int .i64 (fineO a).baud, .int .i64 (fineO a).silent, .int .i64 (fineO a).win, .int .i64 (fineO a).size, .int .i64 (fineO a).wait], .bool true]) | 298 => some (.tup [.agg [.int .u32 2, .int .u32 1, .int .i64 0, .int .i64 1, .int .i64 (fineO b).baud, .int .i64 (fineO b).silent, .int .i64 (fineO b).win, .int .i64 (fineO b).size, .int .i64 (fineO b).wait], .bool true]) | _ => none)))) tabD (dIs (by kernel_rfl)) (treeLinkMe1_2_eq id a b) (satLinkMe1_2 id a b h0 h1 hwa)
end Go.Proofs.YtbkgcdncdaeiaaaGreatDoor
