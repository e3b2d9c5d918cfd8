/- LinkChange: its trees. -/
import Derived.Test.YtbkgcdncdaeiaaaGreatDoorGxE3
import Derived.Test.YtbkgcdncdaeiaaaGreatDoorGxLD
import Derived.Test.YtbkgcdncdaeiaaaGreatDoorGxQ
noncomputable section
namespace Go.Proofs.YtbkgcdncdaeiaaaGreatDoor
open Go Gw Go.RowKit
set_option linter.unusedSimpArgs false
set_option linter.unusedVariables false
def oxLinkChange0_0f (a : Gw.Offer) (b : Gw.Offer) : OTab := (consT 79 (gD dGet pGet (fun n => match n with | 138 => some (.tup [.agg [.int .u32 1, .int .u32 2, .int .i64 0, .int .i64 1, .int .i64 (fineO a).baud, .int .i64 (fineO a).silent, .int .i64 (fineO a).win, .int .i64 (fineO a).size, .int .i64 (fineO a).wait], .bool true]) | 298 => some (.tup [.agg [.int .u32 2, .int .u32 1, .int .i64 0, .int .i64 1, .int .i64 (fineO b).baud, .int .i64 (fineO b).silent, .int .i64 (fineO b).win, .int .i64 (fineO b).size, .int .i64 (fineO b).wait], .bool true]) | _ => none)) (consT 106 (gD dPut pPut noV) (consT 80 (gDT kT0 kT1 kT2 dDeal pDeal (fun n => match n with | 151 => some (.tup [.agg (dv b a 0), .bool true]) | 311 => some (.tup [.agg (dv a b 0), .bool true]) | _ => none)) (consT 76 (gD dOff pMayQ (fun n => match n with | 12 => some (.bool true) | 20 => some (.bool true) | _ => none)) (consT 20 (gD dOff pFine noV) (consO 19 (gTrue kT0 kT1 kT2) noOX))))))
def treeLinkChange0_0f (a : Gw.Offer) (b : Gw.Offer) : DT V :=
  .ob (dOff [.agg a.vs]) (
.ob (((V.beq (.agg b.vs) (.agg b.vs)) && true) = true) (
.ob (dOff [.agg b.vs]) (
.ob (dOff [.agg (fineO a).vs]) (
.ob (pMayQ [.agg (fineO a).vs] = (.bool true)) (
.ob (((V.beq (.agg (fineO b).vs) (.agg (fineO b).vs)) && true) = true) (
.ob (dOff [.agg (fineO b).vs]) (
.ob (pMayQ [.agg (fineO b).vs] = (.bool true)) (
.ob (True) (
.ob (IntKind.i64 = IntKind.i64 ∧ (250 : Int) ≠ 0) (
.ob (((V.beq (.int .u32 2) (.int .u32 2)) && true) = true) (
.ob (((V.beq (.int .u32 2) (.int .u32 2)) && true) = true) (
.ob (dPut [.agg [.int .u32 1, .int .u32 2, .int .i64 0, .int .i64 1, .int .i64 (fineO a).baud, .int .i64 (fineO a).silent, .int .i64 (fineO a).win, .int .i64 (fineO a).size, .int .i64 (fineO a).wait]]) (
.ob (9 = 9 ∧ 0 ≤ (0 : Int) ∧ (0 : Int) < ((1 : Nat) : Int)) (
.ob (Gw.lenStr (.str (setupStr ⟨1, 2, 0, 1, (fineO a)⟩)) = some (.int .i64 25)) (
.ob (Gw.lenStr (.str (setupStr ⟨1, 2, 0, 1, (fineO a)⟩)) = some (.int .i64 25)) (
.ob (((V.beq (.str (setupStr ⟨1, 2, 0, 1, (fineO a)⟩)) (.str (setupStr ⟨1, 2, 0, 1, (fineO a)⟩))) && ((V.beq (.bool true) (.bool true)) && ((V.beq (.agg [.int .i64 127, .int .i64 255]) (.agg [.int .i64 127, .int .i64 255])) && true))) = true) (
.ob (((V.beq (.int .i64 2) (.int .i64 2)) && true) = true) (
.ob (((V.beq (.agg [.int .i64 127, .int .i64 255, .bool true, .int .i64 3, .int .i64 2, .int .i64 0, .int .i64 0, .bool true, .str (setupStr ⟨1, 2, 0, 1, (fineO a)⟩)]) (.agg [.int .i64 127, .int .i64 255, .bool true, .int .i64 3, .int .i64 2, .int .i64 0, .int .i64 0, .bool true, .str (setupStr ⟨1, 2, 0, 1, (fineO a)⟩)])) && true) = true) (
.ob (((eqV (.agg [.i, .i, .b, .i, .i, .i, .i, .b, .s]) (.agg [.int .i64 127, .int .i64 255, .bool true, .int .i64 3, .int .i64 2, .int .i64 0, .int .i64 0, .bool true, .str (setupStr ⟨1, 2, 0, 1, (fineO a)⟩)]) (.agg [.int .i64 127, .int .i64 255, .bool true, .int .i64 3, .int .i64 2, .int .i64 0, .int .i64 0, .bool true, .str (setupStr ⟨1, 2, 0, 1, (fineO a)⟩)])).map fun b => V.bool (if true then !b else b)) = some (.bool false)) (
.ob (((V.beq (.agg [.int .i64 127, .int .i64 255]) (.agg [.int .i64 127, .int .i64 255])) && true) = true) (
.ob (True) (
.ob (dGet [.str (setupStr ⟨1, 2, 0, 1, (fineO a)⟩)]) (
.ob (pGet [.str (setupStr ⟨1, 2, 0, 1, (fineO a)⟩)] = (.tup [.agg [.int .u32 1, .int .u32 2, .int .i64 0, .int .i64 1, .int .i64 (fineO a).baud, .int .i64 (fineO a).silent, .int .i64 (fineO a).win, .int .i64 (fineO a).size, .int .i64 (fineO a).wait], .bool true])) (
.ob (dDeal [.agg (fineO b).vs, .agg (fineO a).vs]) (
.ob (pDeal [.agg (fineO b).vs, .agg (fineO a).vs] = (.tup [.agg (dv b a 0), .bool true])) (
.ob (((V.beq (.int .i64 (dealL (fineO b) (fineO a)).size) (.int .i64 (dealL (fineO b) (fineO a)).size)) && true) = true) (
.ob (((V.beq (.int .i64 (dealL (fineO b) (fineO a)).size) (.int .i64 (dealL (fineO b) (fineO a)).size)) && true) = true) (
.ob (((V.beq (.agg (dv b a 0)) (.agg (dv b a 0))) && ((V.beq (.agg [.int .i64 0, .int .i64 1]) (.agg [.int .i64 0, .int .i64 1])) && true)) = true) (
.ob (((V.beq (.agg (dv b a 0)) (.agg (dv b a 0))) && ((V.beq (.agg [.int .i64 0, .int .i64 1]) (.agg [.int .i64 0, .int .i64 1])) && true)) = true) (
.ob (((V.beq (.agg (dv b a 0)) (.agg (dv b a 0))) && ((V.beq (.agg [.int .i64 0, .int .i64 1]) (.agg [.int .i64 0, .int .i64 1])) && true)) = true) (
.ob (((V.beq (.agg (dv b a 0)) (.agg (dv b a 0))) && true) = true) (
.ob (((V.beq (.int .i64 0) (.int .i64 0)) && true) = true) (
.ob (((V.beq (.int .i64 0) (.int .i64 0)) && true) = true) (
.ob (((V.beq (.int .i64 0) (.int .i64 0)) && true) = true) (
.ob (dPut [.agg [.int .u32 2, .int .u32 1, .int .i64 0, .int .i64 1, .int .i64 (fineO b).baud, .int .i64 (fineO b).silent, .int .i64 (fineO b).win, .int .i64 (fineO b).size, .int .i64 (fineO b).wait]]) (
.ob (9 = 9 ∧ 0 ≤ (0 : Int) ∧ (0 : Int) < ((1 : Nat) : Int)) (
.ob (Gw.lenStr (.str (setupStr ⟨2, 1, 0, 1, (fineO b)⟩)) = some (.int .i64 25)) (
.ob (Gw.lenStr (.str (setupStr ⟨2, 1, 0, 1, (fineO b)⟩)) = some (.int .i64 25)) (
.ob (((V.beq (.str (setupStr ⟨2, 1, 0, 1, (fineO b)⟩)) (.str (setupStr ⟨2, 1, 0, 1, (fineO b)⟩))) && ((V.beq (.bool false) (.bool false)) && ((V.beq (.agg [.int .i64 127, .int .i64 255]) (.agg [.int .i64 127, .int .i64 255])) && true))) = true) (
.ob (((V.beq (.int .i64 3) (.int .i64 3)) && true) = true) (
.ob (((V.beq (.agg [.int .i64 127, .int .i64 255, .bool false, .int .i64 3, .int .i64 3, .int .i64 0, .int .i64 0, .bool true, .str (setupStr ⟨2, 1, 0, 1, (fineO b)⟩)]) (.agg [.int .i64 127, .int .i64 255, .bool false, .int .i64 3, .int .i64 3, .int .i64 0, .int .i64 0, .bool true, .str (setupStr ⟨2, 1, 0, 1, (fineO b)⟩)])) && true) = true) (
.ob (((eqV (.agg [.i, .i, .b, .i, .i, .i, .i, .b, .s]) (.agg [.int .i64 127, .int .i64 255, .bool false, .int .i64 3, .int .i64 3, .int .i64 0, .int .i64 0, .bool true, .str (setupStr ⟨2, 1, 0, 1, (fineO b)⟩)]) (.agg [.int .i64 127, .int .i64 255, .bool false, .int .i64 3, .int .i64 3, .int .i64 0, .int .i64 0, .bool true, .str (setupStr ⟨2, 1, 0, 1, (fineO b)⟩)])).map fun b => V.bool (if true then !b else b)) = some (.bool false)) (
.ob (((V.beq (.agg [.int .i64 127, .int .i64 255]) (.agg [.int .i64 127, .int .i64 255])) && true) = true) (
.ob (True) (
.ob (dGet [.str (setupStr ⟨2, 1, 0, 1, (fineO b)⟩)]) (
.ob (pGet [.str (setupStr ⟨2, 1, 0, 1, (fineO b)⟩)] = (.tup [.agg [.int .u32 2, .int .u32 1, .int .i64 0, .int .i64 1, .int .i64 (fineO b).baud, .int .i64 (fineO b).silent, .int .i64 (fineO b).win, .int .i64 (fineO b).size, .int .i64 (fineO b).wait], .bool true])) (
.ob (dDeal [.agg (fineO a).vs, .agg (fineO b).vs]) (
.ob (pDeal [.agg (fineO a).vs, .agg (fineO b).vs] = (.tup [.agg (dv a b 0), .bool true])) (
.ob (True) (
.ob (((V.beq (.int .i64 (dealL (fineO a) (fineO b)).size) (.int .i64 (dealL (fineO a) (fineO b)).size)) && true) = true) (
.ob (((V.beq (.int .i64 (dealL (fineO a) (fineO b)).size) (.int .i64 (dealL (fineO a) (fineO b)).size)) && true) = true) (
.ob (((V.beq (.agg (dv a b 0)) (.agg (dv a b 0))) && ((V.beq (.agg [.int .i64 0, .int .i64 1]) (.agg [.int .i64 0, .int .i64 1])) && true)) = true) (
.ob (((V.beq (.agg (dv a b 0)) (.agg (dv a b 0))) && ((V.beq (.agg [.int .i64 0, .int .i64 1]) (.agg [.int .i64 0, .int .i64 1])) && true)) = true) (
.ob (((V.beq (.agg (dv a b 0)) (.agg (dv a b 0))) && ((V.beq (.agg [.int .i64 0, .int .i64 1]) (.agg [.int .i64 0, .int .i64 1])) && true)) = true) (
.ob (((V.beq (.agg (dv a b 0)) (.agg (dv a b 0))) && true) = true) (
.ob (((V.beq (.int .i64 0) (.int .i64 0)) && true) = true) (
.ob (((V.beq (.int .i64 0) (.int .i64 0)) && true) = true) (
.ob (((V.beq (.int .i64 0) (.int .i64 0)) && true) = true) (
.ob (True) (
.ob (True) (
.ob (9 = 9 ∧ 0 ≤ (0 : Int) ∧ (0 : Int) < ((1 : Nat) : Int)) (
.ob (9 = 9 ∧ 0 ≤ (0 : Int) ∧ (0 : Int) < ((1 : Nat) : Int)) (
.ob (Gw.lenStr (.str []) = some (.int .i64 0)) (
.ob (Gw.lenStr (.str []) = some (.int .i64 0)) (
.ob (((V.beq (.str []) (.str [])) && ((V.beq (.bool true) (.bool true)) && ((V.beq (.agg [.int .i64 0, .int .i64 1]) (.agg [.int .i64 0, .int .i64 1])) && true))) = true) (
.ob (((V.beq (.int .i64 6) (.int .i64 6)) && true) = true) (
.ob (((V.beq (.agg [.int .i64 0, .int .i64 1, .bool true, .int .i64 3, .int .i64 6, .int .i64 0, .int .i64 0, .bool true, .str []]) (.agg [.int .i64 0, .int .i64 1, .bool true, .int .i64 3, .int .i64 6, .int .i64 0, .int .i64 0, .bool true, .str []])) && true) = true) (
.ob (((eqV (.agg [.i, .i, .b, .i, .i, .i, .i, .b, .s]) (.agg [.int .i64 0, .int .i64 1, .bool true, .int .i64 3, .int .i64 6, .int .i64 0, .int .i64 0, .bool true, .str []]) (.agg [.int .i64 0, .int .i64 1, .bool true, .int .i64 3, .int .i64 6, .int .i64 0, .int .i64 0, .bool true, .str []])).map fun b => V.bool (if true then !b else b)) = some (.bool false)) (
.ob (((V.beq (.agg [.int .i64 0, .int .i64 1]) (.agg [.int .i64 0, .int .i64 1])) && true) = true) (
.ob (True) (
.ob (True) (
.ob (((V.beq (.bool true) (.bool true)) && true) = true) (
.ob ((4 = 4 ∧ ([.int .i64 6, .int .u32 1, .str [], .nils] : List V).length = 1 * 4) ∧ allOne [.int .i64 6, .int .u32 1, .str [], .nils] = true ∧ 1 * 56 ≤ 70368744177664) (
.ob (4 = 4 ∧ 0 ≤ (0 : Int) ∧ (0 : Int) < ((1 : Nat) : Int)) (
.ob (((V.beq (.int .i64 1) (.int .i64 1)) && true) = true) (
.ob (minV (.int .i64 (if (7 : Int) < (if (1 : Int) > (dealL (fineO b) (fineO a)).win then 1 else (dealL (fineO b) (fineO a)).win) then 7 else (if (1 : Int) > (dealL (fineO b) (fineO a)).win then 1 else (dealL (fineO b) (fineO a)).win))) [(.int .i64 0)] = some (.int .i64 0)) (
.ob ((0 ≤ (0 : Int) ∧ (0 : Int) ≤ ((0 : Nat) : Int)) ∧ (True)) (
.ob ((9 = 9 ∧ ([.int .i64 0, .int .i64 0, .bool true, .int .i64 2, .int .i64 0, .int .i64 0, .int .i64 0, .bool false, .str []] : List V).length = 1 * 9) ∧ allOne [.int .i64 0, .int .i64 0, .bool true, .int .i64 2, .int .i64 0, .int .i64 0, .int .i64 0, .bool false, .str []] = true ∧ 1 * 80 ≤ 70368744177664) (
.ob (9 = 9 ∧ 0 ≤ (0 : Int) ∧ (0 : Int) < ((1 : Nat) : Int)) (
.ob (9 = 9 ∧ 0 ≤ (0 : Int) ∧ (0 : Int) < ((1 : Nat) : Int)) (
.ob (9 = 9 ∧ 0 ≤ (0 : Int) ∧ (0 : Int) < ((1 : Nat) : Int)) (
.ob (9 = 9 ∧ 0 ≤ (0 : Int) ∧ (0 : Int) < ((1 : Nat) : Int)) (
.ob (Gw.lenStr (.str []) = some (.int .i64 0)) (
.ob (Gw.lenStr (.str []) = some (.int .i64 0)) (
.ob (((V.beq (.str []) (.str [])) && ((V.beq (.bool true) (.bool true)) && ((V.beq (.agg [.int .i64 0, .int .i64 1]) (.agg [.int .i64 0, .int .i64 1])) && true))) = true) (
.ob (((V.beq (.int .i64 0) (.int .i64 0)) && ((V.beq (.int .i64 0) (.int .i64 0)) && true)) = true) (
.ob (((V.beq (.int .i64 0) (.int .i64 0)) && true) = true) (
.ob (((V.beq (.agg [.int .i64 0, .int .i64 1, .bool true, .int .i64 2, .int .i64 0, .int .i64 0, .int .i64 0, .bool true, .str []]) (.agg [.int .i64 0, .int .i64 1, .bool true, .int .i64 2, .int .i64 0, .int .i64 0, .int .i64 0, .bool true, .str []])) && true) = true) (
.ob (((eqV (.agg [.i, .i, .b, .i, .i, .i, .i, .b, .s]) (.agg [.int .i64 0, .int .i64 1, .bool true, .int .i64 2, .int .i64 0, .int .i64 0, .int .i64 0, .bool true, .str []]) (.agg [.int .i64 0, .int .i64 1, .bool true, .int .i64 2, .int .i64 0, .int .i64 0, .int .i64 0, .bool true, .str []])).map fun b => V.bool (if true then !b else b)) = some (.bool false)) (
.ob (True) (
.ob (((V.beq (.bool true) (.bool true)) && true) = true) (
.ob (IntKind.i64 = IntKind.i64 ∧ (8 : Int) ≠ 0) (
.ob (IntKind.i64 = IntKind.i64 ∧ (8 : Int) ≠ 0) (
.ob (IntKind.i64 = IntKind.i64 ∧ (8 : Int) ≠ 0) (
.ob (IntKind.i64 = IntKind.i64 ∧ (8 : Int) ≠ 0) (
.ob (IntKind.i64 = IntKind.i64 ∧ (8 : Int) ≠ 0) (
.ob (IntKind.i64 = IntKind.i64 ∧ (8 : Int) ≠ 0) (
.ob (IntKind.i64 = IntKind.i64 ∧ (8 : Int) ≠ 0) (
.ob (IntKind.i64 = IntKind.i64 ∧ (8 : Int) ≠ 0) (
.ob (IntKind.i64 = IntKind.i64 ∧ (8 : Int) ≠ 0) (
.ob (IntKind.i64 = IntKind.i64 ∧ (8 : Int) ≠ 0) (
.ob ((True) ∧ (0 ≤ (0 : Int) ∧ (0 : Int) ≤ ((0 : Nat) : Int))) (
.ob (4 = 4 ∧ 0 ≤ (0 : Int) ∧ (0 : Int) < ((1 : Nat) : Int)) (
.ob (((V.beq (.int .i64 2) (.int .i64 2)) && true) = true) (
.ob (minV (.int .i64 (if (7 : Int) < (if (1 : Int) > (dealL (fineO a) (fineO b)).win then 1 else (dealL (fineO a) (fineO b)).win) then 7 else (if (1 : Int) > (dealL (fineO a) (fineO b)).win then 1 else (dealL (fineO a) (fineO b)).win))) [(.int .i64 0)] = some (.int .i64 0)) (
.ob ((0 ≤ (0 : Int) ∧ (0 : Int) ≤ ((0 : Nat) : Int)) ∧ (True)) (
.ob ((9 = 9 ∧ ([.int .i64 0, .int .i64 0, .bool false, .int .i64 2, .int .i64 0, .int .i64 0, .int .i64 0, .bool false, .str []] : List V).length = 1 * 9) ∧ allOne [.int .i64 0, .int .i64 0, .bool false, .int .i64 2, .int .i64 0, .int .i64 0, .int .i64 0, .bool false, .str []] = true ∧ 1 * 80 ≤ 70368744177664) (
.ob (9 = 9 ∧ 0 ≤ (0 : Int) ∧ (0 : Int) < ((1 : Nat) : Int)) (
.ob (9 = 9 ∧ 0 ≤ (0 : Int) ∧ (0 : Int) < ((1 : Nat) : Int)) (
.leaf (.bool true)))))))))))))))))))))))))))))))))))))))))))))))))))))))))))))))))))))))))))))))))))))))))))))))))))))))))))))))
set_option maxRecDepth 1000000 in
theorem treeLinkChange0_0f_eq (a : Gw.Offer) (b : Gw.Offer) : funT (mkXT (noPX) (oxLinkChange0_0f a b)) (mkXP (noPX)) (mkX (noPX) (oxLinkChange0_0f a b)) LD.DL (fun g => match g with | 113 => (fun k => match k with | 38 => some fun t h => (match h.n with | 93 => (.int .i64 25, h) | 112 => (.int .i64 25, h) | 253 => (.int .i64 25, h) | 272 => (.int .i64 25, h) | 415 => (.int .i64 0, h) | 434 => (.int .i64 0, h) | 514 => (.int .i64 0, h) | _ => (.int .i64 0, h)) | _ => none) | 77 => (fun k => match k with | 52 => some fun t h => (match h.n with | 128 => (.bool false, h) | 288 => (.bool false, h) | 450 => (.bool false, h) | _ => (.bool false, h)) | _ => none) | 147 => (fun k => match k with | 18 => some fun t h => (match h.n with | 464 => (.int .i64 0, h) | _ => (.int .i64 0, h)) | _ => none) | _ => noOrc) (fun k => match k with | 14 => [15, 38, 44, 50, 56, 58, 83, 89, 94, 99, 105, 110, 120, 126, 131, 137] | 21 => [31, 41, 49, 60, 69, 72, 76] | 22 => [10, 15, 20, 25, 30, 31, 37, 41, 45, 50, 57, 81, 90, 98, 102] | 26 => [15, 22, 31, 52, 58, 74, 80, 86, 96] | 35 => [8, 11, 15, 19, 23] | 39 => [16, 25, 30, 36, 39, 44, 47, 57, 67, 82, 86, 99, 108, 116] | 41 => [10, 20] | 56 => [10, 33, 34, 40, 44, 49, 52, 66, 67, 68, 71] | 60 => [8, 25, 32] | 62 => [28, 30] | 63 => [9] | 64 => [9, 23] | 65 => [7, 20, 34] | 77 => [8, 15, 26, 32, 37, 41, 46, 52] | 81 => [14, 20, 28] | 82 => [13] | 83 => [7, 11, 17, 28, 31, 32, 37, 45, 55] | 107 => [10] | 108 => [11, 17, 34, 60] | 109 => [13] | 113 => [11, 16, 20, 25, 30, 34, 39, 47] | 114 => [8, 14, 19, 24, 34, 44] | 126 => [17] | 127 => [12, 21, 26] | 128 => [8, 19] | 146 => [6, 9, 20] | 147 => [30] | 148 => [11, 15, 28] | 152 => [9] | 156 => [13] | 165 => [8, 12, 16, 19, 23, 27, 30, 34, 38] | 166 => [8, 13, 16, 18, 21] | 174 => [17] | 175 => [8, 21, 24, 30] | 189 => [6, 10] | 190 => [9, 14, 15, 19, 23, 32] | _ => []) 12 noOrc [15, 38, 44, 50, 56, 58, 83, 89, 94, 99, 105, 110, 120, 126, 131, 137] (noLt) LD.c14 [.agg a.vs, .agg b.vs, .bool false] (tabH kT0 kT1 kT2 3) (fun v _ => v) = treeLinkChange0_0f a b := by kernel_rfl
theorem satLinkChange0_0f (a : Gw.Offer) (b : Gw.Offer) (hwa : loL (fineO a).wait = 0) (hwb : loL (fineO b).wait = 0) : (treeLinkChange0_0f a b).sat fun v => v = .bool true :=
 sat_ob trivial (
sat_ob (by simp only [V.beq_refl, Bool.and_true]) (
sat_ob trivial (
sat_ob trivial (
sat_ob (pMay_fine a) (
sat_ob (by simp only [V.beq_refl, Bool.and_true]) (
sat_ob trivial (
sat_ob (pMay_fine b) (
sat_ob trivial (
sat_ob (by decide) (
sat_ob (by simp only [V.beq_refl, Bool.and_true]) (
sat_ob (by simp only [V.beq_refl, Bool.and_true]) (
sat_ob (okSet 1 2 0 1 a (by decide) (by decide) (by decide) (by decide)) (
sat_ob (by decide) (
sat_ob rfl (
sat_ob rfl (
sat_ob (by simp only [V.beq_refl, Bool.and_true]) (
sat_ob (by simp only [V.beq_refl, Bool.and_true]) (
sat_ob (by simp only [V.beq_refl, Bool.and_true]) (
sat_ob (by simp [eqV, eqCells]) (
sat_ob (by simp only [V.beq_refl, Bool.and_true]) (
sat_ob trivial (
sat_ob ⟨⟨1, 2, 0, 1, (fineO a)⟩, (okSet 1 2 0 1 a (by decide) (by decide) (by decide) (by decide)), rfl⟩ (
sat_ob (get_put ⟨1, 2, 0, 1, (fineO a)⟩ (okSet 1 2 0 1 a (by decide) (by decide) (by decide) (by decide))) (
sat_ob ⟨mayO_fine b, mayO_fine a⟩ (
sat_ob (by show V.tup [.agg [.int .i64 _, .int .i64 _, .int .i64 _, .int .i64 _, .int .i64 (loL (fineO a).wait)], .bool true] = _; rw [hwa]; rfl) (
sat_ob (by simp only [V.beq_refl, Bool.and_true]) (
sat_ob (by simp only [V.beq_refl, Bool.and_true]) (
sat_ob (by simp only [V.beq_refl, Bool.and_true]) (
sat_ob (by simp only [V.beq_refl, Bool.and_true]) (
sat_ob (by simp only [V.beq_refl, Bool.and_true]) (
sat_ob (by simp only [V.beq_refl, Bool.and_true]) (
sat_ob (by simp only [V.beq_refl, Bool.and_true]) (
sat_ob (by simp only [V.beq_refl, Bool.and_true]) (
sat_ob (by simp only [V.beq_refl, Bool.and_true]) (
sat_ob (okSet 2 1 0 1 b (by decide) (by decide) (by decide) (by decide)) (
sat_ob (by decide) (
sat_ob rfl (
sat_ob rfl (
sat_ob (by simp only [V.beq_refl, Bool.and_true]) (
sat_ob (by simp only [V.beq_refl, Bool.and_true]) (
sat_ob (by simp only [V.beq_refl, Bool.and_true]) (
sat_ob (by simp [eqV, eqCells]) (
sat_ob (by simp only [V.beq_refl, Bool.and_true]) (
sat_ob trivial (
sat_ob ⟨⟨2, 1, 0, 1, (fineO b)⟩, (okSet 2 1 0 1 b (by decide) (by decide) (by decide) (by decide)), rfl⟩ (
sat_ob (get_put ⟨2, 1, 0, 1, (fineO b)⟩ (okSet 2 1 0 1 b (by decide) (by decide) (by decide) (by decide))) (
sat_ob ⟨mayO_fine a, mayO_fine b⟩ (
sat_ob (by show V.tup [.agg [.int .i64 _, .int .i64 _, .int .i64 _, .int .i64 _, .int .i64 (loL (fineO b).wait)], .bool true] = _; rw [hwb]; rfl) (
sat_ob trivial (
sat_ob (by simp only [V.beq_refl, Bool.and_true]) (
sat_ob (by simp only [V.beq_refl, Bool.and_true]) (
sat_ob (by simp only [V.beq_refl, Bool.and_true]) (
sat_ob (by simp only [V.beq_refl, Bool.and_true]) (
sat_ob (by simp only [V.beq_refl, Bool.and_true]) (
sat_ob (by simp only [V.beq_refl, Bool.and_true]) (
sat_ob (by simp only [V.beq_refl, Bool.and_true]) (
sat_ob (by simp only [V.beq_refl, Bool.and_true]) (
sat_ob (by simp only [V.beq_refl, Bool.and_true]) (
sat_ob trivial (
sat_ob trivial (
sat_ob (by decide) (
sat_ob (by decide) (
sat_ob (by first | rfl | simp [binV, binI, eqV, eqCells]) (
sat_ob (by first | rfl | simp [binV, binI, eqV, eqCells]) (
sat_ob (by simp only [V.beq_refl, Bool.and_true]) (
sat_ob (by simp only [V.beq_refl, Bool.and_true]) (
sat_ob (by simp only [V.beq_refl, Bool.and_true]) (
sat_ob (by simp [eqV, eqCells]) (
sat_ob (by simp only [V.beq_refl, Bool.and_true]) (
sat_ob trivial (
sat_ob trivial (
sat_ob (by simp only [V.beq_refl, Bool.and_true]) (
sat_ob (by decide) (
sat_ob (by decide) (
sat_ob (by simp only [V.beq_refl, Bool.and_true]) (
sat_ob (min0 _) (
sat_ob (by decide) (
sat_ob (by decide) (
sat_ob (by decide) (
sat_ob (by decide) (
sat_ob (by decide) (
sat_ob (by decide) (
sat_ob (by first | rfl | simp [binV, binI, eqV, eqCells]) (
sat_ob (by first | rfl | simp [binV, binI, eqV, eqCells]) (
sat_ob (by simp only [V.beq_refl, Bool.and_true]) (
sat_ob (by simp only [V.beq_refl, Bool.and_true]) (
sat_ob (by simp only [V.beq_refl, Bool.and_true]) (
sat_ob (by simp only [V.beq_refl, Bool.and_true]) (
sat_ob (by simp [eqV, eqCells]) (
sat_ob trivial (
sat_ob (by simp only [V.beq_refl, Bool.and_true]) (
sat_ob (by decide) (
sat_ob (by decide) (
sat_ob (by decide) (
sat_ob (by decide) (
sat_ob (by decide) (
sat_ob (by decide) (
sat_ob (by decide) (
sat_ob (by decide) (
sat_ob (by decide) (
sat_ob (by decide) (
sat_ob (by decide) (
sat_ob (by decide) (
sat_ob (by simp only [V.beq_refl, Bool.and_true]) (
sat_ob (min0 _) (
sat_ob (by decide) (
sat_ob (by decide) (
sat_ob (by decide) (
sat_ob (by decide) (
sat_leaf (rfl)))))))))))))))))))))))))))))))))))))))))))))))))))))))))))))))))))))))))))))))))))))))))))))))))))))))))))))))
theorem runLinkChange0_0f (a : Gw.Offer) (b : Gw.Offer) (hwa : loL (fineO a).wait = 0) (hwb : loL (fineO b).wait = 0) : Run Tryz.prog 14 [.agg a.vs, .agg b.vs, .bool false] (tabH kT0 kT1 kT2 3) fun v _ => v = .bool true := run_plainU mixed (show TabX Tryz.prog noPX (oxLinkChange0_0f a b) from ((((((TabX.nil.addO ans_begun).addT (ans_fine noV)).addT (ans_may (fun n => match n with | 12 => some (.bool true) | 20 => some (.bool true) | _ => none))).addT (ans_deal (fun n => match n with | 151 => some (.tup [.agg (dv b a 0), .bool true]) | 311 => some (.tup [.agg (dv a b 0), .bool true]) | _ => none))).addT (ans_put noV)).addT (ans_get (fun n => match n with | 138 => some (.tup [.agg [.int .u32 1, .int .u32 2, .int .i64 0, .int .i64 1, .int .i64 (fineO a).baud, .int .i64 (fineO a).silent, .int .i64 (fineO a).win, .int .i64 (fineO a).size, .int .i64 (fineO a).wait], .bool true]) | 298 => some (.tup [.agg [.int .u32 2, .int .u32 1, .int .i64 0, .int .i64 1, .int .i64 (fineO b).baud, .int .i64 (fineO b).silent, .int .i64 (fineO b).win, .int .i64 (fineO b).size, .int .i64 (fineO b).wait], .bool true]) | _ => none)))) LD.tabDL (show LD.DL 14 = some LD.c14 from rfl) (treeLinkChange0_0f_eq a b) (satLinkChange0_0f a b hwa hwb)
def oxLinkChange0_0t (a : Gw.Offer) (b : Gw.Offer) : OTab := (consT 79 (gD dGet pGet (fun n => match n with | 138 => some (.tup [.agg [.int .u32 1, .int .u32 2, .int .i64 0, .int .i64 1, .int .i64 (fineO a).baud, .int .i64 (fineO a).silent, .int .i64 (fineO a).win, .int .i64 (fineO a).size, .int .i64 (fineO a).wait], .bool true]) | 298 => some (.tup [.agg [.int .u32 2, .int .u32 1, .int .i64 0, .int .i64 1, .int .i64 (fineO b).baud, .int .i64 (fineO b).silent, .int .i64 (fineO b).win, .int .i64 (fineO b).size, .int .i64 (fineO b).wait], .bool true]) | _ => none)) (consT 106 (gD dPut pPut noV) (consT 80 (gDT kT0 kT1 kT2 dDeal pDeal (fun n => match n with | 151 => some (.tup [.agg (dv b a 0), .bool true]) | 311 => some (.tup [.agg (dv a b 0), .bool true]) | _ => none)) (consT 76 (gD dOff pMayQ (fun n => match n with | 12 => some (.bool true) | 20 => some (.bool true) | _ => none)) (consT 20 (gD dOff pFine noV) (consO 19 (gTrue kT0 kT1 kT2) noOX))))))
def treeLinkChange0_0t (a : Gw.Offer) (b : Gw.Offer) : DT V :=
  .ob (dOff [.agg a.vs]) (
.ob (((V.beq (.agg b.vs) (.agg b.vs)) && true) = true) (
.ob (dOff [.agg b.vs]) (
.ob (dOff [.agg (fineO a).vs]) (
.ob (pMayQ [.agg (fineO a).vs] = (.bool true)) (
.ob (((V.beq (.agg (fineO b).vs) (.agg (fineO b).vs)) && true) = true) (
.ob (dOff [.agg (fineO b).vs]) (
.ob (pMayQ [.agg (fineO b).vs] = (.bool true)) (
.ob (True) (
.ob (IntKind.i64 = IntKind.i64 ∧ (250 : Int) ≠ 0) (
.ob (((V.beq (.int .u32 2) (.int .u32 2)) && true) = true) (
.ob (((V.beq (.int .u32 2) (.int .u32 2)) && true) = true) (
.ob (dPut [.agg [.int .u32 1, .int .u32 2, .int .i64 0, .int .i64 1, .int .i64 (fineO a).baud, .int .i64 (fineO a).silent, .int .i64 (fineO a).win, .int .i64 (fineO a).size, .int .i64 (fineO a).wait]]) (
.ob (9 = 9 ∧ 0 ≤ (0 : Int) ∧ (0 : Int) < ((1 : Nat) : Int)) (
.ob (Gw.lenStr (.str (setupStr ⟨1, 2, 0, 1, (fineO a)⟩)) = some (.int .i64 25)) (
.ob (Gw.lenStr (.str (setupStr ⟨1, 2, 0, 1, (fineO a)⟩)) = some (.int .i64 25)) (
.ob (((V.beq (.str (setupStr ⟨1, 2, 0, 1, (fineO a)⟩)) (.str (setupStr ⟨1, 2, 0, 1, (fineO a)⟩))) && ((V.beq (.bool true) (.bool true)) && ((V.beq (.agg [.int .i64 127, .int .i64 255]) (.agg [.int .i64 127, .int .i64 255])) && true))) = true) (
.ob (((V.beq (.int .i64 2) (.int .i64 2)) && true) = true) (
.ob (((V.beq (.agg [.int .i64 127, .int .i64 255, .bool true, .int .i64 3, .int .i64 2, .int .i64 0, .int .i64 0, .bool true, .str (setupStr ⟨1, 2, 0, 1, (fineO a)⟩)]) (.agg [.int .i64 127, .int .i64 255, .bool true, .int .i64 3, .int .i64 2, .int .i64 0, .int .i64 0, .bool true, .str (setupStr ⟨1, 2, 0, 1, (fineO a)⟩)])) && true) = true) (
.ob (((eqV (.agg [.i, .i, .b, .i, .i, .i, .i, .b, .s]) (.agg [.int .i64 127, .int .i64 255, .bool true, .int .i64 3, .int .i64 2, .int .i64 0, .int .i64 0, .bool true, .str (setupStr ⟨1, 2, 0, 1, (fineO a)⟩)]) (.agg [.int .i64 127, .int .i64 255, .bool true, .int .i64 3, .int .i64 2, .int .i64 0, .int .i64 0, .bool true, .str (setupStr ⟨1, 2, 0, 1, (fineO a)⟩)])).map fun b => V.bool (if true then !b else b)) = some (.bool false)) (
.ob (((V.beq (.agg [.int .i64 127, .int .i64 255]) (.agg [.int .i64 127, .int .i64 255])) && true) = true) (
.ob (True) (
.ob (dGet [.str (setupStr ⟨1, 2, 0, 1, (fineO a)⟩)]) (
.ob (pGet [.str (setupStr ⟨1, 2, 0, 1, (fineO a)⟩)] = (.tup [.agg [.int .u32 1, .int .u32 2, .int .i64 0, .int .i64 1, .int .i64 (fineO a).baud, .int .i64 (fineO a).silent, .int .i64 (fineO a).win, .int .i64 (fineO a).size, .int .i64 (fineO a).wait], .bool true])) (
.ob (dDeal [.agg (fineO b).vs, .agg (fineO a).vs]) (
.ob (pDeal [.agg (fineO b).vs, .agg (fineO a).vs] = (.tup [.agg (dv b a 0), .bool true])) (
.ob (((V.beq (.int .i64 (dealL (fineO b) (fineO a)).size) (.int .i64 (dealL (fineO b) (fineO a)).size)) && true) = true) (
.ob (((V.beq (.int .i64 (dealL (fineO b) (fineO a)).size) (.int .i64 (dealL (fineO b) (fineO a)).size)) && true) = true) (
.ob (((V.beq (.agg (dv b a 0)) (.agg (dv b a 0))) && ((V.beq (.agg [.int .i64 0, .int .i64 1]) (.agg [.int .i64 0, .int .i64 1])) && true)) = true) (
.ob (((V.beq (.agg (dv b a 0)) (.agg (dv b a 0))) && ((V.beq (.agg [.int .i64 0, .int .i64 1]) (.agg [.int .i64 0, .int .i64 1])) && true)) = true) (
.ob (((V.beq (.agg (dv b a 0)) (.agg (dv b a 0))) && ((V.beq (.agg [.int .i64 0, .int .i64 1]) (.agg [.int .i64 0, .int .i64 1])) && true)) = true) (
.ob (((V.beq (.agg (dv b a 0)) (.agg (dv b a 0))) && true) = true) (
.ob (((V.beq (.int .i64 0) (.int .i64 0)) && true) = true) (
.ob (((V.beq (.int .i64 0) (.int .i64 0)) && true) = true) (
.ob (((V.beq (.int .i64 0) (.int .i64 0)) && true) = true) (
.ob (dPut [.agg [.int .u32 2, .int .u32 1, .int .i64 0, .int .i64 1, .int .i64 (fineO b).baud, .int .i64 (fineO b).silent, .int .i64 (fineO b).win, .int .i64 (fineO b).size, .int .i64 (fineO b).wait]]) (
.ob (9 = 9 ∧ 0 ≤ (0 : Int) ∧ (0 : Int) < ((1 : Nat) : Int)) (
.ob (Gw.lenStr (.str (setupStr ⟨2, 1, 0, 1, (fineO b)⟩)) = some (.int .i64 25)) (
.ob (Gw.lenStr (.str (setupStr ⟨2, 1, 0, 1, (fineO b)⟩)) = some (.int .i64 25)) (
.ob (((V.beq (.str (setupStr ⟨2, 1, 0, 1, (fineO b)⟩)) (.str (setupStr ⟨2, 1, 0, 1, (fineO b)⟩))) && ((V.beq (.bool false) (.bool false)) && ((V.beq (.agg [.int .i64 127, .int .i64 255]) (.agg [.int .i64 127, .int .i64 255])) && true))) = true) (
.ob (((V.beq (.int .i64 3) (.int .i64 3)) && true) = true) (
.ob (((V.beq (.agg [.int .i64 127, .int .i64 255, .bool false, .int .i64 3, .int .i64 3, .int .i64 0, .int .i64 0, .bool true, .str (setupStr ⟨2, 1, 0, 1, (fineO b)⟩)]) (.agg [.int .i64 127, .int .i64 255, .bool false, .int .i64 3, .int .i64 3, .int .i64 0, .int .i64 0, .bool true, .str (setupStr ⟨2, 1, 0, 1, (fineO b)⟩)])) && true) = true) (
.ob (((eqV (.agg [.i, .i, .b, .i, .i, .i, .i, .b, .s]) (.agg [.int .i64 127, .int .i64 255, .bool false, .int .i64 3, .int .i64 3, .int .i64 0, .int .i64 0, .bool true, .str (setupStr ⟨2, 1, 0, 1, (fineO b)⟩)]) (.agg [.int .i64 127, .int .i64 255, .bool false, .int .i64 3, .int .i64 3, .int .i64 0, .int .i64 0, .bool true, .str (setupStr ⟨2, 1, 0, 1, (fineO b)⟩)])).map fun b => V.bool (if true then !b else b)) = some (.bool false)) (
.ob (((V.beq (.agg [.int .i64 127, .int .i64 255]) (.agg [.int .i64 127, .int .i64 255])) && true) = true) (
.ob (True) (
.ob (dGet [.str (setupStr ⟨2, 1, 0, 1, (fineO b)⟩)]) (
.ob (pGet [.str (setupStr ⟨2, 1, 0, 1, (fineO b)⟩)] = (.tup [.agg [.int .u32 2, .int .u32 1, .int .i64 0, .int .i64 1, .int .i64 (fineO b).baud, .int .i64 (fineO b).silent, .int .i64 (fineO b).win, .int .i64 (fineO b).size, .int .i64 (fineO b).wait], .bool true])) (
.ob (dDeal [.agg (fineO a).vs, .agg (fineO b).vs]) (
.ob (pDeal [.agg (fineO a).vs, .agg (fineO b).vs] = (.tup [.agg (dv a b 0), .bool true])) (
.ob (True) (
.ob (((V.beq (.int .i64 (dealL (fineO a) (fineO b)).size) (.int .i64 (dealL (fineO a) (fineO b)).size)) && true) = true) (
.ob (((V.beq (.int .i64 (dealL (fineO a) (fineO b)).size) (.int .i64 (dealL (fineO a) (fineO b)).size)) && true) = true) (
.ob (((V.beq (.agg (dv a b 0)) (.agg (dv a b 0))) && ((V.beq (.agg [.int .i64 0, .int .i64 1]) (.agg [.int .i64 0, .int .i64 1])) && true)) = true) (
.ob (((V.beq (.agg (dv a b 0)) (.agg (dv a b 0))) && ((V.beq (.agg [.int .i64 0, .int .i64 1]) (.agg [.int .i64 0, .int .i64 1])) && true)) = true) (
.ob (((V.beq (.agg (dv a b 0)) (.agg (dv a b 0))) && ((V.beq (.agg [.int .i64 0, .int .i64 1]) (.agg [.int .i64 0, .int .i64 1])) && true)) = true) (
.ob (((V.beq (.agg (dv a b 0)) (.agg (dv a b 0))) && true) = true) (
.ob (((V.beq (.int .i64 0) (.int .i64 0)) && true) = true) (
.ob (((V.beq (.int .i64 0) (.int .i64 0)) && true) = true) (
.ob (((V.beq (.int .i64 0) (.int .i64 0)) && true) = true) (
.ob (True) (
.ob (True) (
.ob (9 = 9 ∧ 0 ≤ (0 : Int) ∧ (0 : Int) < ((1 : Nat) : Int)) (
.ob (9 = 9 ∧ 0 ≤ (0 : Int) ∧ (0 : Int) < ((1 : Nat) : Int)) (
.ob (9 = 9 ∧ 0 ≤ (0 : Int) ∧ (0 : Int) < ((1 : Nat) : Int)) (
.ob (Gw.lenStr (.str []) = some (.int .i64 0)) (
.ob (Gw.lenStr (.str []) = some (.int .i64 0)) (
.ob (((V.beq (.str []) (.str [])) && ((V.beq (.bool true) (.bool true)) && ((V.beq (.agg [.int .i64 0, .int .i64 1]) (.agg [.int .i64 0, .int .i64 1])) && true))) = true) (
.ob (((V.beq (.int .i64 6) (.int .i64 6)) && true) = true) (
.ob (((V.beq (.agg [.int .i64 0, .int .i64 1, .bool true, .int .i64 3, .int .i64 6, .int .i64 0, .int .i64 0, .bool true, .str []]) (.agg [.int .i64 0, .int .i64 1, .bool true, .int .i64 3, .int .i64 6, .int .i64 0, .int .i64 0, .bool true, .str []])) && true) = true) (
.ob (((eqV (.agg [.i, .i, .b, .i, .i, .i, .i, .b, .s]) (.agg [.int .i64 0, .int .i64 1, .bool true, .int .i64 3, .int .i64 6, .int .i64 0, .int .i64 0, .bool true, .str []]) (.agg [.int .i64 0, .int .i64 1, .bool true, .int .i64 3, .int .i64 6, .int .i64 0, .int .i64 0, .bool true, .str []])).map fun b => V.bool (if true then !b else b)) = some (.bool false)) (
.ob (((V.beq (.agg [.int .i64 0, .int .i64 1]) (.agg [.int .i64 0, .int .i64 1])) && true) = true) (
.ob (True) (
.ob (True) (
.ob (((V.beq (.bool true) (.bool true)) && true) = true) (
.ob ((4 = 4 ∧ ([.int .i64 6, .int .u32 1, .str [], .nils] : List V).length = 1 * 4) ∧ allOne [.int .i64 6, .int .u32 1, .str [], .nils] = true ∧ 1 * 56 ≤ 70368744177664) (
.ob (4 = 4 ∧ 0 ≤ (0 : Int) ∧ (0 : Int) < ((1 : Nat) : Int)) (
.ob (((V.beq (.int .i64 1) (.int .i64 1)) && true) = true) (
.ob (minV (.int .i64 (if (7 : Int) < (if (1 : Int) > (dealL (fineO b) (fineO a)).win then 1 else (dealL (fineO b) (fineO a)).win) then 7 else (if (1 : Int) > (dealL (fineO b) (fineO a)).win then 1 else (dealL (fineO b) (fineO a)).win))) [(.int .i64 0)] = some (.int .i64 0)) (
.ob ((0 ≤ (0 : Int) ∧ (0 : Int) ≤ ((0 : Nat) : Int)) ∧ (True)) (
.ob ((9 = 9 ∧ ([.int .i64 0, .int .i64 0, .bool true, .int .i64 2, .int .i64 0, .int .i64 0, .int .i64 0, .bool false, .str []] : List V).length = 1 * 9) ∧ allOne [.int .i64 0, .int .i64 0, .bool true, .int .i64 2, .int .i64 0, .int .i64 0, .int .i64 0, .bool false, .str []] = true ∧ 1 * 80 ≤ 70368744177664) (
.ob (9 = 9 ∧ 0 ≤ (0 : Int) ∧ (0 : Int) < ((1 : Nat) : Int)) (
.ob (9 = 9 ∧ 0 ≤ (0 : Int) ∧ (0 : Int) < ((1 : Nat) : Int)) (
.ob (9 = 9 ∧ 0 ≤ (0 : Int) ∧ (0 : Int) < ((1 : Nat) : Int)) (
.ob (9 = 9 ∧ 0 ≤ (0 : Int) ∧ (0 : Int) < ((1 : Nat) : Int)) (
.ob (Gw.lenStr (.str []) = some (.int .i64 0)) (
.ob (Gw.lenStr (.str []) = some (.int .i64 0)) (
.ob (((V.beq (.str []) (.str [])) && ((V.beq (.bool true) (.bool true)) && ((V.beq (.agg [.int .i64 0, .int .i64 1]) (.agg [.int .i64 0, .int .i64 1])) && true))) = true) (
.ob (((V.beq (.int .i64 0) (.int .i64 0)) && ((V.beq (.int .i64 0) (.int .i64 0)) && true)) = true) (
.ob (((V.beq (.int .i64 0) (.int .i64 0)) && true) = true) (
.ob (((V.beq (.agg [.int .i64 0, .int .i64 1, .bool true, .int .i64 2, .int .i64 0, .int .i64 0, .int .i64 0, .bool true, .str []]) (.agg [.int .i64 0, .int .i64 1, .bool true, .int .i64 2, .int .i64 0, .int .i64 0, .int .i64 0, .bool true, .str []])) && true) = true) (
.ob (((eqV (.agg [.i, .i, .b, .i, .i, .i, .i, .b, .s]) (.agg [.int .i64 0, .int .i64 1, .bool true, .int .i64 2, .int .i64 0, .int .i64 0, .int .i64 0, .bool true, .str []]) (.agg [.int .i64 0, .int .i64 1, .bool true, .int .i64 2, .int .i64 0, .int .i64 0, .int .i64 0, .bool true, .str []])).map fun b => V.bool (if true then !b else b)) = some (.bool false)) (
.ob (True) (
.ob (((V.beq (.bool true) (.bool true)) && true) = true) (
.ob (IntKind.i64 = IntKind.i64 ∧ (8 : Int) ≠ 0) (
.ob (IntKind.i64 = IntKind.i64 ∧ (8 : Int) ≠ 0) (
.ob (IntKind.i64 = IntKind.i64 ∧ (8 : Int) ≠ 0) (
.ob (IntKind.i64 = IntKind.i64 ∧ (8 : Int) ≠ 0) (
.ob (IntKind.i64 = IntKind.i64 ∧ (8 : Int) ≠ 0) (
.ob (IntKind.i64 = IntKind.i64 ∧ (8 : Int) ≠ 0) (
.ob (IntKind.i64 = IntKind.i64 ∧ (8 : Int) ≠ 0) (
.ob (IntKind.i64 = IntKind.i64 ∧ (8 : Int) ≠ 0) (
.ob (IntKind.i64 = IntKind.i64 ∧ (8 : Int) ≠ 0) (
.ob (IntKind.i64 = IntKind.i64 ∧ (8 : Int) ≠ 0) (
.ob ((True) ∧ (0 ≤ (0 : Int) ∧ (0 : Int) ≤ ((0 : Nat) : Int))) (
.ob (4 = 4 ∧ 0 ≤ (0 : Int) ∧ (0 : Int) < ((1 : Nat) : Int)) (
.ob (((V.beq (.int .i64 2) (.int .i64 2)) && true) = true) (
.ob (minV (.int .i64 (if (7 : Int) < (if (1 : Int) > (dealL (fineO a) (fineO b)).win then 1 else (dealL (fineO a) (fineO b)).win) then 7 else (if (1 : Int) > (dealL (fineO a) (fineO b)).win then 1 else (dealL (fineO a) (fineO b)).win))) [(.int .i64 0)] = some (.int .i64 0)) (
.ob ((0 ≤ (0 : Int) ∧ (0 : Int) ≤ ((0 : Nat) : Int)) ∧ (True)) (
.ob ((9 = 9 ∧ ([.int .i64 0, .int .i64 0, .bool false, .int .i64 2, .int .i64 0, .int .i64 0, .int .i64 0, .bool false, .str []] : List V).length = 1 * 9) ∧ allOne [.int .i64 0, .int .i64 0, .bool false, .int .i64 2, .int .i64 0, .int .i64 0, .int .i64 0, .bool false, .str []] = true ∧ 1 * 80 ≤ 70368744177664) (
.ob (9 = 9 ∧ 0 ≤ (0 : Int) ∧ (0 : Int) < ((1 : Nat) : Int)) (
.ob (9 = 9 ∧ 0 ≤ (0 : Int) ∧ (0 : Int) < ((1 : Nat) : Int)) (
.leaf (.bool true))))))))))))))))))))))))))))))))))))))))))))))))))))))))))))))))))))))))))))))))))))))))))))))))))))))))))))))))
set_option maxRecDepth 1000000 in
theorem treeLinkChange0_0t_eq (a : Gw.Offer) (b : Gw.Offer) : funT (mkXT (noPX) (oxLinkChange0_0t a b)) (mkXP (noPX)) (mkX (noPX) (oxLinkChange0_0t a b)) LD.DL (fun g => match g with | 113 => (fun k => match k with | 38 => some fun t h => (match h.n with | 93 => (.int .i64 25, h) | 112 => (.int .i64 25, h) | 253 => (.int .i64 25, h) | 272 => (.int .i64 25, h) | 424 => (.int .i64 0, h) | 443 => (.int .i64 0, h) | 523 => (.int .i64 0, h) | _ => (.int .i64 0, h)) | _ => none) | 77 => (fun k => match k with | 52 => some fun t h => (match h.n with | 128 => (.bool false, h) | 288 => (.bool false, h) | 459 => (.bool false, h) | _ => (.bool false, h)) | _ => none) | 147 => (fun k => match k with | 18 => some fun t h => (match h.n with | 473 => (.int .i64 0, h) | _ => (.int .i64 0, h)) | _ => none) | _ => noOrc) (fun k => match k with | 14 => [15, 38, 44, 50, 56, 58, 63, 68, 74, 83, 89, 94, 99, 105, 110, 120, 126, 131, 137] | 21 => [31, 41, 49, 60, 69, 72, 76] | 22 => [10, 15, 20, 25, 30, 31, 37, 41, 45, 50, 57, 81, 90, 98, 102] | 26 => [15, 22, 31, 52, 58, 74, 80, 86, 96] | 35 => [8, 11, 15, 19, 23] | 39 => [16, 25, 30, 36, 39, 44, 47, 57, 67, 82, 86, 99, 108, 116] | 41 => [10, 20] | 56 => [10, 33, 34, 40, 44, 49, 52, 66, 67, 68, 71] | 60 => [8, 25, 32, 44, 49, 55, 68, 73, 78] | 62 => [28, 30] | 63 => [9] | 64 => [9, 23] | 65 => [7, 20, 34] | 77 => [8, 15, 26, 32, 37, 41, 46, 52] | 81 => [14, 20, 28] | 82 => [13] | 83 => [7, 11, 17, 28, 31, 32, 37, 45, 55] | 105 => [9] | 107 => [10] | 108 => [11, 17, 34, 60] | 109 => [13] | 113 => [11, 16, 20, 25, 30, 34, 39, 47] | 114 => [8, 14, 19, 24, 34, 44] | 126 => [17] | 127 => [12, 21, 26] | 128 => [8, 19] | 146 => [6, 9, 20] | 147 => [30] | 148 => [11, 15, 28] | 152 => [9] | 156 => [13] | 165 => [8, 12, 16, 19, 23, 27, 30, 34, 38] | 166 => [8, 13, 16, 18, 21] | 174 => [17] | 175 => [8, 21, 24, 30] | 189 => [6, 10] | 190 => [9, 14, 15, 19, 23, 32] | _ => []) 12 noOrc [15, 38, 44, 50, 56, 58, 63, 68, 74, 83, 89, 94, 99, 105, 110, 120, 126, 131, 137] (noLt) LD.c14 [.agg a.vs, .agg b.vs, .bool true] (tabH kT0 kT1 kT2 3) (fun v _ => v) = treeLinkChange0_0t a b := by kernel_rfl
theorem satLinkChange0_0t (a : Gw.Offer) (b : Gw.Offer) (hwa : loL (fineO a).wait = 0) (hwb : loL (fineO b).wait = 0) : (treeLinkChange0_0t a b).sat fun v => v = .bool true :=
 sat_ob trivial (
sat_ob (by simp only [V.beq_refl, Bool.and_true]) (
sat_ob trivial (
sat_ob trivial (
sat_ob (pMay_fine a) (
sat_ob (by simp only [V.beq_refl, Bool.and_true]) (
sat_ob trivial (
sat_ob (pMay_fine b) (
sat_ob trivial (
sat_ob (by decide) (
sat_ob (by simp only [V.beq_refl, Bool.and_true]) (
sat_ob (by simp only [V.beq_refl, Bool.and_true]) (
sat_ob (okSet 1 2 0 1 a (by decide) (by decide) (by decide) (by decide)) (
sat_ob (by decide) (
sat_ob rfl (
sat_ob rfl (
sat_ob (by simp only [V.beq_refl, Bool.and_true]) (
sat_ob (by simp only [V.beq_refl, Bool.and_true]) (
sat_ob (by simp only [V.beq_refl, Bool.and_true]) (
sat_ob (by simp [eqV, eqCells]) (
sat_ob (by simp only [V.beq_refl, Bool.and_true]) (
sat_ob trivial (
sat_ob ⟨⟨1, 2, 0, 1, (fineO a)⟩, (okSet 1 2 0 1 a (by decide) (by decide) (by decide) (by decide)), rfl⟩ (
sat_ob (get_put ⟨1, 2, 0, 1, (fineO a)⟩ (okSet 1 2 0 1 a (by decide) (by decide) (by decide) (by decide))) (
sat_ob ⟨mayO_fine b, mayO_fine a⟩ (
sat_ob (by show V.tup [.agg [.int .i64 _, .int .i64 _, .int .i64 _, .int .i64 _, .int .i64 (loL (fineO a).wait)], .bool true] = _; rw [hwa]; rfl) (
sat_ob (by simp only [V.beq_refl, Bool.and_true]) (
sat_ob (by simp only [V.beq_refl, Bool.and_true]) (
sat_ob (by simp only [V.beq_refl, Bool.and_true]) (
sat_ob (by simp only [V.beq_refl, Bool.and_true]) (
sat_ob (by simp only [V.beq_refl, Bool.and_true]) (
sat_ob (by simp only [V.beq_refl, Bool.and_true]) (
sat_ob (by simp only [V.beq_refl, Bool.and_true]) (
sat_ob (by simp only [V.beq_refl, Bool.and_true]) (
sat_ob (by simp only [V.beq_refl, Bool.and_true]) (
sat_ob (okSet 2 1 0 1 b (by decide) (by decide) (by decide) (by decide)) (
sat_ob (by decide) (
sat_ob rfl (
sat_ob rfl (
sat_ob (by simp only [V.beq_refl, Bool.and_true]) (
sat_ob (by simp only [V.beq_refl, Bool.and_true]) (
sat_ob (by simp only [V.beq_refl, Bool.and_true]) (
sat_ob (by simp [eqV, eqCells]) (
sat_ob (by simp only [V.beq_refl, Bool.and_true]) (
sat_ob trivial (
sat_ob ⟨⟨2, 1, 0, 1, (fineO b)⟩, (okSet 2 1 0 1 b (by decide) (by decide) (by decide) (by decide)), rfl⟩ (
sat_ob (get_put ⟨2, 1, 0, 1, (fineO b)⟩ (okSet 2 1 0 1 b (by decide) (by decide) (by decide) (by decide))) (
sat_ob ⟨mayO_fine a, mayO_fine b⟩ (
sat_ob (by show V.tup [.agg [.int .i64 _, .int .i64 _, .int .i64 _, .int .i64 _, .int .i64 (loL (fineO b).wait)], .bool true] = _; rw [hwb]; rfl) (
sat_ob trivial (
sat_ob (by simp only [V.beq_refl, Bool.and_true]) (
sat_ob (by simp only [V.beq_refl, Bool.and_true]) (
sat_ob (by simp only [V.beq_refl, Bool.and_true]) (
sat_ob (by simp only [V.beq_refl, Bool.and_true]) (
sat_ob (by simp only [V.beq_refl, Bool.and_true]) (
sat_ob (by simp only [V.beq_refl, Bool.and_true]) (
sat_ob (by simp only [V.beq_refl, Bool.and_true]) (
sat_ob (by simp only [V.beq_refl, Bool.and_true]) (
sat_ob (by simp only [V.beq_refl, Bool.and_true]) (
sat_ob trivial (
sat_ob trivial (
sat_ob (by decide) (
sat_ob (by decide) (
sat_ob (by decide) (
sat_ob (by first | rfl | simp [binV, binI, eqV, eqCells]) (
sat_ob (by first | rfl | simp [binV, binI, eqV, eqCells]) (
sat_ob (by simp only [V.beq_refl, Bool.and_true]) (
sat_ob (by simp only [V.beq_refl, Bool.and_true]) (
sat_ob (by simp only [V.beq_refl, Bool.and_true]) (
sat_ob (by simp [eqV, eqCells]) (
sat_ob (by simp only [V.beq_refl, Bool.and_true]) (
sat_ob trivial (
sat_ob trivial (
sat_ob (by simp only [V.beq_refl, Bool.and_true]) (
sat_ob (by decide) (
sat_ob (by decide) (
sat_ob (by simp only [V.beq_refl, Bool.and_true]) (
sat_ob (min0 _) (
sat_ob (by decide) (
sat_ob (by decide) (
sat_ob (by decide) (
sat_ob (by decide) (
sat_ob (by decide) (
sat_ob (by decide) (
sat_ob (by first | rfl | simp [binV, binI, eqV, eqCells]) (
sat_ob (by first | rfl | simp [binV, binI, eqV, eqCells]) (
sat_ob (by simp only [V.beq_refl, Bool.and_true]) (
sat_ob (by simp only [V.beq_refl, Bool.and_true]) (
sat_ob (by simp only [V.beq_refl, Bool.and_true]) (
sat_ob (by simp only [V.beq_refl, Bool.and_true]) (
sat_ob (by simp [eqV, eqCells]) (
sat_ob trivial (
sat_ob (by simp only [V.beq_refl, Bool.and_true]) (
sat_ob (by decide) (
sat_ob (by decide) (
sat_ob (by decide) (
sat_ob (by decide) (
sat_ob (by decide) (
sat_ob (by decide) (
sat_ob (by decide) (
sat_ob (by decide) (
sat_ob (by decide) (
sat_ob (by decide) (
sat_ob (by decide) (
sat_ob (by decide) (
sat_ob (by simp only [V.beq_refl, Bool.and_true]) (
sat_ob (min0 _) (
sat_ob (by decide) (
sat_ob (by decide) (
sat_ob (by decide) (
sat_ob (by decide) (
sat_leaf (rfl))))))))))))))))))))))))))))))))))))))))))))))))))))))))))))))))))))))))))))))))))))))))))))))))))))))))))))))))
theorem runLinkChange0_0t (a : Gw.Offer) (b : Gw.Offer) (hwa : loL (fineO a).wait = 0) (hwb : loL (fineO b).wait = 0) : Run Tryz.prog 14 [.agg a.vs, .agg b.vs, .bool true] (tabH kT0 kT1 kT2 3) fun v _ => v = .bool true := run_plainU mixed (show TabX Tryz.prog noPX (oxLinkChange0_0t a b) from ((((((TabX.nil.addO ans_begun).addT (ans_fine noV)).addT (ans_may (fun n => match n with | 12 => some (.bool true) | 20 => some (.bool true) | _ => none))).addT (ans_deal (fun n => match n with | 151 => some (.tup [.agg (dv b a 0), .bool true]) | 311 => some (.tup [.agg (dv a b 0), .bool true]) | _ => none))).addT (ans_put noV)).addT (ans_get (fun n => match n with | 138 => some (.tup [.agg [.int .u32 1, .int .u32 2, .int .i64 0, .int .i64 1, .int .i64 (fineO a).baud, .int .i64 (fineO a).silent, .int .i64 (fineO a).win, .int .i64 (fineO a).size, .int .i64 (fineO a).wait], .bool true]) | 298 => some (.tup [.agg [.int .u32 2, .int .u32 1, .int .i64 0, .int .i64 1, .int .i64 (fineO b).baud, .int .i64 (fineO b).silent, .int .i64 (fineO b).win, .int .i64 (fineO b).size, .int .i64 (fineO b).wait], .bool true]) | _ => none)))) LD.tabDL (show LD.DL 14 = some LD.c14 from rfl) (treeLinkChange0_0t_eq a b) (satLinkChange0_0t a b hwa hwb)
def oxLinkChange0_1f (a : Gw.Offer) (b : Gw.Offer) : OTab := (consT 79 (gD dGet pGet (fun n => match n with | 138 => some (.tup [.agg [.int .u32 1, .int .u32 2, .int .i64 0, .int .i64 1, .int .i64 (fineO a).baud, .int .i64 (fineO a).silent, .int .i64 (fineO a).win, .int .i64 (fineO a).size, .int .i64 (fineO a).wait], .bool true]) | 298 => some (.tup [.agg [.int .u32 2, .int .u32 1, .int .i64 0, .int .i64 1, .int .i64 (fineO b).baud, .int .i64 (fineO b).silent, .int .i64 (fineO b).win, .int .i64 (fineO b).size, .int .i64 (fineO b).wait], .bool true]) | _ => none)) (consT 106 (gD dPut pPut noV) (consT 80 (gDT kT0 kT1 kT2 dDeal pDeal (fun n => match n with | 151 => some (.tup [.agg (dv b a 0), .bool true]) | 311 => some (.tup [.agg (dv a b 1), .bool true]) | _ => none)) (consT 76 (gD dOff pMayQ (fun n => match n with | 12 => some (.bool true) | 20 => some (.bool true) | _ => none)) (consT 20 (gD dOff pFine noV) (consO 19 (gTrue kT0 kT1 kT2) noOX))))))
def treeLinkChange0_1f (a : Gw.Offer) (b : Gw.Offer) : DT V :=
  .ob (dOff [.agg a.vs]) (
.ob (((V.beq (.agg b.vs) (.agg b.vs)) && true) = true) (
.ob (dOff [.agg b.vs]) (
.ob (dOff [.agg (fineO a).vs]) (
.ob (pMayQ [.agg (fineO a).vs] = (.bool true)) (
.ob (((V.beq (.agg (fineO b).vs) (.agg (fineO b).vs)) && true) = true) (
.ob (dOff [.agg (fineO b).vs]) (
.ob (pMayQ [.agg (fineO b).vs] = (.bool true)) (
.ob (True) (
.ob (IntKind.i64 = IntKind.i64 ∧ (250 : Int) ≠ 0) (
.ob (((V.beq (.int .u32 2) (.int .u32 2)) && true) = true) (
.ob (((V.beq (.int .u32 2) (.int .u32 2)) && true) = true) (
.ob (dPut [.agg [.int .u32 1, .int .u32 2, .int .i64 0, .int .i64 1, .int .i64 (fineO a).baud, .int .i64 (fineO a).silent, .int .i64 (fineO a).win, .int .i64 (fineO a).size, .int .i64 (fineO a).wait]]) (
.ob (9 = 9 ∧ 0 ≤ (0 : Int) ∧ (0 : Int) < ((1 : Nat) : Int)) (
.ob (Gw.lenStr (.str (setupStr ⟨1, 2, 0, 1, (fineO a)⟩)) = some (.int .i64 25)) (
.ob (Gw.lenStr (.str (setupStr ⟨1, 2, 0, 1, (fineO a)⟩)) = some (.int .i64 25)) (
.ob (((V.beq (.str (setupStr ⟨1, 2, 0, 1, (fineO a)⟩)) (.str (setupStr ⟨1, 2, 0, 1, (fineO a)⟩))) && ((V.beq (.bool true) (.bool true)) && ((V.beq (.agg [.int .i64 127, .int .i64 255]) (.agg [.int .i64 127, .int .i64 255])) && true))) = true) (
.ob (((V.beq (.int .i64 2) (.int .i64 2)) && true) = true) (
.ob (((V.beq (.agg [.int .i64 127, .int .i64 255, .bool true, .int .i64 3, .int .i64 2, .int .i64 0, .int .i64 0, .bool true, .str (setupStr ⟨1, 2, 0, 1, (fineO a)⟩)]) (.agg [.int .i64 127, .int .i64 255, .bool true, .int .i64 3, .int .i64 2, .int .i64 0, .int .i64 0, .bool true, .str (setupStr ⟨1, 2, 0, 1, (fineO a)⟩)])) && true) = true) (
.ob (((eqV (.agg [.i, .i, .b, .i, .i, .i, .i, .b, .s]) (.agg [.int .i64 127, .int .i64 255, .bool true, .int .i64 3, .int .i64 2, .int .i64 0, .int .i64 0, .bool true, .str (setupStr ⟨1, 2, 0, 1, (fineO a)⟩)]) (.agg [.int .i64 127, .int .i64 255, .bool true, .int .i64 3, .int .i64 2, .int .i64 0, .int .i64 0, .bool true, .str (setupStr ⟨1, 2, 0, 1, (fineO a)⟩)])).map fun b => V.bool (if true then !b else b)) = some (.bool false)) (
.ob (((V.beq (.agg [.int .i64 127, .int .i64 255]) (.agg [.int .i64 127, .int .i64 255])) && true) = true) (
.ob (True) (
.ob (dGet [.str (setupStr ⟨1, 2, 0, 1, (fineO a)⟩)]) (
.ob (pGet [.str (setupStr ⟨1, 2, 0, 1, (fineO a)⟩)] = (.tup [.agg [.int .u32 1, .int .u32 2, .int .i64 0, .int .i64 1, .int .i64 (fineO a).baud, .int .i64 (fineO a).silent, .int .i64 (fineO a).win, .int .i64 (fineO a).size, .int .i64 (fineO a).wait], .bool true])) (
.ob (dDeal [.agg (fineO b).vs, .agg (fineO a).vs]) (
.ob (pDeal [.agg (fineO b).vs, .agg (fineO a).vs] = (.tup [.agg (dv b a 0), .bool true])) (
.ob (((V.beq (.int .i64 (dealL (fineO b) (fineO a)).size) (.int .i64 (dealL (fineO b) (fineO a)).size)) && true) = true) (
.ob (((V.beq (.int .i64 (dealL (fineO b) (fineO a)).size) (.int .i64 (dealL (fineO b) (fineO a)).size)) && true) = true) (
.ob (((V.beq (.agg (dv b a 0)) (.agg (dv b a 0))) && ((V.beq (.agg [.int .i64 0, .int .i64 1]) (.agg [.int .i64 0, .int .i64 1])) && true)) = true) (
.ob (((V.beq (.agg (dv b a 0)) (.agg (dv b a 0))) && ((V.beq (.agg [.int .i64 0, .int .i64 1]) (.agg [.int .i64 0, .int .i64 1])) && true)) = true) (
.ob (((V.beq (.agg (dv b a 0)) (.agg (dv b a 0))) && ((V.beq (.agg [.int .i64 0, .int .i64 1]) (.agg [.int .i64 0, .int .i64 1])) && true)) = true) (
.ob (((V.beq (.agg (dv b a 0)) (.agg (dv b a 0))) && true) = true) (
.ob (((V.beq (.int .i64 0) (.int .i64 0)) && true) = true) (
.ob (((V.beq (.int .i64 0) (.int .i64 0)) && true) = true) (
.ob (((V.beq (.int .i64 0) (.int .i64 0)) && true) = true) (
.ob (dPut [.agg [.int .u32 2, .int .u32 1, .int .i64 0, .int .i64 1, .int .i64 (fineO b).baud, .int .i64 (fineO b).silent, .int .i64 (fineO b).win, .int .i64 (fineO b).size, .int .i64 (fineO b).wait]]) (
.ob (9 = 9 ∧ 0 ≤ (0 : Int) ∧ (0 : Int) < ((1 : Nat) : Int)) (
.ob (Gw.lenStr (.str (setupStr ⟨2, 1, 0, 1, (fineO b)⟩)) = some (.int .i64 25)) (
.ob (Gw.lenStr (.str (setupStr ⟨2, 1, 0, 1, (fineO b)⟩)) = some (.int .i64 25)) (
.ob (((V.beq (.str (setupStr ⟨2, 1, 0, 1, (fineO b)⟩)) (.str (setupStr ⟨2, 1, 0, 1, (fineO b)⟩))) && ((V.beq (.bool false) (.bool false)) && ((V.beq (.agg [.int .i64 127, .int .i64 255]) (.agg [.int .i64 127, .int .i64 255])) && true))) = true) (
.ob (((V.beq (.int .i64 3) (.int .i64 3)) && true) = true) (
.ob (((V.beq (.agg [.int .i64 127, .int .i64 255, .bool false, .int .i64 3, .int .i64 3, .int .i64 0, .int .i64 0, .bool true, .str (setupStr ⟨2, 1, 0, 1, (fineO b)⟩)]) (.agg [.int .i64 127, .int .i64 255, .bool false, .int .i64 3, .int .i64 3, .int .i64 0, .int .i64 0, .bool true, .str (setupStr ⟨2, 1, 0, 1, (fineO b)⟩)])) && true) = true) (
.ob (((eqV (.agg [.i, .i, .b, .i, .i, .i, .i, .b, .s]) (.agg [.int .i64 127, .int .i64 255, .bool false, .int .i64 3, .int .i64 3, .int .i64 0, .int .i64 0, .bool true, .str (setupStr ⟨2, 1, 0, 1, (fineO b)⟩)]) (.agg [.int .i64 127, .int .i64 255, .bool false, .int .i64 3, .int .i64 3, .int .i64 0, .int .i64 0, .bool true, .str (setupStr ⟨2, 1, 0, 1, (fineO b)⟩)])).map fun b => V.bool (if true then !b else b)) = some (.bool false)) (
.ob (((V.beq (.agg [.int .i64 127, .int .i64 255]) (.agg [.int .i64 127, .int .i64 255])) && true) = true) (
.ob (True) (
.ob (dGet [.str (setupStr ⟨2, 1, 0, 1, (fineO b)⟩)]) (
.ob (pGet [.str (setupStr ⟨2, 1, 0, 1, (fineO b)⟩)] = (.tup [.agg [.int .u32 2, .int .u32 1, .int .i64 0, .int .i64 1, .int .i64 (fineO b).baud, .int .i64 (fineO b).silent, .int .i64 (fineO b).win, .int .i64 (fineO b).size, .int .i64 (fineO b).wait], .bool true])) (
.ob (dDeal [.agg (fineO a).vs, .agg (fineO b).vs]) (
.ob (pDeal [.agg (fineO a).vs, .agg (fineO b).vs] = (.tup [.agg (dv a b 1), .bool true])) (
.ob (True) (
.ob (((V.beq (.int .i64 (dealL (fineO a) (fineO b)).size) (.int .i64 (dealL (fineO a) (fineO b)).size)) && true) = true) (
.ob (((V.beq (.int .i64 (dealL (fineO a) (fineO b)).size) (.int .i64 (dealL (fineO a) (fineO b)).size)) && true) = true) (
.ob (((V.beq (.agg (dv a b 1)) (.agg (dv a b 1))) && ((V.beq (.agg [.int .i64 0, .int .i64 1]) (.agg [.int .i64 0, .int .i64 1])) && true)) = true) (
.ob (((V.beq (.agg (dv a b 1)) (.agg (dv a b 1))) && ((V.beq (.agg [.int .i64 0, .int .i64 1]) (.agg [.int .i64 0, .int .i64 1])) && true)) = true) (
.ob (((V.beq (.agg (dv a b 1)) (.agg (dv a b 1))) && ((V.beq (.agg [.int .i64 0, .int .i64 1]) (.agg [.int .i64 0, .int .i64 1])) && true)) = true) (
.ob (((V.beq (.agg (dv a b 1)) (.agg (dv a b 1))) && true) = true) (
.ob (((V.beq (.int .i64 1) (.int .i64 1)) && true) = true) (
.ob (((V.beq (.int .i64 1) (.int .i64 1)) && true) = true) (
.ob (((V.beq (.int .i64 1) (.int .i64 1)) && true) = true) (
.ob (True) (
.ob (True) (
.ob (9 = 9 ∧ 0 ≤ (0 : Int) ∧ (0 : Int) < ((1 : Nat) : Int)) (
.ob (9 = 9 ∧ 0 ≤ (0 : Int) ∧ (0 : Int) < ((1 : Nat) : Int)) (
.ob (Gw.lenStr (.str []) = some (.int .i64 0)) (
.ob (Gw.lenStr (.str []) = some (.int .i64 0)) (
.ob (((V.beq (.str []) (.str [])) && ((V.beq (.bool true) (.bool true)) && ((V.beq (.agg [.int .i64 0, .int .i64 1]) (.agg [.int .i64 0, .int .i64 1])) && true))) = true) (
.ob (((V.beq (.int .i64 6) (.int .i64 6)) && true) = true) (
.ob (((V.beq (.agg [.int .i64 0, .int .i64 1, .bool true, .int .i64 3, .int .i64 6, .int .i64 0, .int .i64 0, .bool true, .str []]) (.agg [.int .i64 0, .int .i64 1, .bool true, .int .i64 3, .int .i64 6, .int .i64 0, .int .i64 0, .bool true, .str []])) && true) = true) (
.ob (((eqV (.agg [.i, .i, .b, .i, .i, .i, .i, .b, .s]) (.agg [.int .i64 0, .int .i64 1, .bool true, .int .i64 3, .int .i64 6, .int .i64 0, .int .i64 0, .bool true, .str []]) (.agg [.int .i64 0, .int .i64 1, .bool true, .int .i64 3, .int .i64 6, .int .i64 0, .int .i64 0, .bool true, .str []])).map fun b => V.bool (if true then !b else b)) = some (.bool false)) (
.ob (((V.beq (.agg [.int .i64 0, .int .i64 1]) (.agg [.int .i64 0, .int .i64 1])) && true) = true) (
.ob (True) (
.ob (True) (
.ob (((V.beq (.bool true) (.bool true)) && true) = true) (
.ob ((4 = 4 ∧ ([.int .i64 6, .int .u32 1, .str [], .nils] : List V).length = 1 * 4) ∧ allOne [.int .i64 6, .int .u32 1, .str [], .nils] = true ∧ 1 * 56 ≤ 70368744177664) (
.ob (4 = 4 ∧ 0 ≤ (0 : Int) ∧ (0 : Int) < ((1 : Nat) : Int)) (
.ob (((V.beq (.int .i64 1) (.int .i64 1)) && true) = true) (
.ob (minV (.int .i64 (if (7 : Int) < (if (1 : Int) > (dealL (fineO b) (fineO a)).win then 1 else (dealL (fineO b) (fineO a)).win) then 7 else (if (1 : Int) > (dealL (fineO b) (fineO a)).win then 1 else (dealL (fineO b) (fineO a)).win))) [(.int .i64 0)] = some (.int .i64 0)) (
.ob ((0 ≤ (0 : Int) ∧ (0 : Int) ≤ ((0 : Nat) : Int)) ∧ (True)) (
.ob ((9 = 9 ∧ ([.int .i64 0, .int .i64 0, .bool true, .int .i64 2, .int .i64 0, .int .i64 0, .int .i64 0, .bool false, .str []] : List V).length = 1 * 9) ∧ allOne [.int .i64 0, .int .i64 0, .bool true, .int .i64 2, .int .i64 0, .int .i64 0, .int .i64 0, .bool false, .str []] = true ∧ 1 * 80 ≤ 70368744177664) (
.ob (9 = 9 ∧ 0 ≤ (0 : Int) ∧ (0 : Int) < ((1 : Nat) : Int)) (
.ob (9 = 9 ∧ 0 ≤ (0 : Int) ∧ (0 : Int) < ((1 : Nat) : Int)) (
.ob (9 = 9 ∧ 0 ≤ (0 : Int) ∧ (0 : Int) < ((1 : Nat) : Int)) (
.ob (9 = 9 ∧ 0 ≤ (0 : Int) ∧ (0 : Int) < ((1 : Nat) : Int)) (
.ob (Gw.lenStr (.str []) = some (.int .i64 0)) (
.ob (Gw.lenStr (.str []) = some (.int .i64 0)) (
.ob (((V.beq (.str []) (.str [])) && ((V.beq (.bool true) (.bool true)) && ((V.beq (.agg [.int .i64 0, .int .i64 1]) (.agg [.int .i64 0, .int .i64 1])) && true))) = true) (
.ob (((V.beq (.int .i64 0) (.int .i64 0)) && ((V.beq (.int .i64 0) (.int .i64 0)) && true)) = true) (
.ob (((V.beq (.int .i64 0) (.int .i64 0)) && true) = true) (
.ob (((V.beq (.agg [.int .i64 0, .int .i64 1, .bool true, .int .i64 2, .int .i64 0, .int .i64 0, .int .i64 0, .bool true, .str []]) (.agg [.int .i64 0, .int .i64 1, .bool true, .int .i64 2, .int .i64 0, .int .i64 0, .int .i64 0, .bool true, .str []])) && true) = true) (
.ob (((eqV (.agg [.i, .i, .b, .i, .i, .i, .i, .b, .s]) (.agg [.int .i64 0, .int .i64 1, .bool true, .int .i64 2, .int .i64 0, .int .i64 0, .int .i64 0, .bool true, .str []]) (.agg [.int .i64 0, .int .i64 1, .bool true, .int .i64 2, .int .i64 0, .int .i64 0, .int .i64 0, .bool true, .str []])).map fun b => V.bool (if true then !b else b)) = some (.bool false)) (
.ob (True) (
.ob (((V.beq (.bool true) (.bool true)) && true) = true) (
.ob (IntKind.i64 = IntKind.i64 ∧ (8 : Int) ≠ 0) (
.ob (IntKind.i64 = IntKind.i64 ∧ (8 : Int) ≠ 0) (
.ob (IntKind.i64 = IntKind.i64 ∧ (8 : Int) ≠ 0) (
.ob (IntKind.i64 = IntKind.i64 ∧ (8 : Int) ≠ 0) (
.ob (IntKind.i64 = IntKind.i64 ∧ (8 : Int) ≠ 0) (
.ob (IntKind.i64 = IntKind.i64 ∧ (8 : Int) ≠ 0) (
.ob (IntKind.i64 = IntKind.i64 ∧ (8 : Int) ≠ 0) (
.ob (IntKind.i64 = IntKind.i64 ∧ (8 : Int) ≠ 0) (
.ob (IntKind.i64 = IntKind.i64 ∧ (8 : Int) ≠ 0) (
.ob (IntKind.i64 = IntKind.i64 ∧ (8 : Int) ≠ 0) (
.ob ((True) ∧ (0 ≤ (0 : Int) ∧ (0 : Int) ≤ ((0 : Nat) : Int))) (
.ob (4 = 4 ∧ 0 ≤ (0 : Int) ∧ (0 : Int) < ((1 : Nat) : Int)) (
.ob (((V.beq (.int .i64 2) (.int .i64 2)) && true) = true) (
.ob (minV (.int .i64 (if (7 : Int) < (if (1 : Int) > (dealL (fineO a) (fineO b)).win then 1 else (dealL (fineO a) (fineO b)).win) then 7 else (if (1 : Int) > (dealL (fineO a) (fineO b)).win then 1 else (dealL (fineO a) (fineO b)).win))) [(.int .i64 0)] = some (.int .i64 0)) (
.ob ((0 ≤ (0 : Int) ∧ (0 : Int) ≤ ((0 : Nat) : Int)) ∧ (True)) (
.ob ((9 = 9 ∧ ([.int .i64 0, .int .i64 0, .bool false, .int .i64 2, .int .i64 0, .int .i64 0, .int .i64 0, .bool false, .str []] : List V).length = 1 * 9) ∧ allOne [.int .i64 0, .int .i64 0, .bool false, .int .i64 2, .int .i64 0, .int .i64 0, .int .i64 0, .bool false, .str []] = true ∧ 1 * 80 ≤ 70368744177664) (
.ob (9 = 9 ∧ 0 ≤ (0 : Int) ∧ (0 : Int) < ((1 : Nat) : Int)) (
.ob (9 = 9 ∧ 0 ≤ (0 : Int) ∧ (0 : Int) < ((1 : Nat) : Int)) (
.leaf (.bool true)))))))))))))))))))))))))))))))))))))))))))))))))))))))))))))))))))))))))))))))))))))))))))))))))))))))))))))))
set_option maxRecDepth 1000000 in
theorem treeLinkChange0_1f_eq (a : Gw.Offer) (b : Gw.Offer) : funT (mkXT (noPX) (oxLinkChange0_1f a b)) (mkXP (noPX)) (mkX (noPX) (oxLinkChange0_1f a b)) LD.DL (fun g => match g with | 113 => (fun k => match k with | 38 => some fun t h => (match h.n with | 93 => (.int .i64 25, h) | 112 => (.int .i64 25, h) | 253 => (.int .i64 25, h) | 272 => (.int .i64 25, h) | 415 => (.int .i64 0, h) | 434 => (.int .i64 0, h) | 514 => (.int .i64 0, h) | _ => (.int .i64 0, h)) | _ => none) | 77 => (fun k => match k with | 52 => some fun t h => (match h.n with | 128 => (.bool false, h) | 288 => (.bool false, h) | 450 => (.bool false, h) | _ => (.bool false, h)) | _ => none) | 147 => (fun k => match k with | 18 => some fun t h => (match h.n with | 464 => (.int .i64 0, h) | _ => (.int .i64 0, h)) | _ => none) | _ => noOrc) (fun k => match k with | 14 => [15, 38, 44, 50, 56, 58, 83, 89, 94, 99, 105, 110, 120, 126, 131, 137] | 21 => [31, 41, 49, 60, 69, 72, 76] | 22 => [10, 15, 20, 25, 30, 31, 37, 41, 45, 50, 57, 81, 90, 98, 102] | 26 => [15, 22, 31, 52, 58, 74, 80, 86, 96] | 35 => [8, 11, 15, 19, 23] | 39 => [16, 25, 30, 36, 39, 44, 47, 57, 67, 82, 86, 99, 108, 116] | 41 => [10, 20] | 56 => [10, 33, 34, 40, 44, 49, 52, 66, 67, 68, 71] | 60 => [8, 25, 32] | 62 => [28, 30] | 63 => [9] | 64 => [9, 23] | 65 => [7, 20, 34] | 77 => [8, 15, 26, 32, 37, 41, 46, 52] | 81 => [14, 20, 28] | 82 => [13] | 83 => [7, 11, 17, 28, 31, 32, 37, 45, 55] | 107 => [10] | 108 => [11, 17, 34, 60] | 109 => [13] | 113 => [11, 16, 20, 25, 30, 34, 39, 47] | 114 => [8, 14, 19, 24, 34, 44] | 126 => [17] | 127 => [12, 21, 26] | 128 => [8, 19] | 146 => [6, 9, 20] | 147 => [30] | 148 => [11, 15, 28] | 152 => [9] | 156 => [13] | 165 => [8, 12, 16, 19, 23, 27, 30, 34, 38] | 166 => [8, 13, 16, 18, 21] | 174 => [17] | 175 => [8, 21, 24, 30] | 189 => [6, 10] | 190 => [9, 14, 15, 19, 23, 32] | _ => []) 12 noOrc [15, 38, 44, 50, 56, 58, 83, 89, 94, 99, 105, 110, 120, 126, 131, 137] (noLt) LD.c14 [.agg a.vs, .agg b.vs, .bool false] (tabH kT0 kT1 kT2 3) (fun v _ => v) = treeLinkChange0_1f a b := by kernel_rfl
theorem satLinkChange0_1f (a : Gw.Offer) (b : Gw.Offer) (hwa : loL (fineO a).wait = 0) (hwb : loL (fineO b).wait = 1) : (treeLinkChange0_1f a b).sat fun v => v = .bool true :=
 sat_ob trivial (
sat_ob (by simp only [V.beq_refl, Bool.and_true]) (
sat_ob trivial (
sat_ob trivial (
sat_ob (pMay_fine a) (
sat_ob (by simp only [V.beq_refl, Bool.and_true]) (
sat_ob trivial (
sat_ob (pMay_fine b) (
sat_ob trivial (
sat_ob (by decide) (
sat_ob (by simp only [V.beq_refl, Bool.and_true]) (
sat_ob (by simp only [V.beq_refl, Bool.and_true]) (
sat_ob (okSet 1 2 0 1 a (by decide) (by decide) (by decide) (by decide)) (
sat_ob (by decide) (
sat_ob rfl (
sat_ob rfl (
sat_ob (by simp only [V.beq_refl, Bool.and_true]) (
sat_ob (by simp only [V.beq_refl, Bool.and_true]) (
sat_ob (by simp only [V.beq_refl, Bool.and_true]) (
sat_ob (by simp [eqV, eqCells]) (
sat_ob (by simp only [V.beq_refl, Bool.and_true]) (
sat_ob trivial (
sat_ob ⟨⟨1, 2, 0, 1, (fineO a)⟩, (okSet 1 2 0 1 a (by decide) (by decide) (by decide) (by decide)), rfl⟩ (
sat_ob (get_put ⟨1, 2, 0, 1, (fineO a)⟩ (okSet 1 2 0 1 a (by decide) (by decide) (by decide) (by decide))) (
sat_ob ⟨mayO_fine b, mayO_fine a⟩ (
sat_ob (by show V.tup [.agg [.int .i64 _, .int .i64 _, .int .i64 _, .int .i64 _, .int .i64 (loL (fineO a).wait)], .bool true] = _; rw [hwa]; rfl) (
sat_ob (by simp only [V.beq_refl, Bool.and_true]) (
sat_ob (by simp only [V.beq_refl, Bool.and_true]) (
sat_ob (by simp only [V.beq_refl, Bool.and_true]) (
sat_ob (by simp only [V.beq_refl, Bool.and_true]) (
sat_ob (by simp only [V.beq_refl, Bool.and_true]) (
sat_ob (by simp only [V.beq_refl, Bool.and_true]) (
sat_ob (by simp only [V.beq_refl, Bool.and_true]) (
sat_ob (by simp only [V.beq_refl, Bool.and_true]) (
sat_ob (by simp only [V.beq_refl, Bool.and_true]) (
sat_ob (okSet 2 1 0 1 b (by decide) (by decide) (by decide) (by decide)) (
sat_ob (by decide) (
sat_ob rfl (
sat_ob rfl (
sat_ob (by simp only [V.beq_refl, Bool.and_true]) (
sat_ob (by simp only [V.beq_refl, Bool.and_true]) (
sat_ob (by simp only [V.beq_refl, Bool.and_true]) (
sat_ob (by simp [eqV, eqCells]) (
sat_ob (by simp only [V.beq_refl, Bool.and_true]) (
sat_ob trivial (
sat_ob ⟨⟨2, 1, 0, 1, (fineO b)⟩, (okSet 2 1 0 1 b (by decide) (by decide) (by decide) (by decide)), rfl⟩ (
sat_ob (get_put ⟨2, 1, 0, 1, (fineO b)⟩ (okSet 2 1 0 1 b (by decide) (by decide) (by decide) (by decide))) (
sat_ob ⟨mayO_fine a, mayO_fine b⟩ (
sat_ob (by show V.tup [.agg [.int .i64 _, .int .i64 _, .int .i64 _, .int .i64 _, .int .i64 (loL (fineO b).wait)], .bool true] = _; rw [hwb]; rfl) (
sat_ob trivial (
sat_ob (by simp only [V.beq_refl, Bool.and_true]) (
sat_ob (by simp only [V.beq_refl, Bool.and_true]) (
sat_ob (by simp only [V.beq_refl, Bool.and_true]) (
sat_ob (by simp only [V.beq_refl, Bool.and_true]) (
sat_ob (by simp only [V.beq_refl, Bool.and_true]) (
sat_ob (by simp only [V.beq_refl, Bool.and_true]) (
sat_ob (by simp only [V.beq_refl, Bool.and_true]) (
sat_ob (by simp only [V.beq_refl, Bool.and_true]) (
sat_ob (by simp only [V.beq_refl, Bool.and_true]) (
sat_ob trivial (
sat_ob trivial (
sat_ob (by decide) (
sat_ob (by decide) (
sat_ob (by first | rfl | simp [binV, binI, eqV, eqCells]) (
sat_ob (by first | rfl | simp [binV, binI, eqV, eqCells]) (
sat_ob (by simp only [V.beq_refl, Bool.and_true]) (
sat_ob (by simp only [V.beq_refl, Bool.and_true]) (
sat_ob (by simp only [V.beq_refl, Bool.and_true]) (
sat_ob (by simp [eqV, eqCells]) (
sat_ob (by simp only [V.beq_refl, Bool.and_true]) (
sat_ob trivial (
sat_ob trivial (
sat_ob (by simp only [V.beq_refl, Bool.and_true]) (
sat_ob (by decide) (
sat_ob (by decide) (
sat_ob (by simp only [V.beq_refl, Bool.and_true]) (
sat_ob (min0 _) (
sat_ob (by decide) (
sat_ob (by decide) (
sat_ob (by decide) (
sat_ob (by decide) (
sat_ob (by decide) (
sat_ob (by decide) (
sat_ob (by first | rfl | simp [binV, binI, eqV, eqCells]) (
sat_ob (by first | rfl | simp [binV, binI, eqV, eqCells]) (
sat_ob (by simp only [V.beq_refl, Bool.and_true]) (
sat_ob (by simp only [V.beq_refl, Bool.and_true]) (
sat_ob (by simp only [V.beq_refl, Bool.and_true]) (
sat_ob (by simp only [V.beq_refl, Bool.and_true]) (
sat_ob (by simp [eqV, eqCells]) (
sat_ob trivial (
sat_ob (by simp only [V.beq_refl, Bool.and_true]) (
sat_ob (by decide) (
sat_ob (by decide) (
sat_ob (by decide) (
sat_ob (by decide) (
sat_ob (by decide) (
sat_ob (by decide) (
sat_ob (by decide) (
sat_ob (by decide) (
sat_ob (by decide) (
sat_ob (by decide) (
sat_ob (by decide) (
sat_ob (by decide) (
sat_ob (by simp only [V.beq_refl, Bool.and_true]) (
sat_ob (min0 _) (
sat_ob (by decide) (
sat_ob (by decide) (
sat_ob (by decide) (
sat_ob (by decide) (
sat_leaf (rfl)))))))))))))))))))))))))))))))))))))))))))))))))))))))))))))))))))))))))))))))))))))))))))))))))))))))))))))))
theorem runLinkChange0_1f (a : Gw.Offer) (b : Gw.Offer) (hwa : loL (fineO a).wait = 0) (hwb : loL (fineO b).wait = 1) : Run Tryz.prog 14 [.agg a.vs, .agg b.vs, .bool false] (tabH kT0 kT1 kT2 3) fun v _ => v = .bool true := run_plainU mixed (show TabX Tryz.prog noPX (oxLinkChange0_1f a b) from ((((((TabX.nil.addO ans_begun).addT (ans_fine noV)).addT (ans_may (fun n => match n with | 12 => some (.bool true) | 20 => some (.bool true) | _ => none))).addT (ans_deal (fun n => match n with | 151 => some (.tup [.agg (dv b a 0), .bool true]) | 311 => some (.tup [.agg (dv a b 1), .bool true]) | _ => none))).addT (ans_put noV)).addT (ans_get (fun n => match n with | 138 => some (.tup [.agg [.int .u32 1, .int .u32 2, .int .i64 0, .int .i64 1, .int .i64 (fineO a).baud, .int .i64 (fineO a).silent, .int .i64 (fineO a).win, .int .i64 (fineO a).size, .int .i64 (fineO a).wait], .bool true]) | 298 => some (.tup [.agg [.int .u32 2, .int .u32 1, .int .i64 0, .int .i64 1, .int .i64 (fineO b).baud, .int .i64 (fineO b).silent, .int .i64 (fineO b).win, .int .i64 (fineO b).size, .int .i64 (fineO b).wait], .bool true]) | _ => none)))) LD.tabDL (show LD.DL 14 = some LD.c14 from rfl) (treeLinkChange0_1f_eq a b) (satLinkChange0_1f a b hwa hwb)
def oxLinkChange0_1t (a : Gw.Offer) (b : Gw.Offer) : OTab := (consT 79 (gD dGet pGet (fun n => match n with | 138 => some (.tup [.agg [.int .u32 1, .int .u32 2, .int .i64 0, .int .i64 1, .int .i64 (fineO a).baud, .int .i64 (fineO a).silent, .int .i64 (fineO a).win, .int .i64 (fineO a).size, .int .i64 (fineO a).wait], .bool true]) | 298 => some (.tup [.agg [.int .u32 2, .int .u32 1, .int .i64 0, .int .i64 1, .int .i64 (fineO b).baud, .int .i64 (fineO b).silent, .int .i64 (fineO b).win, .int .i64 (fineO b).size, .int .i64 (fineO b).wait], .bool true]) | _ => none)) (consT 106 (gD dPut pPut noV) (consT 80 (gDT kT0 kT1 kT2 dDeal pDeal (fun n => match n with | 151 => some (.tup [.agg (dv b a 0), .bool true]) | 311 => some (.tup [.agg (dv a b 1), .bool true]) | _ => none)) (consT 76 (gD dOff pMayQ (fun n => match n with | 12 => some (.bool true) | 20 => some (.bool true) | _ => none)) (consT 20 (gD dOff pFine noV) (consO 19 (gTrue kT0 kT1 kT2) noOX))))))
def treeLinkChange0_1t (a : Gw.Offer) (b : Gw.Offer) : DT V :=
  .ob (dOff [.agg a.vs]) (
.ob (((V.beq (.agg b.vs) (.agg b.vs)) && true) = true) (
.ob (dOff [.agg b.vs]) (
.ob (dOff [.agg (fineO a).vs]) (
.ob (pMayQ [.agg (fineO a).vs] = (.bool true)) (
.ob (((V.beq (.agg (fineO b).vs) (.agg (fineO b).vs)) && true) = true) (
.ob (dOff [.agg (fineO b).vs]) (
.ob (pMayQ [.agg (fineO b).vs] = (.bool true)) (
.ob (True) (
.ob (IntKind.i64 = IntKind.i64 ∧ (250 : Int) ≠ 0) (
.ob (((V.beq (.int .u32 2) (.int .u32 2)) && true) = true) (
.ob (((V.beq (.int .u32 2) (.int .u32 2)) && true) = true) (
.ob (dPut [.agg [.int .u32 1, .int .u32 2, .int .i64 0, .int .i64 1, .int .i64 (fineO a).baud, .int .i64 (fineO a).silent, .int .i64 (fineO a).win, .int .i64 (fineO a).size, .int .i64 (fineO a).wait]]) (
.ob (9 = 9 ∧ 0 ≤ (0 : Int) ∧ (0 : Int) < ((1 : Nat) : Int)) (
.ob (Gw.lenStr (.str (setupStr ⟨1, 2, 0, 1, (fineO a)⟩)) = some (.int .i64 25)) (
.ob (Gw.lenStr (.str (setupStr ⟨1, 2, 0, 1, (fineO a)⟩)) = some (.int .i64 25)) (
.ob (((V.beq (.str (setupStr ⟨1, 2, 0, 1, (fineO a)⟩)) (.str (setupStr ⟨1, 2, 0, 1, (fineO a)⟩))) && ((V.beq (.bool true) (.bool true)) && ((V.beq (.agg [.int .i64 127, .int .i64 255]) (.agg [.int .i64 127, .int .i64 255])) && true))) = true) (
.ob (((V.beq (.int .i64 2) (.int .i64 2)) && true) = true) (
.ob (((V.beq (.agg [.int .i64 127, .int .i64 255, .bool true, .int .i64 3, .int .i64 2, .int .i64 0, .int .i64 0, .bool true, .str (setupStr ⟨1, 2, 0, 1, (fineO a)⟩)]) (.agg [.int .i64 127, .int .i64 255, .bool true, .int .i64 3, .int .i64 2, .int .i64 0, .int .i64 0, .bool true, .str (setupStr ⟨1, 2, 0, 1, (fineO a)⟩)])) && true) = true) (
.ob (((eqV (.agg [.i, .i, .b, .i, .i, .i, .i, .b, .s]) (.agg [.int .i64 127, .int .i64 255, .bool true, .int .i64 3, .int .i64 2, .int .i64 0, .int .i64 0, .bool true, .str (setupStr ⟨1, 2, 0, 1, (fineO a)⟩)]) (.agg [.int .i64 127, .int .i64 255, .bool true, .int .i64 3, .int .i64 2, .int .i64 0, .int .i64 0, .bool true, .str (setupStr ⟨1, 2, 0, 1, (fineO a)⟩)])).map fun b => V.bool (if true then !b else b)) = some (.bool false)) (
.ob (((V.beq (.agg [.int .i64 127, .int .i64 255]) (.agg [.int .i64 127, .int .i64 255])) && true) = true) (
.ob (True) (
.ob (dGet [.str (setupStr ⟨1, 2, 0, 1, (fineO a)⟩)]) (
.ob (pGet [.str (setupStr ⟨1, 2, 0, 1, (fineO a)⟩)] = (.tup [.agg [.int .u32 1, .int .u32 2, .int .i64 0, .int .i64 1, .int .i64 (fineO a).baud, .int .i64 (fineO a).silent, .int .i64 (fineO a).win, .int .i64 (fineO a).size, .int .i64 (fineO a).wait], .bool true])) (
.ob (dDeal [.agg (fineO b).vs, .agg (fineO a).vs]) (
.ob (pDeal [.agg (fineO b).vs, .agg (fineO a).vs] = (.tup [.agg (dv b a 0), .bool true])) (
.ob (((V.beq (.int .i64 (dealL (fineO b) (fineO a)).size) (.int .i64 (dealL (fineO b) (fineO a)).size)) && true) = true) (
.ob (((V.beq (.int .i64 (dealL (fineO b) (fineO a)).size) (.int .i64 (dealL (fineO b) (fineO a)).size)) && true) = true) (
.ob (((V.beq (.agg (dv b a 0)) (.agg (dv b a 0))) && ((V.beq (.agg [.int .i64 0, .int .i64 1]) (.agg [.int .i64 0, .int .i64 1])) && true)) = true) (
.ob (((V.beq (.agg (dv b a 0)) (.agg (dv b a 0))) && ((V.beq (.agg [.int .i64 0, .int .i64 1]) (.agg [.int .i64 0, .int .i64 1])) && true)) = true) (
.ob (((V.beq (.agg (dv b a 0)) (.agg (dv b a 0))) && ((V.beq (.agg [.int .i64 0, .int .i64 1]) (.agg [.int .i64 0, .int .i64 1])) && true)) = true) (
.ob (((V.beq (.agg (dv b a 0)) (.agg (dv b a 0))) && true) = true) (
.ob (((V.beq (.int .i64 0) (.int .i64 0)) && true) = true) (
.ob (((V.beq (.int .i64 0) (.int .i64 0)) && true) = true) (
.ob (((V.beq (.int .i64 0) (.int .i64 0)) && true) = true) (
.ob (dPut [.agg [.int .u32 2, .int .u32 1, .int .i64 0, .int .i64 1, .int .i64 (fineO b).baud, .int .i64 (fineO b).silent, .int .i64 (fineO b).win, .int .i64 (fineO b).size, .int .i64 (fineO b).wait]]) (
.ob (9 = 9 ∧ 0 ≤ (0 : Int) ∧ (0 : Int) < ((1 : Nat) : Int)) (
.ob (Gw.lenStr (.str (setupStr ⟨2, 1, 0, 1, (fineO b)⟩)) = some (.int .i64 25)) (
.ob (Gw.lenStr (.str (setupStr ⟨2, 1, 0, 1, (fineO b)⟩)) = some (.int .i64 25)) (
.ob (((V.beq (.str (setupStr ⟨2, 1, 0, 1, (fineO b)⟩)) (.str (setupStr ⟨2, 1, 0, 1, (fineO b)⟩))) && ((V.beq (.bool false) (.bool false)) && ((V.beq (.agg [.int .i64 127, .int .i64 255]) (.agg [.int .i64 127, .int .i64 255])) && true))) = true) (
.ob (((V.beq (.int .i64 3) (.int .i64 3)) && true) = true) (
.ob (((V.beq (.agg [.int .i64 127, .int .i64 255, .bool false, .int .i64 3, .int .i64 3, .int .i64 0, .int .i64 0, .bool true, .str (setupStr ⟨2, 1, 0, 1, (fineO b)⟩)]) (.agg [.int .i64 127, .int .i64 255, .bool false, .int .i64 3, .int .i64 3, .int .i64 0, .int .i64 0, .bool true, .str (setupStr ⟨2, 1, 0, 1, (fineO b)⟩)])) && true) = true) (
.ob (((eqV (.agg [.i, .i, .b, .i, .i, .i, .i, .b, .s]) (.agg [.int .i64 127, .int .i64 255, .bool false, .int .i64 3, .int .i64 3, .int .i64 0, .int .i64 0, .bool true, .str (setupStr ⟨2, 1, 0, 1, (fineO b)⟩)]) (.agg [.int .i64 127, .int .i64 255, .bool false, .int .i64 3, .int .i64 3, .int .i64 0, .int .i64 0, .bool true, .str (setupStr ⟨2, 1, 0, 1, (fineO b)⟩)])).map fun b => V.bool (if true then !b else b)) = some (.bool false)) (
.ob (((V.beq (.agg [.int .i64 127, .int .i64 255]) (.agg [.int .i64 127, .int .i64 255])) && true) = true) (
.ob (True) (
.ob (dGet [.str (setupStr ⟨2, 1, 0, 1, (fineO b)⟩)]) (
.ob (pGet [.str (setupStr ⟨2, 1, 0, 1, (fineO b)⟩)] = (.tup [.agg [.int .u32 2, .int .u32 1, .int .i64 0, .int .i64 1, .int .i64 (fineO b).baud, .int .i64 (fineO b).silent, .int .i64 (fineO b).win, .int .i64 (fineO b).size, .int .i64 (fineO b).wait], .bool true])) (
.ob (dDeal [.agg (fineO a).vs, .agg (fineO b).vs]) (
.ob (pDeal [.agg (fineO a).vs, .agg (fineO b).vs] = (.tup [.agg (dv a b 1), .bool true])) (
.ob (True) (
.ob (((V.beq (.int .i64 (dealL (fineO a) (fineO b)).size) (.int .i64 (dealL (fineO a) (fineO b)).size)) && true) = true) (
.ob (((V.beq (.int .i64 (dealL (fineO a) (fineO b)).size) (.int .i64 (dealL (fineO a) (fineO b)).size)) && true) = true) (
.ob (((V.beq (.agg (dv a b 1)) (.agg (dv a b 1))) && ((V.beq (.agg [.int .i64 0, .int .i64 1]) (.agg [.int .i64 0, .int .i64 1])) && true)) = true) (
.ob (((V.beq (.agg (dv a b 1)) (.agg (dv a b 1))) && ((V.beq (.agg [.int .i64 0, .int .i64 1]) (.agg [.int .i64 0, .int .i64 1])) && true)) = true) (
.ob (((V.beq (.agg (dv a b 1)) (.agg (dv a b 1))) && ((V.beq (.agg [.int .i64 0, .int .i64 1]) (.agg [.int .i64 0, .int .i64 1])) && true)) = true) (
.ob (((V.beq (.agg (dv a b 1)) (.agg (dv a b 1))) && true) = true) (
.ob (((V.beq (.int .i64 1) (.int .i64 1)) && true) = true) (
.ob (((V.beq (.int .i64 1) (.int .i64 1)) && true) = true) (
.ob (((V.beq (.int .i64 1) (.int .i64 1)) && true) = true) (
.ob (True) (
.ob (True) (
.ob (9 = 9 ∧ 0 ≤ (0 : Int) ∧ (0 : Int) < ((1 : Nat) : Int)) (
.ob (9 = 9 ∧ 0 ≤ (0 : Int) ∧ (0 : Int) < ((1 : Nat) : Int)) (
.ob (9 = 9 ∧ 0 ≤ (0 : Int) ∧ (0 : Int) < ((1 : Nat) : Int)) (
.ob (Gw.lenStr (.str []) = some (.int .i64 0)) (
.ob (Gw.lenStr (.str []) = some (.int .i64 0)) (
.ob (((V.beq (.str []) (.str [])) && ((V.beq (.bool true) (.bool true)) && ((V.beq (.agg [.int .i64 0, .int .i64 1]) (.agg [.int .i64 0, .int .i64 1])) && true))) = true) (
.ob (((V.beq (.int .i64 6) (.int .i64 6)) && true) = true) (
.ob (((V.beq (.agg [.int .i64 0, .int .i64 1, .bool true, .int .i64 3, .int .i64 6, .int .i64 0, .int .i64 0, .bool true, .str []]) (.agg [.int .i64 0, .int .i64 1, .bool true, .int .i64 3, .int .i64 6, .int .i64 0, .int .i64 0, .bool true, .str []])) && true) = true) (
.ob (((eqV (.agg [.i, .i, .b, .i, .i, .i, .i, .b, .s]) (.agg [.int .i64 0, .int .i64 1, .bool true, .int .i64 3, .int .i64 6, .int .i64 0, .int .i64 0, .bool true, .str []]) (.agg [.int .i64 0, .int .i64 1, .bool true, .int .i64 3, .int .i64 6, .int .i64 0, .int .i64 0, .bool true, .str []])).map fun b => V.bool (if true then !b else b)) = some (.bool false)) (
.ob (((V.beq (.agg [.int .i64 0, .int .i64 1]) (.agg [.int .i64 0, .int .i64 1])) && true) = true) (
.ob (True) (
.ob (True) (
.ob (((V.beq (.bool true) (.bool true)) && true) = true) (
.ob ((4 = 4 ∧ ([.int .i64 6, .int .u32 1, .str [], .nils] : List V).length = 1 * 4) ∧ allOne [.int .i64 6, .int .u32 1, .str [], .nils] = true ∧ 1 * 56 ≤ 70368744177664) (
.ob (4 = 4 ∧ 0 ≤ (0 : Int) ∧ (0 : Int) < ((1 : Nat) : Int)) (
.ob (((V.beq (.int .i64 1) (.int .i64 1)) && true) = true) (
.ob (minV (.int .i64 (if (7 : Int) < (if (1 : Int) > (dealL (fineO b) (fineO a)).win then 1 else (dealL (fineO b) (fineO a)).win) then 7 else (if (1 : Int) > (dealL (fineO b) (fineO a)).win then 1 else (dealL (fineO b) (fineO a)).win))) [(.int .i64 0)] = some (.int .i64 0)) (
.ob ((0 ≤ (0 : Int) ∧ (0 : Int) ≤ ((0 : Nat) : Int)) ∧ (True)) (
.ob ((9 = 9 ∧ ([.int .i64 0, .int .i64 0, .bool true, .int .i64 2, .int .i64 0, .int .i64 0, .int .i64 0, .bool false, .str []] : List V).length = 1 * 9) ∧ allOne [.int .i64 0, .int .i64 0, .bool true, .int .i64 2, .int .i64 0, .int .i64 0, .int .i64 0, .bool false, .str []] = true ∧ 1 * 80 ≤ 70368744177664) (
.ob (9 = 9 ∧ 0 ≤ (0 : Int) ∧ (0 : Int) < ((1 : Nat) : Int)) (
.ob (9 = 9 ∧ 0 ≤ (0 : Int) ∧ (0 : Int) < ((1 : Nat) : Int)) (
.ob (9 = 9 ∧ 0 ≤ (0 : Int) ∧ (0 : Int) < ((1 : Nat) : Int)) (
.ob (9 = 9 ∧ 0 ≤ (0 : Int) ∧ (0 : Int) < ((1 : Nat) : Int)) (
.ob (Gw.lenStr (.str []) = some (.int .i64 0)) (
.ob (Gw.lenStr (.str []) = some (.int .i64 0)) (
.ob (((V.beq (.str []) (.str [])) && ((V.beq (.bool true) (.bool true)) && ((V.beq (.agg [.int .i64 0, .int .i64 1]) (.agg [.int .i64 0, .int .i64 1])) && true))) = true) (
.ob (((V.beq (.int .i64 0) (.int .i64 0)) && ((V.beq (.int .i64 0) (.int .i64 0)) && true)) = true) (
.ob (((V.beq (.int .i64 0) (.int .i64 0)) && true) = true) (
.ob (((V.beq (.agg [.int .i64 0, .int .i64 1, .bool true, .int .i64 2, .int .i64 0, .int .i64 0, .int .i64 0, .bool true, .str []]) (.agg [.int .i64 0, .int .i64 1, .bool true, .int .i64 2, .int .i64 0, .int .i64 0, .int .i64 0, .bool true, .str []])) && true) = true) (
.ob (((eqV (.agg [.i, .i, .b, .i, .i, .i, .i, .b, .s]) (.agg [.int .i64 0, .int .i64 1, .bool true, .int .i64 2, .int .i64 0, .int .i64 0, .int .i64 0, .bool true, .str []]) (.agg [.int .i64 0, .int .i64 1, .bool true, .int .i64 2, .int .i64 0, .int .i64 0, .int .i64 0, .bool true, .str []])).map fun b => V.bool (if true then !b else b)) = some (.bool false)) (
.ob (True) (
.ob (((V.beq (.bool true) (.bool true)) && true) = true) (
.ob (IntKind.i64 = IntKind.i64 ∧ (8 : Int) ≠ 0) (
.ob (IntKind.i64 = IntKind.i64 ∧ (8 : Int) ≠ 0) (
.ob (IntKind.i64 = IntKind.i64 ∧ (8 : Int) ≠ 0) (
.ob (IntKind.i64 = IntKind.i64 ∧ (8 : Int) ≠ 0) (
.ob (IntKind.i64 = IntKind.i64 ∧ (8 : Int) ≠ 0) (
.ob (IntKind.i64 = IntKind.i64 ∧ (8 : Int) ≠ 0) (
.ob (IntKind.i64 = IntKind.i64 ∧ (8 : Int) ≠ 0) (
.ob (IntKind.i64 = IntKind.i64 ∧ (8 : Int) ≠ 0) (
.ob (IntKind.i64 = IntKind.i64 ∧ (8 : Int) ≠ 0) (
.ob (IntKind.i64 = IntKind.i64 ∧ (8 : Int) ≠ 0) (
.ob ((True) ∧ (0 ≤ (0 : Int) ∧ (0 : Int) ≤ ((0 : Nat) : Int))) (
.ob (4 = 4 ∧ 0 ≤ (0 : Int) ∧ (0 : Int) < ((1 : Nat) : Int)) (
.ob (((V.beq (.int .i64 2) (.int .i64 2)) && true) = true) (
.ob (minV (.int .i64 (if (7 : Int) < (if (1 : Int) > (dealL (fineO a) (fineO b)).win then 1 else (dealL (fineO a) (fineO b)).win) then 7 else (if (1 : Int) > (dealL (fineO a) (fineO b)).win then 1 else (dealL (fineO a) (fineO b)).win))) [(.int .i64 0)] = some (.int .i64 0)) (
.ob ((0 ≤ (0 : Int) ∧ (0 : Int) ≤ ((0 : Nat) : Int)) ∧ (True)) (
.ob ((9 = 9 ∧ ([.int .i64 0, .int .i64 0, .bool false, .int .i64 2, .int .i64 0, .int .i64 0, .int .i64 0, .bool false, .str []] : List V).length = 1 * 9) ∧ allOne [.int .i64 0, .int .i64 0, .bool false, .int .i64 2, .int .i64 0, .int .i64 0, .int .i64 0, .bool false, .str []] = true ∧ 1 * 80 ≤ 70368744177664) (
.ob (9 = 9 ∧ 0 ≤ (0 : Int) ∧ (0 : Int) < ((1 : Nat) : Int)) (
.ob (9 = 9 ∧ 0 ≤ (0 : Int) ∧ (0 : Int) < ((1 : Nat) : Int)) (
.leaf (.bool true))))))))))))))))))))))))))))))))))))))))))))))))))))))))))))))))))))))))))))))))))))))))))))))))))))))))))))))))
set_option maxRecDepth 1000000 in
theorem treeLinkChange0_1t_eq (a : Gw.Offer) (b : Gw.Offer) : funT (mkXT (noPX) (oxLinkChange0_1t a b)) (mkXP (noPX)) (mkX (noPX) (oxLinkChange0_1t a b)) LD.DL (fun g => match g with | 113 => (fun k => match k with | 38 => some fun t h => (match h.n with | 93 => (.int .i64 25, h) | 112 => (.int .i64 25, h) | 253 => (.int .i64 25, h) | 272 => (.int .i64 25, h) | 424 => (.int .i64 0, h) | 443 => (.int .i64 0, h) | 523 => (.int .i64 0, h) | _ => (.int .i64 0, h)) | _ => none) | 77 => (fun k => match k with | 52 => some fun t h => (match h.n with | 128 => (.bool false, h) | 288 => (.bool false, h) | 459 => (.bool false, h) | _ => (.bool false, h)) | _ => none) | 147 => (fun k => match k with | 18 => some fun t h => (match h.n with | 473 => (.int .i64 0, h) | _ => (.int .i64 0, h)) | _ => none) | _ => noOrc) (fun k => match k with | 14 => [15, 38, 44, 50, 56, 58, 63, 68, 74, 83, 89, 94, 99, 105, 110, 120, 126, 131, 137] | 21 => [31, 41, 49, 60, 69, 72, 76] | 22 => [10, 15, 20, 25, 30, 31, 37, 41, 45, 50, 57, 81, 90, 98, 102] | 26 => [15, 22, 31, 52, 58, 74, 80, 86, 96] | 35 => [8, 11, 15, 19, 23] | 39 => [16, 25, 30, 36, 39, 44, 47, 57, 67, 82, 86, 99, 108, 116] | 41 => [10, 20] | 56 => [10, 33, 34, 40, 44, 49, 52, 66, 67, 68, 71] | 60 => [8, 25, 32, 44, 49, 55, 68, 73, 78] | 62 => [28, 30] | 63 => [9] | 64 => [9, 23] | 65 => [7, 20, 34] | 77 => [8, 15, 26, 32, 37, 41, 46, 52] | 81 => [14, 20, 28] | 82 => [13] | 83 => [7, 11, 17, 28, 31, 32, 37, 45, 55] | 105 => [9] | 107 => [10] | 108 => [11, 17, 34, 60] | 109 => [13] | 113 => [11, 16, 20, 25, 30, 34, 39, 47] | 114 => [8, 14, 19, 24, 34, 44] | 126 => [17] | 127 => [12, 21, 26] | 128 => [8, 19] | 146 => [6, 9, 20] | 147 => [30] | 148 => [11, 15, 28] | 152 => [9] | 156 => [13] | 165 => [8, 12, 16, 19, 23, 27, 30, 34, 38] | 166 => [8, 13, 16, 18, 21] | 174 => [17] | 175 => [8, 21, 24, 30] | 189 => [6, 10] | 190 => [9, 14, 15, 19, 23, 32] | _ => []) 12 noOrc [15, 38, 44, 50, 56, 58, 63, 68, 74, 83, 89, 94, 99, 105, 110, 120, 126, 131, 137] (noLt) LD.c14 [.agg a.vs, .agg b.vs, .bool true] (tabH kT0 kT1 kT2 3) (fun v _ => v) = treeLinkChange0_1t a b := by kernel_rfl
theorem satLinkChange0_1t (a : Gw.Offer) (b : Gw.Offer) (hwa : loL (fineO a).wait = 0) (hwb : loL (fineO b).wait = 1) : (treeLinkChange0_1t a b).sat fun v => v = .bool true :=
 sat_ob trivial (
sat_ob (by simp only [V.beq_refl, Bool.and_true]) (
sat_ob trivial (
sat_ob trivial (
sat_ob (pMay_fine a) (
sat_ob (by simp only [V.beq_refl, Bool.and_true]) (
sat_ob trivial (
sat_ob (pMay_fine b) (
sat_ob trivial (
sat_ob (by decide) (
sat_ob (by simp only [V.beq_refl, Bool.and_true]) (
sat_ob (by simp only [V.beq_refl, Bool.and_true]) (
sat_ob (okSet 1 2 0 1 a (by decide) (by decide) (by decide) (by decide)) (
sat_ob (by decide) (
sat_ob rfl (
sat_ob rfl (
sat_ob (by simp only [V.beq_refl, Bool.and_true]) (
sat_ob (by simp only [V.beq_refl, Bool.and_true]) (
sat_ob (by simp only [V.beq_refl, Bool.and_true]) (
sat_ob (by simp [eqV, eqCells]) (
sat_ob (by simp only [V.beq_refl, Bool.and_true]) (
sat_ob trivial (
sat_ob ⟨⟨1, 2, 0, 1, (fineO a)⟩, (okSet 1 2 0 1 a (by decide) (by decide) (by decide) (by decide)), rfl⟩ (
sat_ob (get_put ⟨1, 2, 0, 1, (fineO a)⟩ (okSet 1 2 0 1 a (by decide) (by decide) (by decide) (by decide))) (
sat_ob ⟨mayO_fine b, mayO_fine a⟩ (
sat_ob (by show V.tup [.agg [.int .i64 _, .int .i64 _, .int .i64 _, .int .i64 _, .int .i64 (loL (fineO a).wait)], .bool true] = _; rw [hwa]; rfl) (
sat_ob (by simp only [V.beq_refl, Bool.and_true]) (
sat_ob (by simp only [V.beq_refl, Bool.and_true]) (
sat_ob (by simp only [V.beq_refl, Bool.and_true]) (
sat_ob (by simp only [V.beq_refl, Bool.and_true]) (
sat_ob (by simp only [V.beq_refl, Bool.and_true]) (
sat_ob (by simp only [V.beq_refl, Bool.and_true]) (
sat_ob (by simp only [V.beq_refl, Bool.and_true]) (
sat_ob (by simp only [V.beq_refl, Bool.and_true]) (
sat_ob (by simp only [V.beq_refl, Bool.and_true]) (
sat_ob (okSet 2 1 0 1 b (by decide) (by decide) (by decide) (by decide)) (
sat_ob (by decide) (
sat_ob rfl (
sat_ob rfl (
sat_ob (by simp only [V.beq_refl, Bool.and_true]) (
sat_ob (by simp only [V.beq_refl, Bool.and_true]) (
sat_ob (by simp only [V.beq_refl, Bool.and_true]) (
sat_ob (by simp [eqV, eqCells]) (
sat_ob (by simp only [V.beq_refl, Bool.and_true]) (
sat_ob trivial (
sat_ob ⟨⟨2, 1, 0, 1, (fineO b)⟩, (okSet 2 1 0 1 b (by decide) (by decide) (by decide) (by decide)), rfl⟩ (
sat_ob (get_put ⟨2, 1, 0, 1, (fineO b)⟩ (okSet 2 1 0 1 b (by decide) (by decide) (by decide) (by decide))) (
sat_ob ⟨mayO_fine a, mayO_fine b⟩ (
sat_ob (by show V.tup [.agg [.int .i64 _, .int .i64 _, .int .i64 _, .int .i64 _, .int .i64 (loL (fineO b).wait)], .bool true] = _; rw [hwb]; rfl) (
sat_ob trivial (
sat_ob (by simp only [V.beq_refl, Bool.and_true]) (
sat_ob (by simp only [V.beq_refl, Bool.and_true]) (
sat_ob (by simp only [V.beq_refl, Bool.and_true]) (
sat_ob (by simp only [V.beq_refl, Bool.and_true]) (
sat_ob (by simp only [V.beq_refl, Bool.and_true]) (
sat_ob (by simp only [V.beq_refl, Bool.and_true]) (
sat_ob (by simp only [V.beq_refl, Bool.and_true]) (
sat_ob (by simp only [V.beq_refl, Bool.and_true]) (
sat_ob (by simp only [V.beq_refl, Bool.and_true]) (
sat_ob trivial (
sat_ob trivial (
sat_ob (by decide) (
sat_ob (by decide) (
sat_ob (by decide) (
sat_ob (by first | rfl | simp [binV, binI, eqV, eqCells]) (
sat_ob (by first | rfl | simp [binV, binI, eqV, eqCells]) (
sat_ob (by simp only [V.beq_refl, Bool.and_true]) (
sat_ob (by simp only [V.beq_refl, Bool.and_true]) (
sat_ob (by simp only [V.beq_refl, Bool.and_true]) (
sat_ob (by simp [eqV, eqCells]) (
sat_ob (by simp only [V.beq_refl, Bool.and_true]) (
sat_ob trivial (
sat_ob trivial (
sat_ob (by simp only [V.beq_refl, Bool.and_true]) (
sat_ob (by decide) (
sat_ob (by decide) (
sat_ob (by simp only [V.beq_refl, Bool.and_true]) (
sat_ob (min0 _) (
sat_ob (by decide) (
sat_ob (by decide) (
sat_ob (by decide) (
sat_ob (by decide) (
sat_ob (by decide) (
sat_ob (by decide) (
sat_ob (by first | rfl | simp [binV, binI, eqV, eqCells]) (
sat_ob (by first | rfl | simp [binV, binI, eqV, eqCells]) (
sat_ob (by simp only [V.beq_refl, Bool.and_true]) (
sat_ob (by simp only [V.beq_refl, Bool.and_true]) (
sat_ob (by simp only [V.beq_refl, Bool.and_true]) (
sat_ob (by simp only [V.beq_refl, Bool.and_true]) (
sat_ob (by simp [eqV, eqCells]) (
sat_ob trivial (
sat_ob (by simp only [V.beq_refl, Bool.and_true]) (
sat_ob (by decide) (
sat_ob (by decide) (
sat_ob (by decide) (
sat_ob (by decide) (
sat_ob (by decide) (
sat_ob (by decide) (
sat_ob (by decide) (
sat_ob (by decide) (
sat_ob (by decide) (
sat_ob (by decide) (
sat_ob (by decide) (
sat_ob (by decide) (
sat_ob (by simp only [V.beq_refl, Bool.and_true]) (
sat_ob (min0 _) (
sat_ob (by decide) (
sat_ob (by decide) (
sat_ob (by decide) (
sat_ob (by decide) (
sat_leaf (rfl))))))))))))))))))))))))))))))))))))))))))))))))))))))))))))))))))))))))))))))))))))))))))))))))))))))))))))))))
theorem runLinkChange0_1t (a : Gw.Offer) (b : Gw.Offer) (hwa : loL (fineO a).wait = 0) (hwb : loL (fineO b).wait = 1) : Run Tryz.prog 14 [.agg a.vs, .agg b.vs, .bool true] (tabH kT0 kT1 kT2 3) fun v _ => v = .bool true := run_plainU mixed (show TabX Tryz.prog noPX (oxLinkChange0_1t a b) from ((((((TabX.nil.addO ans_begun).addT (ans_fine noV)).addT (ans_may (fun n => match n with | 12 => some (.bool true) | 20 => some (.bool true) | _ => none))).addT (ans_deal (fun n => match n with | 151 => some (.tup [.agg (dv b a 0), .bool true]) | 311 => some (.tup [.agg (dv a b 1), .bool true]) | _ => none))).addT (ans_put noV)).addT (ans_get (fun n => match n with | 138 => some (.tup [.agg [.int .u32 1, .int .u32 2, .int .i64 0, .int .i64 1, .int .i64 (fineO a).baud, .int .i64 (fineO a).silent, .int .i64 (fineO a).win, .int .i64 (fineO a).size, .int .i64 (fineO a).wait], .bool true]) | 298 => some (.tup [.agg [.int .u32 2, .int .u32 1, .int .i64 0, .int .i64 1, .int .i64 (fineO b).baud, .int .i64 (fineO b).silent, .int .i64 (fineO b).win, .int .i64 (fineO b).size, .int .i64 (fineO b).wait], .bool true]) | _ => none)))) LD.tabDL (show LD.DL 14 = some LD.c14 from rfl) (treeLinkChange0_1t_eq a b) (satLinkChange0_1t a b hwa hwb)
def oxLinkChange0_2f (a : Gw.Offer) (b : Gw.Offer) : OTab := (consT 79 (gD dGet pGet (fun n => match n with | 138 => some (.tup [.agg [.int .u32 1, .int .u32 2, .int .i64 0, .int .i64 1, .int .i64 (fineO a).baud, .int .i64 (fineO a).silent, .int .i64 (fineO a).win, .int .i64 (fineO a).size, .int .i64 (fineO a).wait], .bool true]) | 298 => some (.tup [.agg [.int .u32 2, .int .u32 1, .int .i64 0, .int .i64 1, .int .i64 (fineO b).baud, .int .i64 (fineO b).silent, .int .i64 (fineO b).win, .int .i64 (fineO b).size, .int .i64 (fineO b).wait], .bool true]) | _ => none)) (consT 106 (gD dPut pPut noV) (consT 80 (gDT kT0 kT1 kT2 dDeal pDeal (fun n => match n with | 151 => some (.tup [.agg (dv b a 0), .bool true]) | 311 => some (.tup [.agg (dv a b 2), .bool true]) | _ => none)) (consT 76 (gD dOff pMayQ (fun n => match n with | 12 => some (.bool true) | 20 => some (.bool true) | _ => none)) (consT 20 (gD dOff pFine noV) (consO 19 (gTrue kT0 kT1 kT2) noOX))))))
def treeLinkChange0_2f (a : Gw.Offer) (b : Gw.Offer) : DT V :=
  .ob (dOff [.agg a.vs]) (
.ob (((V.beq (.agg b.vs) (.agg b.vs)) && true) = true) (
.ob (dOff [.agg b.vs]) (
.ob (dOff [.agg (fineO a).vs]) (
.ob (pMayQ [.agg (fineO a).vs] = (.bool true)) (
.ob (((V.beq (.agg (fineO b).vs) (.agg (fineO b).vs)) && true) = true) (
.ob (dOff [.agg (fineO b).vs]) (
.ob (pMayQ [.agg (fineO b).vs] = (.bool true)) (
.ob (True) (
.ob (IntKind.i64 = IntKind.i64 ∧ (250 : Int) ≠ 0) (
.ob (((V.beq (.int .u32 2) (.int .u32 2)) && true) = true) (
.ob (((V.beq (.int .u32 2) (.int .u32 2)) && true) = true) (
.ob (dPut [.agg [.int .u32 1, .int .u32 2, .int .i64 0, .int .i64 1, .int .i64 (fineO a).baud, .int .i64 (fineO a).silent, .int .i64 (fineO a).win, .int .i64 (fineO a).size, .int .i64 (fineO a).wait]]) (
.ob (9 = 9 ∧ 0 ≤ (0 : Int) ∧ (0 : Int) < ((1 : Nat) : Int)) (
.ob (Gw.lenStr (.str (setupStr ⟨1, 2, 0, 1, (fineO a)⟩)) = some (.int .i64 25)) (
.ob (Gw.lenStr (.str (setupStr ⟨1, 2, 0, 1, (fineO a)⟩)) = some (.int .i64 25)) (
.ob (((V.beq (.str (setupStr ⟨1, 2, 0, 1, (fineO a)⟩)) (.str (setupStr ⟨1, 2, 0, 1, (fineO a)⟩))) && ((V.beq (.bool true) (.bool true)) && ((V.beq (.agg [.int .i64 127, .int .i64 255]) (.agg [.int .i64 127, .int .i64 255])) && true))) = true) (
.ob (((V.beq (.int .i64 2) (.int .i64 2)) && true) = true) (
.ob (((V.beq (.agg [.int .i64 127, .int .i64 255, .bool true, .int .i64 3, .int .i64 2, .int .i64 0, .int .i64 0, .bool true, .str (setupStr ⟨1, 2, 0, 1, (fineO a)⟩)]) (.agg [.int .i64 127, .int .i64 255, .bool true, .int .i64 3, .int .i64 2, .int .i64 0, .int .i64 0, .bool true, .str (setupStr ⟨1, 2, 0, 1, (fineO a)⟩)])) && true) = true) (
.ob (((eqV (.agg [.i, .i, .b, .i, .i, .i, .i, .b, .s]) (.agg [.int .i64 127, .int .i64 255, .bool true, .int .i64 3, .int .i64 2, .int .i64 0, .int .i64 0, .bool true, .str (setupStr ⟨1, 2, 0, 1, (fineO a)⟩)]) (.agg [.int .i64 127, .int .i64 255, .bool true, .int .i64 3, .int .i64 2, .int .i64 0, .int .i64 0, .bool true, .str (setupStr ⟨1, 2, 0, 1, (fineO a)⟩)])).map fun b => V.bool (if true then !b else b)) = some (.bool false)) (
.ob (((V.beq (.agg [.int .i64 127, .int .i64 255]) (.agg [.int .i64 127, .int .i64 255])) && true) = true) (
.ob (True) (
.ob (dGet [.str (setupStr ⟨1, 2, 0, 1, (fineO a)⟩)]) (
.ob (pGet [.str (setupStr ⟨1, 2, 0, 1, (fineO a)⟩)] = (.tup [.agg [.int .u32 1, .int .u32 2, .int .i64 0, .int .i64 1, .int .i64 (fineO a).baud, .int .i64 (fineO a).silent, .int .i64 (fineO a).win, .int .i64 (fineO a).size, .int .i64 (fineO a).wait], .bool true])) (
.ob (dDeal [.agg (fineO b).vs, .agg (fineO a).vs]) (
.ob (pDeal [.agg (fineO b).vs, .agg (fineO a).vs] = (.tup [.agg (dv b a 0), .bool true])) (
.ob (((V.beq (.int .i64 (dealL (fineO b) (fineO a)).size) (.int .i64 (dealL (fineO b) (fineO a)).size)) && true) = true) (
.ob (((V.beq (.int .i64 (dealL (fineO b) (fineO a)).size) (.int .i64 (dealL (fineO b) (fineO a)).size)) && true) = true) (
.ob (((V.beq (.agg (dv b a 0)) (.agg (dv b a 0))) && ((V.beq (.agg [.int .i64 0, .int .i64 1]) (.agg [.int .i64 0, .int .i64 1])) && true)) = true) (
.ob (((V.beq (.agg (dv b a 0)) (.agg (dv b a 0))) && ((V.beq (.agg [.int .i64 0, .int .i64 1]) (.agg [.int .i64 0, .int .i64 1])) && true)) = true) (
.ob (((V.beq (.agg (dv b a 0)) (.agg (dv b a 0))) && ((V.beq (.agg [.int .i64 0, .int .i64 1]) (.agg [.int .i64 0, .int .i64 1])) && true)) = true) (
.ob (((V.beq (.agg (dv b a 0)) (.agg (dv b a 0))) && true) = true) (
.ob (((V.beq (.int .i64 0) (.int .i64 0)) && true) = true) (
.ob (((V.beq (.int .i64 0) (.int .i64 0)) && true) = true) (
.ob (((V.beq (.int .i64 0) (.int .i64 0)) && true) = true) (
.ob (dPut [.agg [.int .u32 2, .int .u32 1, .int .i64 0, .int .i64 1, .int .i64 (fineO b).baud, .int .i64 (fineO b).silent, .int .i64 (fineO b).win, .int .i64 (fineO b).size, .int .i64 (fineO b).wait]]) (
.ob (9 = 9 ∧ 0 ≤ (0 : Int) ∧ (0 : Int) < ((1 : Nat) : Int)) (
.ob (Gw.lenStr (.str (setupStr ⟨2, 1, 0, 1, (fineO b)⟩)) = some (.int .i64 25)) (
.ob (Gw.lenStr (.str (setupStr ⟨2, 1, 0, 1, (fineO b)⟩)) = some (.int .i64 25)) (
.ob (((V.beq (.str (setupStr ⟨2, 1, 0, 1, (fineO b)⟩)) (.str (setupStr ⟨2, 1, 0, 1, (fineO b)⟩))) && ((V.beq (.bool false) (.bool false)) && ((V.beq (.agg [.int .i64 127, .int .i64 255]) (.agg [.int .i64 127, .int .i64 255])) && true))) = true) (
.ob (((V.beq (.int .i64 3) (.int .i64 3)) && true) = true) (
.ob (((V.beq (.agg [.int .i64 127, .int .i64 255, .bool false, .int .i64 3, .int .i64 3, .int .i64 0, .int .i64 0, .bool true, .str (setupStr ⟨2, 1, 0, 1, (fineO b)⟩)]) (.agg [.int .i64 127, .int .i64 255, .bool false, .int .i64 3, .int .i64 3, .int .i64 0, .int .i64 0, .bool true, .str (setupStr ⟨2, 1, 0, 1, (fineO b)⟩)])) && true) = true) (
.ob (((eqV (.agg [.i, .i, .b, .i, .i, .i, .i, .b, .s]) (.agg [.int .i64 127, .int .i64 255, .bool false, .int .i64 3, .int .i64 3, .int .i64 0, .int .i64 0, .bool true, .str (setupStr ⟨2, 1, 0, 1, (fineO b)⟩)]) (.agg [.int .i64 127, .int .i64 255, .bool false, .int .i64 3, .int .i64 3, .int .i64 0, .int .i64 0, .bool true, .str (setupStr ⟨2, 1, 0, 1, (fineO b)⟩)])).map fun b => V.bool (if true then !b else b)) = some (.bool false)) (
.ob (((V.beq (.agg [.int .i64 127, .int .i64 255]) (.agg [.int .i64 127, .int .i64 255])) && true) = true) (
.ob (True) (
.ob (dGet [.str (setupStr ⟨2, 1, 0, 1, (fineO b)⟩)]) (
.ob (pGet [.str (setupStr ⟨2, 1, 0, 1, (fineO b)⟩)] = (.tup [.agg [.int .u32 2, .int .u32 1, .int .i64 0, .int .i64 1, .int .i64 (fineO b).baud, .int .i64 (fineO b).silent, .int .i64 (fineO b).win, .int .i64 (fineO b).size, .int .i64 (fineO b).wait], .bool true])) (
.ob (dDeal [.agg (fineO a).vs, .agg (fineO b).vs]) (
.ob (pDeal [.agg (fineO a).vs, .agg (fineO b).vs] = (.tup [.agg (dv a b 2), .bool true])) (
.ob (True) (
.ob (((V.beq (.int .i64 (dealL (fineO a) (fineO b)).size) (.int .i64 (dealL (fineO a) (fineO b)).size)) && true) = true) (
.ob (((V.beq (.int .i64 (dealL (fineO a) (fineO b)).size) (.int .i64 (dealL (fineO a) (fineO b)).size)) && true) = true) (
.ob (((V.beq (.agg (dv a b 2)) (.agg (dv a b 2))) && ((V.beq (.agg [.int .i64 0, .int .i64 1]) (.agg [.int .i64 0, .int .i64 1])) && true)) = true) (
.ob (((V.beq (.agg (dv a b 2)) (.agg (dv a b 2))) && ((V.beq (.agg [.int .i64 0, .int .i64 1]) (.agg [.int .i64 0, .int .i64 1])) && true)) = true) (
.ob (((V.beq (.agg (dv a b 2)) (.agg (dv a b 2))) && ((V.beq (.agg [.int .i64 0, .int .i64 1]) (.agg [.int .i64 0, .int .i64 1])) && true)) = true) (
.ob (((V.beq (.agg (dv a b 2)) (.agg (dv a b 2))) && true) = true) (
.ob (((V.beq (.int .i64 2) (.int .i64 2)) && true) = true) (
.ob (((V.beq (.int .i64 2) (.int .i64 2)) && true) = true) (
.ob (((V.beq (.int .i64 2) (.int .i64 2)) && true) = true) (
.ob (True) (
.ob (True) (
.ob (9 = 9 ∧ 0 ≤ (0 : Int) ∧ (0 : Int) < ((1 : Nat) : Int)) (
.ob (9 = 9 ∧ 0 ≤ (0 : Int) ∧ (0 : Int) < ((1 : Nat) : Int)) (
.ob (Gw.lenStr (.str []) = some (.int .i64 0)) (
.ob (Gw.lenStr (.str []) = some (.int .i64 0)) (
.ob (((V.beq (.str []) (.str [])) && ((V.beq (.bool true) (.bool true)) && ((V.beq (.agg [.int .i64 0, .int .i64 1]) (.agg [.int .i64 0, .int .i64 1])) && true))) = true) (
.ob (((V.beq (.int .i64 6) (.int .i64 6)) && true) = true) (
.ob (((V.beq (.agg [.int .i64 0, .int .i64 1, .bool true, .int .i64 3, .int .i64 6, .int .i64 0, .int .i64 0, .bool true, .str []]) (.agg [.int .i64 0, .int .i64 1, .bool true, .int .i64 3, .int .i64 6, .int .i64 0, .int .i64 0, .bool true, .str []])) && true) = true) (
.ob (((eqV (.agg [.i, .i, .b, .i, .i, .i, .i, .b, .s]) (.agg [.int .i64 0, .int .i64 1, .bool true, .int .i64 3, .int .i64 6, .int .i64 0, .int .i64 0, .bool true, .str []]) (.agg [.int .i64 0, .int .i64 1, .bool true, .int .i64 3, .int .i64 6, .int .i64 0, .int .i64 0, .bool true, .str []])).map fun b => V.bool (if true then !b else b)) = some (.bool false)) (
.ob (((V.beq (.agg [.int .i64 0, .int .i64 1]) (.agg [.int .i64 0, .int .i64 1])) && true) = true) (
.ob (True) (
.ob (True) (
.ob (((V.beq (.bool true) (.bool true)) && true) = true) (
.ob ((4 = 4 ∧ ([.int .i64 6, .int .u32 1, .str [], .nils] : List V).length = 1 * 4) ∧ allOne [.int .i64 6, .int .u32 1, .str [], .nils] = true ∧ 1 * 56 ≤ 70368744177664) (
.ob (4 = 4 ∧ 0 ≤ (0 : Int) ∧ (0 : Int) < ((1 : Nat) : Int)) (
.ob (((V.beq (.int .i64 1) (.int .i64 1)) && true) = true) (
.ob (minV (.int .i64 (if (7 : Int) < (if (1 : Int) > (dealL (fineO b) (fineO a)).win then 1 else (dealL (fineO b) (fineO a)).win) then 7 else (if (1 : Int) > (dealL (fineO b) (fineO a)).win then 1 else (dealL (fineO b) (fineO a)).win))) [(.int .i64 0)] = some (.int .i64 0)) (
.ob ((0 ≤ (0 : Int) ∧ (0 : Int) ≤ ((0 : Nat) : Int)) ∧ (True)) (
.ob ((9 = 9 ∧ ([.int .i64 0, .int .i64 0, .bool true, .int .i64 2, .int .i64 0, .int .i64 0, .int .i64 0, .bool false, .str []] : List V).length = 1 * 9) ∧ allOne [.int .i64 0, .int .i64 0, .bool true, .int .i64 2, .int .i64 0, .int .i64 0, .int .i64 0, .bool false, .str []] = true ∧ 1 * 80 ≤ 70368744177664) (
.ob (9 = 9 ∧ 0 ≤ (0 : Int) ∧ (0 : Int) < ((1 : Nat) : Int)) (
.ob (9 = 9 ∧ 0 ≤ (0 : Int) ∧ (0 : Int) < ((1 : Nat) : Int)) (
.ob (9 = 9 ∧ 0 ≤ (0 : Int) ∧ (0 : Int) < ((1 : Nat) : Int)) (
.ob (9 = 9 ∧ 0 ≤ (0 : Int) ∧ (0 : Int) < ((1 : Nat) : Int)) (
.ob (Gw.lenStr (.str []) = some (.int .i64 0)) (
.ob (Gw.lenStr (.str []) = some (.int .i64 0)) (
.ob (((V.beq (.str []) (.str [])) && ((V.beq (.bool true) (.bool true)) && ((V.beq (.agg [.int .i64 0, .int .i64 1]) (.agg [.int .i64 0, .int .i64 1])) && true))) = true) (
.ob (((V.beq (.int .i64 0) (.int .i64 0)) && ((V.beq (.int .i64 0) (.int .i64 0)) && true)) = true) (
.ob (((V.beq (.int .i64 0) (.int .i64 0)) && true) = true) (
.ob (((V.beq (.agg [.int .i64 0, .int .i64 1, .bool true, .int .i64 2, .int .i64 0, .int .i64 0, .int .i64 0, .bool true, .str []]) (.agg [.int .i64 0, .int .i64 1, .bool true, .int .i64 2, .int .i64 0, .int .i64 0, .int .i64 0, .bool true, .str []])) && true) = true) (
.ob (((eqV (.agg [.i, .i, .b, .i, .i, .i, .i, .b, .s]) (.agg [.int .i64 0, .int .i64 1, .bool true, .int .i64 2, .int .i64 0, .int .i64 0, .int .i64 0, .bool true, .str []]) (.agg [.int .i64 0, .int .i64 1, .bool true, .int .i64 2, .int .i64 0, .int .i64 0, .int .i64 0, .bool true, .str []])).map fun b => V.bool (if true then !b else b)) = some (.bool false)) (
.ob (True) (
.ob (((V.beq (.bool true) (.bool true)) && true) = true) (
.ob (IntKind.i64 = IntKind.i64 ∧ (8 : Int) ≠ 0) (
.ob (IntKind.i64 = IntKind.i64 ∧ (8 : Int) ≠ 0) (
.ob (IntKind.i64 = IntKind.i64 ∧ (8 : Int) ≠ 0) (
.ob (IntKind.i64 = IntKind.i64 ∧ (8 : Int) ≠ 0) (
.ob (IntKind.i64 = IntKind.i64 ∧ (8 : Int) ≠ 0) (
.ob (IntKind.i64 = IntKind.i64 ∧ (8 : Int) ≠ 0) (
.ob (IntKind.i64 = IntKind.i64 ∧ (8 : Int) ≠ 0) (
.ob (IntKind.i64 = IntKind.i64 ∧ (8 : Int) ≠ 0) (
.ob (IntKind.i64 = IntKind.i64 ∧ (8 : Int) ≠ 0) (
.ob (IntKind.i64 = IntKind.i64 ∧ (8 : Int) ≠ 0) (
.ob ((True) ∧ (0 ≤ (0 : Int) ∧ (0 : Int) ≤ ((0 : Nat) : Int))) (
.ob (4 = 4 ∧ 0 ≤ (0 : Int) ∧ (0 : Int) < ((1 : Nat) : Int)) (
.ob (((V.beq (.int .i64 2) (.int .i64 2)) && true) = true) (
.ob (minV (.int .i64 (if (7 : Int) < (if (1 : Int) > (dealL (fineO a) (fineO b)).win then 1 else (dealL (fineO a) (fineO b)).win) then 7 else (if (1 : Int) > (dealL (fineO a) (fineO b)).win then 1 else (dealL (fineO a) (fineO b)).win))) [(.int .i64 0)] = some (.int .i64 0)) (
.ob ((0 ≤ (0 : Int) ∧ (0 : Int) ≤ ((0 : Nat) : Int)) ∧ (True)) (
.ob ((9 = 9 ∧ ([.int .i64 0, .int .i64 0, .bool false, .int .i64 2, .int .i64 0, .int .i64 0, .int .i64 0, .bool false, .str []] : List V).length = 1 * 9) ∧ allOne [.int .i64 0, .int .i64 0, .bool false, .int .i64 2, .int .i64 0, .int .i64 0, .int .i64 0, .bool false, .str []] = true ∧ 1 * 80 ≤ 70368744177664) (
.ob (9 = 9 ∧ 0 ≤ (0 : Int) ∧ (0 : Int) < ((1 : Nat) : Int)) (
.ob (9 = 9 ∧ 0 ≤ (0 : Int) ∧ (0 : Int) < ((1 : Nat) : Int)) (
.leaf (.bool true)))))))))))))))))))))))))))))))))))))))))))))))))))))))))))))))))))))))))))))))))))))))))))))))))))))))))))))))
set_option maxRecDepth 1000000 in
theorem treeLinkChange0_2f_eq (a : Gw.Offer) (b : Gw.Offer) : funT (mkXT (noPX) (oxLinkChange0_2f a b)) (mkXP (noPX)) (mkX (noPX) (oxLinkChange0_2f a b)) LD.DL (fun g => match g with | 113 => (fun k => match k with | 38 => some fun t h => (match h.n with | 93 => (.int .i64 25, h) | 112 => (.int .i64 25, h) | 253 => (.int .i64 25, h) | 272 => (.int .i64 25, h) | 415 => (.int .i64 0, h) | 434 => (.int .i64 0, h) | 514 => (.int .i64 0, h) | _ => (.int .i64 0, h)) | _ => none) | 77 => (fun k => match k with | 52 => some fun t h => (match h.n with | 128 => (.bool false, h) | 288 => (.bool false, h) | 450 => (.bool false, h) | _ => (.bool false, h)) | _ => none) | 147 => (fun k => match k with | 18 => some fun t h => (match h.n with | 464 => (.int .i64 0, h) | _ => (.int .i64 0, h)) | _ => none) | _ => noOrc) (fun k => match k with | 14 => [15, 38, 44, 50, 56, 58, 83, 89, 94, 99, 105, 110, 120, 126, 131, 137] | 21 => [31, 41, 49, 60, 69, 72, 76] | 22 => [10, 15, 20, 25, 30, 31, 37, 41, 45, 50, 57, 81, 90, 98, 102] | 26 => [15, 22, 31, 52, 58, 74, 80, 86, 96] | 35 => [8, 11, 15, 19, 23] | 39 => [16, 25, 30, 36, 39, 44, 47, 57, 67, 82, 86, 99, 108, 116] | 41 => [10, 20] | 56 => [10, 33, 34, 40, 44, 49, 52, 66, 67, 68, 71] | 60 => [8, 25, 32] | 62 => [28, 30] | 63 => [9] | 64 => [9, 23] | 65 => [7, 20, 34] | 77 => [8, 15, 26, 32, 37, 41, 46, 52] | 81 => [14, 20, 28] | 82 => [13] | 83 => [7, 11, 17, 28, 31, 32, 37, 45, 55] | 107 => [10] | 108 => [11, 17, 34, 60] | 109 => [13] | 113 => [11, 16, 20, 25, 30, 34, 39, 47] | 114 => [8, 14, 19, 24, 34, 44] | 126 => [17] | 127 => [12, 21, 26] | 128 => [8, 19] | 146 => [6, 9, 20] | 147 => [30] | 148 => [11, 15, 28] | 152 => [9] | 156 => [13] | 165 => [8, 12, 16, 19, 23, 27, 30, 34, 38] | 166 => [8, 13, 16, 18, 21] | 174 => [17] | 175 => [8, 21, 24, 30] | 189 => [6, 10] | 190 => [9, 14, 15, 19, 23, 32] | _ => []) 12 noOrc [15, 38, 44, 50, 56, 58, 83, 89, 94, 99, 105, 110, 120, 126, 131, 137] (noLt) LD.c14 [.agg a.vs, .agg b.vs, .bool false] (tabH kT0 kT1 kT2 3) (fun v _ => v) = treeLinkChange0_2f a b := by kernel_rfl
theorem satLinkChange0_2f (a : Gw.Offer) (b : Gw.Offer) (hwa : loL (fineO a).wait = 0) (hwb : loL (fineO b).wait = 2) : (treeLinkChange0_2f a b).sat fun v => v = .bool true :=
 sat_ob trivial (
sat_ob (by simp only [V.beq_refl, Bool.and_true]) (
sat_ob trivial (
sat_ob trivial (
sat_ob (pMay_fine a) (
sat_ob (by simp only [V.beq_refl, Bool.and_true]) (
sat_ob trivial (
sat_ob (pMay_fine b) (
sat_ob trivial (
sat_ob (by decide) (
sat_ob (by simp only [V.beq_refl, Bool.and_true]) (
sat_ob (by simp only [V.beq_refl, Bool.and_true]) (
sat_ob (okSet 1 2 0 1 a (by decide) (by decide) (by decide) (by decide)) (
sat_ob (by decide) (
sat_ob rfl (
sat_ob rfl (
sat_ob (by simp only [V.beq_refl, Bool.and_true]) (
sat_ob (by simp only [V.beq_refl, Bool.and_true]) (
sat_ob (by simp only [V.beq_refl, Bool.and_true]) (
sat_ob (by simp [eqV, eqCells]) (
sat_ob (by simp only [V.beq_refl, Bool.and_true]) (
sat_ob trivial (
sat_ob ⟨⟨1, 2, 0, 1, (fineO a)⟩, (okSet 1 2 0 1 a (by decide) (by decide) (by decide) (by decide)), rfl⟩ (
sat_ob (get_put ⟨1, 2, 0, 1, (fineO a)⟩ (okSet 1 2 0 1 a (by decide) (by decide) (by decide) (by decide))) (
sat_ob ⟨mayO_fine b, mayO_fine a⟩ (
sat_ob (by show V.tup [.agg [.int .i64 _, .int .i64 _, .int .i64 _, .int .i64 _, .int .i64 (loL (fineO a).wait)], .bool true] = _; rw [hwa]; rfl) (
sat_ob (by simp only [V.beq_refl, Bool.and_true]) (
sat_ob (by simp only [V.beq_refl, Bool.and_true]) (
sat_ob (by simp only [V.beq_refl, Bool.and_true]) (
sat_ob (by simp only [V.beq_refl, Bool.and_true]) (
sat_ob (by simp only [V.beq_refl, Bool.and_true]) (
sat_ob (by simp only [V.beq_refl, Bool.and_true]) (
sat_ob (by simp only [V.beq_refl, Bool.and_true]) (
sat_ob (by simp only [V.beq_refl, Bool.and_true]) (
sat_ob (by simp only [V.beq_refl, Bool.and_true]) (
sat_ob (okSet 2 1 0 1 b (by decide) (by decide) (by decide) (by decide)) (
sat_ob (by decide) (
sat_ob rfl (
sat_ob rfl (
sat_ob (by simp only [V.beq_refl, Bool.and_true]) (
sat_ob (by simp only [V.beq_refl, Bool.and_true]) (
sat_ob (by simp only [V.beq_refl, Bool.and_true]) (
sat_ob (by simp [eqV, eqCells]) (
sat_ob (by simp only [V.beq_refl, Bool.and_true]) (
sat_ob trivial (
sat_ob ⟨⟨2, 1, 0, 1, (fineO b)⟩, (okSet 2 1 0 1 b (by decide) (by decide) (by decide) (by decide)), rfl⟩ (
sat_ob (get_put ⟨2, 1, 0, 1, (fineO b)⟩ (okSet 2 1 0 1 b (by decide) (by decide) (by decide) (by decide))) (
sat_ob ⟨mayO_fine a, mayO_fine b⟩ (
sat_ob (by show V.tup [.agg [.int .i64 _, .int .i64 _, .int .i64 _, .int .i64 _, .int .i64 (loL (fineO b).wait)], .bool true] = _; rw [hwb]; rfl) (
sat_ob trivial (
sat_ob (by simp only [V.beq_refl, Bool.and_true]) (
sat_ob (by simp only [V.beq_refl, Bool.and_true]) (
sat_ob (by simp only [V.beq_refl, Bool.and_true]) (
sat_ob (by simp only [V.beq_refl, Bool.and_true]) (
sat_ob (by simp only [V.beq_refl, Bool.and_true]) (
sat_ob (by simp only [V.beq_refl, Bool.and_true]) (
sat_ob (by simp only [V.beq_refl, Bool.and_true]) (
sat_ob (by simp only [V.beq_refl, Bool.and_true]) (
sat_ob (by simp only [V.beq_refl, Bool.and_true]) (
sat_ob trivial (
sat_ob trivial (
sat_ob (by decide) (
sat_ob (by decide) (
sat_ob (by first | rfl | simp [binV, binI, eqV, eqCells]) (
sat_ob (by first | rfl | simp [binV, binI, eqV, eqCells]) (
sat_ob (by simp only [V.beq_refl, Bool.and_true]) (
sat_ob (by simp only [V.beq_refl, Bool.and_true]) (
sat_ob (by simp only [V.beq_refl, Bool.and_true]) (
sat_ob (by simp [eqV, eqCells]) (
sat_ob (by simp only [V.beq_refl, Bool.and_true]) (
sat_ob trivial (
sat_ob trivial (
sat_ob (by simp only [V.beq_refl, Bool.and_true]) (
sat_ob (by decide) (
sat_ob (by decide) (
sat_ob (by simp only [V.beq_refl, Bool.and_true]) (
sat_ob (min0 _) (
sat_ob (by decide) (
sat_ob (by decide) (
sat_ob (by decide) (
sat_ob (by decide) (
sat_ob (by decide) (
sat_ob (by decide) (
sat_ob (by first | rfl | simp [binV, binI, eqV, eqCells]) (
sat_ob (by first | rfl | simp [binV, binI, eqV, eqCells]) (
sat_ob (by simp only [V.beq_refl, Bool.and_true]) (
sat_ob (by simp only [V.beq_refl, Bool.and_true]) (
sat_ob (by simp only [V.beq_refl, Bool.and_true]) (
sat_ob (by simp only [V.beq_refl, Bool.and_true]) (
sat_ob (by simp [eqV, eqCells]) (
sat_ob trivial (
sat_ob (by simp only [V.beq_refl, Bool.and_true]) (
sat_ob (by decide) (
sat_ob (by decide) (
sat_ob (by decide) (
sat_ob (by decide) (
sat_ob (by decide) (
sat_ob (by decide) (
sat_ob (by decide) (
sat_ob (by decide) (
sat_ob (by decide) (
sat_ob (by decide) (
sat_ob (by decide) (
sat_ob (by decide) (
sat_ob (by simp only [V.beq_refl, Bool.and_true]) (
sat_ob (min0 _) (
sat_ob (by decide) (
sat_ob (by decide) (
sat_ob (by decide) (
sat_ob (by decide) (
sat_leaf (rfl)))))))))))))))))))))))))))))))))))))))))))))))))))))))))))))))))))))))))))))))))))))))))))))))))))))))))))))))
theorem runLinkChange0_2f (a : Gw.Offer) (b : Gw.Offer) (hwa : loL (fineO a).wait = 0) (hwb : loL (fineO b).wait = 2) : Run Tryz.prog 14 [.agg a.vs, .agg b.vs, .bool false] (tabH kT0 kT1 kT2 3) fun v _ => v = .bool true := run_plainU mixed (show TabX Tryz.prog noPX (oxLinkChange0_2f a b) from ((((((TabX.nil.addO ans_begun).addT (ans_fine noV)).addT (ans_may (fun n => match n with | 12 => some (.bool true) | 20 => some (.bool true) | _ => none))).addT (ans_deal (fun n => match n with | 151 => some (.tup [.agg (dv b a 0), .bool true]) | 311 => some (.tup [.agg (dv a b 2), .bool true]) | _ => none))).addT (ans_put noV)).addT (ans_get (fun n => match n with | 138 => some (.tup [.agg [.int .u32 1, .int .u32 2, .int .i64 0, .int .i64 1, .int .i64 (fineO a).baud, .int .i64 (fineO a).silent, .int .i64 (fineO a).win, .int .i64 (fineO a).size, .int .i64 (fineO a).wait], .bool true]) | 298 => some (.tup [.agg [.int .u32 2, .int .u32 1, .int .i64 0, .int .i64 1, .int .i64 (fineO b).baud, .int .i64 (fineO b).silent, .int .i64 (fineO b).win, .int .i64 (fineO b).size, .int .i64 (fineO b).wait], .bool true]) | _ => none)))) LD.tabDL (show LD.DL 14 = some LD.c14 from rfl) (treeLinkChange0_2f_eq a b) (satLinkChange0_2f a b hwa hwb)
def oxLinkChange0_2t (a : Gw.Offer) (b : Gw.Offer) : OTab := (consT 79 (gD dGet pGet (fun n => match n with | 138 => some (.tup [.agg [.int .u32 1, .int .u32 2, .int .i64 0, .int .i64 1, .int .i64 (fineO a).baud, .int .i64 (fineO a).silent, .int .i64 (fineO a).win, .int .i64 (fineO a).size, .int .i64 (fineO a).wait], .bool true]) | 298 => some (.tup [.agg [.int .u32 2, .int .u32 1, .int .i64 0, .int .i64 1, .int .i64 (fineO b).baud, .int .i64 (fineO b).silent, .int .i64 (fineO b).win, .int .i64 (fineO b).size, .int .i64 (fineO b).wait], .bool true]) | _ => none)) (consT 106 (gD dPut pPut noV) (consT 80 (gDT kT0 kT1 kT2 dDeal pDeal (fun n => match n with | 151 => some (.tup [.agg (dv b a 0), .bool true]) | 311 => some (.tup [.agg (dv a b 2), .bool true]) | _ => none)) (consT 76 (gD dOff pMayQ (fun n => match n with | 12 => some (.bool true) | 20 => some (.bool true) | _ => none)) (consT 20 (gD dOff pFine noV) (consO 19 (gTrue kT0 kT1 kT2) noOX))))))
def treeLinkChange0_2t (a : Gw.Offer) (b : Gw.Offer) : DT V :=
  .ob (dOff [.agg a.vs]) (
.ob (((V.beq (.agg b.vs) (.agg b.vs)) && true) = true) (
.ob (dOff [.agg b.vs]) (
.ob (dOff [.agg (fineO a).vs]) (
.ob (pMayQ [.agg (fineO a).vs] = (.bool true)) (
.ob (((V.beq (.agg (fineO b).vs) (.agg (fineO b).vs)) && true) = true) (
.ob (dOff [.agg (fineO b).vs]) (
.ob (pMayQ [.agg (fineO b).vs] = (.bool true)) (
.ob (True) (
.ob (IntKind.i64 = IntKind.i64 ∧ (250 : Int) ≠ 0) (
.ob (((V.beq (.int .u32 2) (.int .u32 2)) && true) = true) (
.ob (((V.beq (.int .u32 2) (.int .u32 2)) && true) = true) (
.ob (dPut [.agg [.int .u32 1, .int .u32 2, .int .i64 0, .int .i64 1, .int .i64 (fineO a).baud, .int .i64 (fineO a).silent, .int .i64 (fineO a).win, .int .i64 (fineO a).size, .int .i64 (fineO a).wait]]) (
.ob (9 = 9 ∧ 0 ≤ (0 : Int) ∧ (0 : Int) < ((1 : Nat) : Int)) (
.ob (Gw.lenStr (.str (setupStr ⟨1, 2, 0, 1, (fineO a)⟩)) = some (.int .i64 25)) (
.ob (Gw.lenStr (.str (setupStr ⟨1, 2, 0, 1, (fineO a)⟩)) = some (.int .i64 25)) (
.ob (((V.beq (.str (setupStr ⟨1, 2, 0, 1, (fineO a)⟩)) (.str (setupStr ⟨1, 2, 0, 1, (fineO a)⟩))) && ((V.beq (.bool true) (.bool true)) && ((V.beq (.agg [.int .i64 127, .int .i64 255]) (.agg [.int .i64 127, .int .i64 255])) && true))) = true) (
.ob (((V.beq (.int .i64 2) (.int .i64 2)) && true) = true) (
.ob (((V.beq (.agg [.int .i64 127, .int .i64 255, .bool true, .int .i64 3, .int .i64 2, .int .i64 0, .int .i64 0, .bool true, .str (setupStr ⟨1, 2, 0, 1, (fineO a)⟩)]) (.agg [.int .i64 127, .int .i64 255, .bool true, .int .i64 3, .int .i64 2, .int .i64 0, .int .i64 0, .bool true, .str (setupStr ⟨1, 2, 0, 1, (fineO a)⟩)])) && true) = true) (
.ob (((eqV (.agg [.i, .i, .b, .i, .i, .i, .i, .b, .s]) (.agg [.int .i64 127, .int .i64 255, .bool true, .int .i64 3, .int .i64 2, .int .i64 0, .int .i64 0, .bool true, .str (setupStr ⟨1, 2, 0, 1, (fineO a)⟩)]) (.agg [.int .i64 127, .int .i64 255, .bool true, .int .i64 3, .int .i64 2, .int .i64 0, .int .i64 0, .bool true, .str (setupStr ⟨1, 2, 0, 1, (fineO a)⟩)])).map fun b => V.bool (if true then !b else b)) = some (.bool false)) (
.ob (((V.beq (.agg [.int .i64 127, .int .i64 255]) (.agg [.int .i64 127, .int .i64 255])) && true) = true) (
.ob (True) (
.ob (dGet [.str (setupStr ⟨1, 2, 0, 1, (fineO a)⟩)]) (
.ob (pGet [.str (setupStr ⟨1, 2, 0, 1, (fineO a)⟩)] = (.tup [.agg [.int .u32 1, .int .u32 2, .int .i64 0, .int .i64 1, .int .i64 (fineO a).baud, .int .i64 (fineO a).silent, .int .i64 (fineO a).win, .int .i64 (fineO a).size, .int .i64 (fineO a).wait], .bool true])) (
.ob (dDeal [.agg (fineO b).vs, .agg (fineO a).vs]) (
.ob (pDeal [.agg (fineO b).vs, .agg (fineO a).vs] = (.tup [.agg (dv b a 0), .bool true])) (
.ob (((V.beq (.int .i64 (dealL (fineO b) (fineO a)).size) (.int .i64 (dealL (fineO b) (fineO a)).size)) && true) = true) (
.ob (((V.beq (.int .i64 (dealL (fineO b) (fineO a)).size) (.int .i64 (dealL (fineO b) (fineO a)).size)) && true) = true) (
.ob (((V.beq (.agg (dv b a 0)) (.agg (dv b a 0))) && ((V.beq (.agg [.int .i64 0, .int .i64 1]) (.agg [.int .i64 0, .int .i64 1])) && true)) = true) (
.ob (((V.beq (.agg (dv b a 0)) (.agg (dv b a 0))) && ((V.beq (.agg [.int .i64 0, .int .i64 1]) (.agg [.int .i64 0, .int .i64 1])) && true)) = true) (
.ob (((V.beq (.agg (dv b a 0)) (.agg (dv b a 0))) && ((V.beq (.agg [.int .i64 0, .int .i64 1]) (.agg [.int .i64 0, .int .i64 1])) && true)) = true) (
.ob (((V.beq (.agg (dv b a 0)) (.agg (dv b a 0))) && true) = true) (
.ob (((V.beq (.int .i64 0) (.int .i64 0)) && true) = true) (
.ob (((V.beq (.int .i64 0) (.int .i64 0)) && true) = true) (
.ob (((V.beq (.int .i64 0) (.int .i64 0)) && true) = true) (
.ob (dPut [.agg [.int .u32 2, .int .u32 1, .int .i64 0, .int .i64 1, .int .i64 (fineO b).baud, .int .i64 (fineO b).silent, .int .i64 (fineO b).win, .int .i64 (fineO b).size, .int .i64 (fineO b).wait]]) (
.ob (9 = 9 ∧ 0 ≤ (0 : Int) ∧ (0 : Int) < ((1 : Nat) : Int)) (
.ob (Gw.lenStr (.str (setupStr ⟨2, 1, 0, 1, (fineO b)⟩)) = some (.int .i64 25)) (
.ob (Gw.lenStr (.str (setupStr ⟨2, 1, 0, 1, (fineO b)⟩)) = some (.int .i64 25)) (
.ob (((V.beq (.str (setupStr ⟨2, 1, 0, 1, (fineO b)⟩)) (.str (setupStr ⟨2, 1, 0, 1, (fineO b)⟩))) && ((V.beq (.bool false) (.bool false)) && ((V.beq (.agg [.int .i64 127, .int .i64 255]) (.agg [.int .i64 127, .int .i64 255])) && true))) = true) (
.ob (((V.beq (.int .i64 3) (.int .i64 3)) && true) = true) (
.ob (((V.beq (.agg [.int .i64 127, .int .i64 255, .bool false, .int .i64 3, .int .i64 3, .int .i64 0, .int .i64 0, .bool true, .str (setupStr ⟨2, 1, 0, 1, (fineO b)⟩)]) (.agg [.int .i64 127, .int .i64 255, .bool false, .int .i64 3, .int .i64 3, .int .i64 0, .int .i64 0, .bool true, .str (setupStr ⟨2, 1, 0, 1, (fineO b)⟩)])) && true) = true) (
.ob (((eqV (.agg [.i, .i, .b, .i, .i, .i, .i, .b, .s]) (.agg [.int .i64 127, .int .i64 255, .bool false, .int .i64 3, .int .i64 3, .int .i64 0, .int .i64 0, .bool true, .str (setupStr ⟨2, 1, 0, 1, (fineO b)⟩)]) (.agg [.int .i64 127, .int .i64 255, .bool false, .int .i64 3, .int .i64 3, .int .i64 0, .int .i64 0, .bool true, .str (setupStr ⟨2, 1, 0, 1, (fineO b)⟩)])).map fun b => V.bool (if true then !b else b)) = some (.bool false)) (
.ob (((V.beq (.agg [.int .i64 127, .int .i64 255]) (.agg [.int .i64 127, .int .i64 255])) && true) = true) (
.ob (True) (
.ob (dGet [.str (setupStr ⟨2, 1, 0, 1, (fineO b)⟩)]) (
.ob (pGet [.str (setupStr ⟨2, 1, 0, 1, (fineO b)⟩)] = (.tup [.agg [.int .u32 2, .int .u32 1, .int .i64 0, .int .i64 1, .int .i64 (fineO b).baud, .int .i64 (fineO b).silent, .int .i64 (fineO b).win, .int .i64 (fineO b).size, .int .i64 (fineO b).wait], .bool true])) (
.ob (dDeal [.agg (fineO a).vs, .agg (fineO b).vs]) (
.ob (pDeal [.agg (fineO a).vs, .agg (fineO b).vs] = (.tup [.agg (dv a b 2), .bool true])) (
.ob (True) (
.ob (((V.beq (.int .i64 (dealL (fineO a) (fineO b)).size) (.int .i64 (dealL (fineO a) (fineO b)).size)) && true) = true) (
.ob (((V.beq (.int .i64 (dealL (fineO a) (fineO b)).size) (.int .i64 (dealL (fineO a) (fineO b)).size)) && true) = true) (
.ob (((V.beq (.agg (dv a b 2)) (.agg (dv a b 2))) && ((V.beq (.agg [.int .i64 0, .int .i64 1]) (.agg [.int .i64 0, .int .i64 1])) && true)) = true) (
.ob (((V.beq (.agg (dv a b 2)) (.agg (dv a b 2))) && ((V.beq (.agg [.int .i64 0, .int .i64 1]) (.agg [.int .i64 0, .int .i64 1])) && true)) = true) (
.ob (((V.beq (.agg (dv a b 2)) (.agg (dv a b 2))) && ((V.beq (.agg [.int .i64 0, .int .i64 1]) (.agg [.int .i64 0, .int .i64 1])) && true)) = true) (
.ob (((V.beq (.agg (dv a b 2)) (.agg (dv a b 2))) && true) = true) (
.ob (((V.beq (.int .i64 2) (.int .i64 2)) && true) = true) (
.ob (((V.beq (.int .i64 2) (.int .i64 2)) && true) = true) (
.ob (((V.beq (.int .i64 2) (.int .i64 2)) && true) = true) (
.ob (True) (
.ob (True) (
.ob (9 = 9 ∧ 0 ≤ (0 : Int) ∧ (0 : Int) < ((1 : Nat) : Int)) (
.ob (9 = 9 ∧ 0 ≤ (0 : Int) ∧ (0 : Int) < ((1 : Nat) : Int)) (
.ob (9 = 9 ∧ 0 ≤ (0 : Int) ∧ (0 : Int) < ((1 : Nat) : Int)) (
.ob (Gw.lenStr (.str []) = some (.int .i64 0)) (
.ob (Gw.lenStr (.str []) = some (.int .i64 0)) (
.ob (((V.beq (.str []) (.str [])) && ((V.beq (.bool true) (.bool true)) && ((V.beq (.agg [.int .i64 0, .int .i64 1]) (.agg [.int .i64 0, .int .i64 1])) && true))) = true) (
.ob (((V.beq (.int .i64 6) (.int .i64 6)) && true) = true) (
.ob (((V.beq (.agg [.int .i64 0, .int .i64 1, .bool true, .int .i64 3, .int .i64 6, .int .i64 0, .int .i64 0, .bool true, .str []]) (.agg [.int .i64 0, .int .i64 1, .bool true, .int .i64 3, .int .i64 6, .int .i64 0, .int .i64 0, .bool true, .str []])) && true) = true) (
.ob (((eqV (.agg [.i, .i, .b, .i, .i, .i, .i, .b, .s]) (.agg [.int .i64 0, .int .i64 1, .bool true, .int .i64 3, .int .i64 6, .int .i64 0, .int .i64 0, .bool true, .str []]) (.agg [.int .i64 0, .int .i64 1, .bool true, .int .i64 3, .int .i64 6, .int .i64 0, .int .i64 0, .bool true, .str []])).map fun b => V.bool (if true then !b else b)) = some (.bool false)) (
.ob (((V.beq (.agg [.int .i64 0, .int .i64 1]) (.agg [.int .i64 0, .int .i64 1])) && true) = true) (
.ob (True) (
.ob (True) (
.ob (((V.beq (.bool true) (.bool true)) && true) = true) (
.ob ((4 = 4 ∧ ([.int .i64 6, .int .u32 1, .str [], .nils] : List V).length = 1 * 4) ∧ allOne [.int .i64 6, .int .u32 1, .str [], .nils] = true ∧ 1 * 56 ≤ 70368744177664) (
.ob (4 = 4 ∧ 0 ≤ (0 : Int) ∧ (0 : Int) < ((1 : Nat) : Int)) (
.ob (((V.beq (.int .i64 1) (.int .i64 1)) && true) = true) (
.ob (minV (.int .i64 (if (7 : Int) < (if (1 : Int) > (dealL (fineO b) (fineO a)).win then 1 else (dealL (fineO b) (fineO a)).win) then 7 else (if (1 : Int) > (dealL (fineO b) (fineO a)).win then 1 else (dealL (fineO b) (fineO a)).win))) [(.int .i64 0)] = some (.int .i64 0)) (
.ob ((0 ≤ (0 : Int) ∧ (0 : Int) ≤ ((0 : Nat) : Int)) ∧ (True)) (
.ob ((9 = 9 ∧ ([.int .i64 0, .int .i64 0, .bool true, .int .i64 2, .int .i64 0, .int .i64 0, .int .i64 0, .bool false, .str []] : List V).length = 1 * 9) ∧ allOne [.int .i64 0, .int .i64 0, .bool true, .int .i64 2, .int .i64 0, .int .i64 0, .int .i64 0, .bool false, .str []] = true ∧ 1 * 80 ≤ 70368744177664) (
.ob (9 = 9 ∧ 0 ≤ (0 : Int) ∧ (0 : Int) < ((1 : Nat) : Int)) (
.ob (9 = 9 ∧ 0 ≤ (0 : Int) ∧ (0 : Int) < ((1 : Nat) : Int)) (
.ob (9 = 9 ∧ 0 ≤ (0 : Int) ∧ (0 : Int) < ((1 : Nat) : Int)) (
.ob (9 = 9 ∧ 0 ≤ (0 : Int) ∧ (0 : Int) < ((1 : Nat) : Int)) (
.ob (Gw.lenStr (.str []) = some (.int .i64 0)) (
.ob (Gw.lenStr (.str []) = some (.int .i64 0)) (
.ob (((V.beq (.str []) (.str [])) && ((V.beq (.bool true) (.bool true)) && ((V.beq (.agg [.int .i64 0, .int .i64 1]) (.agg [.int .i64 0, .int .i64 1])) && true))) = true) (
.ob (((V.beq (.int .i64 0) (.int .i64 0)) && ((V.beq (.int .i64 0) (.int .i64 0)) && true)) = true) (
.ob (((V.beq (.int .i64 0) (.int .i64 0)) && true) = true) (
.ob (((V.beq (.agg [.int .i64 0, .int .i64 1, .bool true, .int .i64 2, .int .i64 0, .int .i64 0, .int .i64 0, .bool true, .str []]) (.agg [.int .i64 0, .int .i64 1, .bool true, .int .i64 2, .int .i64 0, .int .i64 0, .int .i64 0, .bool true, .str []])) && true) = true) (
.ob (((eqV (.agg [.i, .i, .b, .i, .i, .i, .i, .b, .s]) (.agg [.int .i64 0, .int .i64 1, .bool true, .int .i64 2, .int .i64 0, .int .i64 0, .int .i64 0, .bool true, .str []]) (.agg [.int .i64 0, .int .i64 1, .bool true, .int .i64 2, .int .i64 0, .int .i64 0, .int .i64 0, .bool true, .str []])).map fun b => V.bool (if true then !b else b)) = some (.bool false)) (
.ob (True) (
.ob (((V.beq (.bool true) (.bool true)) && true) = true) (
.ob (IntKind.i64 = IntKind.i64 ∧ (8 : Int) ≠ 0) (
.ob (IntKind.i64 = IntKind.i64 ∧ (8 : Int) ≠ 0) (
.ob (IntKind.i64 = IntKind.i64 ∧ (8 : Int) ≠ 0) (
.ob (IntKind.i64 = IntKind.i64 ∧ (8 : Int) ≠ 0) (
.ob (IntKind.i64 = IntKind.i64 ∧ (8 : Int) ≠ 0) (
.ob (IntKind.i64 = IntKind.i64 ∧ (8 : Int) ≠ 0) (
.ob (IntKind.i64 = IntKind.i64 ∧ (8 : Int) ≠ 0) (
.ob (IntKind.i64 = IntKind.i64 ∧ (8 : Int) ≠ 0) (
.ob (IntKind.i64 = IntKind.i64 ∧ (8 : Int) ≠ 0) (
.ob (IntKind.i64 = IntKind.i64 ∧ (8 : Int) ≠ 0) (
.ob ((True) ∧ (0 ≤ (0 : Int) ∧ (0 : Int) ≤ ((0 : Nat) : Int))) (
.ob (4 = 4 ∧ 0 ≤ (0 : Int) ∧ (0 : Int) < ((1 : Nat) : Int)) (
.ob (((V.beq (.int .i64 2) (.int .i64 2)) && true) = true) (
.ob (minV (.int .i64 (if (7 : Int) < (if (1 : Int) > (dealL (fineO a) (fineO b)).win then 1 else (dealL (fineO a) (fineO b)).win) then 7 else (if (1 : Int) > (dealL (fineO a) (fineO b)).win then 1 else (dealL (fineO a) (fineO b)).win))) [(.int .i64 0)] = some (.int .i64 0)) (
.ob ((0 ≤ (0 : Int) ∧ (0 : Int) ≤ ((0 : Nat) : Int)) ∧ (True)) (
.ob ((9 = 9 ∧ ([.int .i64 0, .int .i64 0, .bool false, .int .i64 2, .int .i64 0, .int .i64 0, .int .i64 0, .bool false, .str []] : List V).length = 1 * 9) ∧ allOne [.int .i64 0, .int .i64 0, .bool false, .int .i64 2, .int .i64 0, .int .i64 0, .int .i64 0, .bool false, .str []] = true ∧ 1 * 80 ≤ 70368744177664) (
.ob (9 = 9 ∧ 0 ≤ (0 : Int) ∧ (0 : Int) < ((1 : Nat) : Int)) (
.ob (9 = 9 ∧ 0 ≤ (0 : Int) ∧ (0 : Int) < ((1 : Nat) : Int)) (
.leaf (.bool true))))))))))))))))))))))))))))))))))))))))))))))))))))))))))))))))))))))))))))))))))))))))))))))))))))))))))))))))
set_option maxRecDepth 1000000 in
theorem treeLinkChange0_2t_eq (a : Gw.Offer) (b : Gw.Offer) : funT (mkXT (noPX) (oxLinkChange0_2t a b)) (mkXP (noPX)) (mkX (noPX) (oxLinkChange0_2t a b)) LD.DL (fun g => match g with | 113 => (fun k => match k with | 38 => some fun t h => (match h.n with | 93 => (.int .i64 25, h) | 112 => (.int .i64 25, h) | 253 => (.int .i64 25, h) | 272 => (.int .i64 25, h) | 424 => (.int .i64 0, h) | 443 => (.int .i64 0, h) | 523 => (.int .i64 0, h) | _ => (.int .i64 0, h)) | _ => none) | 77 => (fun k => match k with | 52 => some fun t h => (match h.n with | 128 => (.bool false, h) | 288 => (.bool false, h) | 459 => (.bool false, h) | _ => (.bool false, h)) | _ => none) | 147 => (fun k => match k with | 18 => some fun t h => (match h.n with | 473 => (.int .i64 0, h) | _ => (.int .i64 0, h)) | _ => none) | _ => noOrc) (fun k => match k with | 14 => [15, 38, 44, 50, 56, 58, 63, 68, 74, 83, 89, 94, 99, 105, 110, 120, 126, 131, 137] | 21 => [31, 41, 49, 60, 69, 72, 76] | 22 => [10, 15, 20, 25, 30, 31, 37, 41, 45, 50, 57, 81, 90, 98, 102] | 26 => [15, 22, 31, 52, 58, 74, 80, 86, 96] | 35 => [8, 11, 15, 19, 23] | 39 => [16, 25, 30, 36, 39, 44, 47, 57, 67, 82, 86, 99, 108, 116] | 41 => [10, 20] | 56 => [10, 33, 34, 40, 44, 49, 52, 66, 67, 68, 71] | 60 => [8, 25, 32, 44, 49, 55, 68, 73, 78] | 62 => [28, 30] | 63 => [9] | 64 => [9, 23] | 65 => [7, 20, 34] | 77 => [8, 15, 26, 32, 37, 41, 46, 52] | 81 => [14, 20, 28] | 82 => [13] | 83 => [7, 11, 17, 28, 31, 32, 37, 45, 55] | 105 => [9] | 107 => [10] | 108 => [11, 17, 34, 60] | 109 => [13] | 113 => [11, 16, 20, 25, 30, 34, 39, 47] | 114 => [8, 14, 19, 24, 34, 44] | 126 => [17] | 127 => [12, 21, 26] | 128 => [8, 19] | 146 => [6, 9, 20] | 147 => [30] | 148 => [11, 15, 28] | 152 => [9] | 156 => [13] | 165 => [8, 12, 16, 19, 23, 27, 30, 34, 38] | 166 => [8, 13, 16, 18, 21] | 174 => [17] | 175 => [8, 21, 24, 30] | 189 => [6, 10] | 190 => [9, 14, 15, 19, 23, 32] | _ => []) 12 noOrc [15, 38, 44, 50, 56, 58, 63, 68, 74, 83, 89, 94, 99, 105, 110, 120, 126, 131, 137] (noLt) LD.c14 [.agg a.vs, .agg b.vs, .bool true] (tabH kT0 kT1 kT2 3) (fun v _ => v) = treeLinkChange0_2t a b := by kernel_rfl
theorem satLinkChange0_2t (a : Gw.Offer) (b : Gw.Offer) (hwa : loL (fineO a).wait = 0) (hwb : loL (fineO b).wait = 2) : (treeLinkChange0_2t a b).sat fun v => v = .bool true :=
 sat_ob trivial (
sat_ob (by simp only [V.beq_refl, Bool.and_true]) (
sat_ob trivial (
sat_ob trivial (
sat_ob (pMay_fine a) (
sat_ob (by simp only [V.beq_refl, Bool.and_true]) (
sat_ob trivial (
sat_ob (pMay_fine b) (
sat_ob trivial (
sat_ob (by decide) (
sat_ob (by simp only [V.beq_refl, Bool.and_true]) (
sat_ob (by simp only [V.beq_refl, Bool.and_true]) (
sat_ob (okSet 1 2 0 1 a (by decide) (by decide) (by decide) (by decide)) (
sat_ob (by decide) (
sat_ob rfl (
sat_ob rfl (
sat_ob (by simp only [V.beq_refl, Bool.and_true]) (
sat_ob (by simp only [V.beq_refl, Bool.and_true]) (
sat_ob (by simp only [V.beq_refl, Bool.and_true]) (
sat_ob (by simp [eqV, eqCells]) (
sat_ob (by simp only [V.beq_refl, Bool.and_true]) (
sat_ob trivial (
sat_ob ⟨⟨1, 2, 0, 1, (fineO a)⟩, (okSet 1 2 0 1 a (by decide) (by decide) (by decide) (by decide)), rfl⟩ (
sat_ob (get_put ⟨1, 2, 0, 1, (fineO a)⟩ (okSet 1 2 0 1 a (by decide) (by decide) (by decide) (by decide))) (
sat_ob ⟨mayO_fine b, mayO_fine a⟩ (
sat_ob (by show V.tup [.agg [.int .i64 _, .int .i64 _, .int .i64 _, .int .i64 _, .int .i64 (loL (fineO a).wait)], .bool true] = _; rw [hwa]; rfl) (
sat_ob (by simp only [V.beq_refl, Bool.and_true]) (
sat_ob (by simp only [V.beq_refl, Bool.and_true]) (
sat_ob (by simp only [V.beq_refl, Bool.and_true]) (
sat_ob (by simp only [V.beq_refl, Bool.and_true]) (
sat_ob (by simp only [V.beq_refl, Bool.and_true]) (
sat_ob (by simp only [V.beq_refl, Bool.and_true]) (
sat_ob (by simp only [V.beq_refl, Bool.and_true]) (
sat_ob (by simp only [V.beq_refl, Bool.and_true]) (
sat_ob (by simp only [V.beq_refl, Bool.and_true]) (
sat_ob (okSet 2 1 0 1 b (by decide) (by decide) (by decide) (by decide)) (
sat_ob (by decide) (
sat_ob rfl (
sat_ob rfl (
sat_ob (by simp only [V.beq_refl, Bool.and_true]) (
sat_ob (by simp only [V.beq_refl, Bool.and_true]) (
sat_ob (by simp only [V.beq_refl, Bool.and_true]) (
sat_ob (by simp [eqV, eqCells]) (
sat_ob (by simp only [V.beq_refl, Bool.and_true]) (
sat_ob trivial (
sat_ob ⟨⟨2, 1, 0, 1, (fineO b)⟩, (okSet 2 1 0 1 b (by decide) (by decide) (by decide) (by decide)), rfl⟩ (
sat_ob (get_put ⟨2, 1, 0, 1, (fineO b)⟩ (okSet 2 1 0 1 b (by decide) (by decide) (by decide) (by decide))) (
sat_ob ⟨mayO_fine a, mayO_fine b⟩ (
sat_ob (by show V.tup [.agg [.int .i64 _, .int .i64 _, .int .i64 _, .int .i64 _, .int .i64 (loL (fineO b).wait)], .bool true] = _; rw [hwb]; rfl) (
sat_ob trivial (
sat_ob (by simp only [V.beq_refl, Bool.and_true]) (
sat_ob (by simp only [V.beq_refl, Bool.and_true]) (
sat_ob (by simp only [V.beq_refl, Bool.and_true]) (
sat_ob (by simp only [V.beq_refl, Bool.and_true]) (
sat_ob (by simp only [V.beq_refl, Bool.and_true]) (
sat_ob (by simp only [V.beq_refl, Bool.and_true]) (
sat_ob (by simp only [V.beq_refl, Bool.and_true]) (
sat_ob (by simp only [V.beq_refl, Bool.and_true]) (
sat_ob (by simp only [V.beq_refl, Bool.and_true]) (
sat_ob trivial (
sat_ob trivial (
sat_ob (by decide) (
sat_ob (by decide) (
sat_ob (by decide) (
sat_ob (by first | rfl | simp [binV, binI, eqV, eqCells]) (
sat_ob (by first | rfl | simp [binV, binI, eqV, eqCells]) (
sat_ob (by simp only [V.beq_refl, Bool.and_true]) (
sat_ob (by simp only [V.beq_refl, Bool.and_true]) (
sat_ob (by simp only [V.beq_refl, Bool.and_true]) (
sat_ob (by simp [eqV, eqCells]) (
sat_ob (by simp only [V.beq_refl, Bool.and_true]) (
sat_ob trivial (
sat_ob trivial (
sat_ob (by simp only [V.beq_refl, Bool.and_true]) (
sat_ob (by decide) (
sat_ob (by decide) (
sat_ob (by simp only [V.beq_refl, Bool.and_true]) (
sat_ob (min0 _) (
sat_ob (by decide) (
sat_ob (by decide) (
sat_ob (by decide) (
sat_ob (by decide) (
sat_ob (by decide) (
sat_ob (by decide) (
sat_ob (by first | rfl | simp [binV, binI, eqV, eqCells]) (
sat_ob (by first | rfl | simp [binV, binI, eqV, eqCells]) (
sat_ob (by simp only [V.beq_refl, Bool.and_true]) (
sat_ob (by simp only [V.beq_refl, Bool.and_true]) (
sat_ob (by simp only [V.beq_refl, Bool.and_true]) (
sat_ob (by simp only [V.beq_refl, Bool.and_true]) (
sat_ob (by simp [eqV, eqCells]) (
sat_ob trivial (
sat_ob (by simp only [V.beq_refl, Bool.and_true]) (
sat_ob (by decide) (
sat_ob (by decide) (
sat_ob (by decide) (
sat_ob (by decide) (
sat_ob (by decide) (
sat_ob (by decide) (
sat_ob (by decide) (
sat_ob (by decide) (
sat_ob (by decide) (
sat_ob (by decide) (
sat_ob (by decide) (
sat_ob (by decide) (
sat_ob (by simp only [V.beq_refl, Bool.and_true]) (
sat_ob (min0 _) (
sat_ob (by decide) (
sat_ob (by decide) (
sat_ob (by decide) (
sat_ob (by decide) (
sat_leaf (rfl))))))))))))))))))))))))))))))))))))))))))))))))))))))))))))))))))))))))))))))))))))))))))))))))))))))))))))))))
theorem runLinkChange0_2t (a : Gw.Offer) (b : Gw.Offer) (hwa : loL (fineO a).wait = 0) (hwb : loL (fineO b).wait = 2) : Run Tryz.prog 14 [.agg a.vs, .agg b.vs, .bool true] (tabH kT0 kT1 kT2 3) fun v _ => v = .bool true := run_plainU mixed (show TabX Tryz.prog noPX (oxLinkChange0_2t a b) from ((((((TabX.nil.addO ans_begun).addT (ans_fine noV)).addT (ans_may (fun n => match n with | 12 => some (.bool true) | 20 => some (.bool true) | _ => none))).addT (ans_deal (fun n => match n with | 151 => some (.tup [.agg (dv b a 0), .bool true]) | 311 => some (.tup [.agg (dv a b 2), .bool true]) | _ => none))).addT (ans_put noV)).addT (ans_get (fun n => match n with | 138 => some (.tup [.agg [.int .u32 1, .int .u32 2, .int .i64 0, .int .i64 1, .int .i64 (fineO a).baud, .int .i64 (fineO a).silent, .int .i64 (fineO a).win, .int .i64 (fineO a).size, .int .i64 (fineO a).wait], .bool true]) | 298 => some (.tup [.agg [.int .u32 2, .int .u32 1, .int .i64 0, .int .i64 1, .int .i64 (fineO b).baud, .int .i64 (fineO b).silent, .int .i64 (fineO b).win, .int .i64 (fineO b).size, .int .i64 (fineO b).wait], .bool true]) | _ => none)))) LD.tabDL (show LD.DL 14 = some LD.c14 from rfl) (treeLinkChange0_2t_eq a b) (satLinkChange0_2t a b hwa hwb)
end Go.Proofs.YtbkgcdncdaeiaaaGreatDoor
