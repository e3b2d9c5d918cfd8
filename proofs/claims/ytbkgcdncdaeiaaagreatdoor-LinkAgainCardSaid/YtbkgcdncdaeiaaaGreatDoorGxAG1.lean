/- LinkAgain: its trees. -/
import Derived.Test.YtbkgcdncdaeiaaaGreatDoorGxP
import Derived.Test.YtbkgcdncdaeiaaaGreatDoorGxE3
noncomputable section
namespace Go.Proofs.YtbkgcdncdaeiaaaGreatDoor
open Go Gw Go.RowKit
set_option linter.unusedSimpArgs false
set_option linter.unusedVariables false
def oxLinkAgain1_0 (a : Gw.Offer) (b : Gw.Offer) (n : Int) : OTab := (consT 79 (gD dGet pGet (fun n => match n with | 130 => some (.tup [.agg [.int .u32 1, .int .u32 2, .int .i64 0, .int .i64 1, .int .i64 (fineO a).baud, .int .i64 (fineO a).silent, .int .i64 (fineO a).win, .int .i64 (fineO a).size, .int .i64 (fineO a).wait], .bool true]) | _ => none)) (consT 106 (gD dPut pPut noV) (consT 80 (gDT kT0 kT1 kT2 dDeal pDeal (fun n => match n with | 143 => some (.tup [.agg [.int .i64 (dealL (fineO b) (fineO a)).baud, .int .i64 200, .int .i64 (dealL (fineO b) (fineO a)).win, .int .i64 (dealL (fineO b) (fineO a)).size, .int .i64 1], .bool true]) | _ => none)) (consT 76 (gD dOff pMayQ (fun n => match n with | 8 => some (.bool true) | 16 => some (.bool true) | _ => none)) (consT 20 (gD dOff pFine noV) (consO 19 (gTrue kT0 kT1 kT2) noOX))))))
def treeLinkAgain1_0 (a : Gw.Offer) (b : Gw.Offer) (n : Int) : DT V :=
  .ob (binV .rem (.int .i64 n) (.int .i64 4) = some (.int .i64 0)) (
.ob (IntKind.i64 = IntKind.i64 ∧ (4 : Int) ≠ 0) (
.ob (dOff [.agg [.int .i64 a.baud, .int .i64 a.silent, .int .i64 a.win, .int .i64 a.size, .int .i64 a.wait]]) (
.ob (((V.beq (.agg [.int .i64 b.baud, .int .i64 b.silent, .int .i64 b.win, .int .i64 b.size, .int .i64 b.wait]) (.agg [.int .i64 b.baud, .int .i64 b.silent, .int .i64 b.win, .int .i64 b.size, .int .i64 b.wait])) && true) = true) (
.ob (dOff [.agg [.int .i64 (fineO a).baud, .int .i64 (fineO a).silent, .int .i64 (fineO a).win, .int .i64 (fineO a).size, .int .i64 (fineO a).wait]]) (
.ob (pMayQ [.agg [.int .i64 (fineO a).baud, .int .i64 (fineO a).silent, .int .i64 (fineO a).win, .int .i64 (fineO a).size, .int .i64 (fineO a).wait]] = (.bool true)) (
.ob (((V.beq (.agg [.int .i64 b.baud, .int .i64 b.silent, .int .i64 b.win, .int .i64 b.size, .int .i64 b.wait]) (.agg [.int .i64 b.baud, .int .i64 b.silent, .int .i64 b.win, .int .i64 b.size, .int .i64 b.wait])) && true) = true) (
.ob (dOff [.agg [.int .i64 b.baud, .int .i64 b.silent, .int .i64 b.win, .int .i64 b.size, .int .i64 b.wait]]) (
.ob (dOff [.agg [.int .i64 (fineO b).baud, .int .i64 (fineO b).silent, .int .i64 (fineO b).win, .int .i64 (fineO b).size, .int .i64 (fineO b).wait]]) (
.ob (pMayQ [.agg [.int .i64 (fineO b).baud, .int .i64 (fineO b).silent, .int .i64 (fineO b).win, .int .i64 (fineO b).size, .int .i64 (fineO b).wait]] = (.bool true)) (
.ob (True) (
.ob (IntKind.i64 = IntKind.i64 ∧ (250 : Int) ≠ 0) (
.ob (((V.beq (.int .u32 2) (.int .u32 2)) && true) = true) (
.ob (((V.beq (.int .u32 2) (.int .u32 2)) && true) = true) (
.ob (dPut [.agg [.int .u32 1, .int .u32 2, .int .i64 0, .int .i64 1, .int .i64 (fineO a).baud, .int .i64 (fineO a).silent, .int .i64 (fineO a).win, .int .i64 (fineO a).size, .int .i64 (fineO a).wait]]) (
.ob (9 = 9 ∧ 0 ≤ (0 : Int) ∧ (0 : Int) < ((1 : Nat) : Int)) (
.ob (Gw.lenStr (.str (setupStr ⟨1, 2, 0, 1, (fineO a)⟩)) = some (.int .i64 25)) (
.ob (Gw.lenStr (.str (setupStr ⟨1, 2, 0, 1, (fineO a)⟩)) = some (.int .i64 25)) (
.ob (((V.beq (.str (setupStr ⟨1, 2, 0, 1, (fineO a)⟩)) (.str (setupStr ⟨1, 2, 0, 1, (fineO a)⟩))) && ((V.beq (.bool true) (.bool true)) && ((V.beq (.agg [.int .i64 127, .int .i64 255]) (.agg [.int .i64 127, .int .i64 255])) && true))) = true) (
.ob (((V.beq (.int .i64 2) (.int .i64 2)) && true) = true) (
.ob (((V.beq (.agg [.int .i64 127, .int .i64 255, .bool true, .int .i64 3, .int .i64 2, .int .i64 0, .int .i64 0, .bool true, .str (setupStr ⟨1, 2, 0, 1, (fineO a)⟩)]) (.agg [.int .i64 127, .int .i64 255, .bool true, .int .i64 3, .int .i64 2, .int .i64 0, .int .i64 0, .bool true, .str (setupStr ⟨1, 2, 0, 1, (fineO a)⟩)])) && true) = true) (
.ob (((eqV (.agg [.i, .i, .b, .i, .i, .i, .i, .b, .s]) (.agg [.int .i64 127, .int .i64 255, .bool true, .int .i64 3, .int .i64 2, .int .i64 0, .int .i64 0, .bool true, .str (setupStr ⟨1, 2, 0, 1, (fineO a)⟩)]) (.agg [.int .i64 127, .int .i64 255, .bool true, .int .i64 3, .int .i64 2, .int .i64 0, .int .i64 0, .bool true, .str (setupStr ⟨1, 2, 0, 1, (fineO a)⟩)])).map fun b => V.bool (if true then !b else b)) = some (.bool false)) (
.ob (((V.beq (.agg [.int .i64 127, .int .i64 255]) (.agg [.int .i64 127, .int .i64 255])) && true) = true) (
.ob (True) (
.ob (dGet [.str (setupStr ⟨1, 2, 0, 1, (fineO a)⟩)]) (
.ob (pGet [.str (setupStr ⟨1, 2, 0, 1, (fineO a)⟩)] = (.tup [.agg [.int .u32 1, .int .u32 2, .int .i64 0, .int .i64 1, .int .i64 (fineO a).baud, .int .i64 (fineO a).silent, .int .i64 (fineO a).win, .int .i64 (fineO a).size, .int .i64 (fineO a).wait], .bool true])) (
.ob (dDeal [.agg [.int .i64 (fineO b).baud, .int .i64 (fineO b).silent, .int .i64 (fineO b).win, .int .i64 (fineO b).size, .int .i64 (fineO b).wait], .agg [.int .i64 (fineO a).baud, .int .i64 (fineO a).silent, .int .i64 (fineO a).win, .int .i64 (fineO a).size, .int .i64 (fineO a).wait]]) (
.ob (pDeal [.agg [.int .i64 (fineO b).baud, .int .i64 (fineO b).silent, .int .i64 (fineO b).win, .int .i64 (fineO b).size, .int .i64 (fineO b).wait], .agg [.int .i64 (fineO a).baud, .int .i64 (fineO a).silent, .int .i64 (fineO a).win, .int .i64 (fineO a).size, .int .i64 (fineO a).wait]] = (.tup [.agg [.int .i64 (dealL (fineO b) (fineO a)).baud, .int .i64 200, .int .i64 (dealL (fineO b) (fineO a)).win, .int .i64 (dealL (fineO b) (fineO a)).size, .int .i64 1], .bool true])) (
.ob (((V.beq (.int .i64 (dealL (fineO b) (fineO a)).size) (.int .i64 (dealL (fineO b) (fineO a)).size)) && true) = true) (
.ob (((V.beq (.int .i64 (dealL (fineO b) (fineO a)).size) (.int .i64 (dealL (fineO b) (fineO a)).size)) && true) = true) (
.ob (((V.beq (.agg [.int .i64 (dealL (fineO b) (fineO a)).baud, .int .i64 200, .int .i64 (dealL (fineO b) (fineO a)).win, .int .i64 (dealL (fineO b) (fineO a)).size, .int .i64 1]) (.agg [.int .i64 (dealL (fineO b) (fineO a)).baud, .int .i64 200, .int .i64 (dealL (fineO b) (fineO a)).win, .int .i64 (dealL (fineO b) (fineO a)).size, .int .i64 1])) && ((V.beq (.agg [.int .i64 0, .int .i64 1]) (.agg [.int .i64 0, .int .i64 1])) && true)) = true) (
.ob (((V.beq (.agg [.int .i64 (dealL (fineO b) (fineO a)).baud, .int .i64 200, .int .i64 (dealL (fineO b) (fineO a)).win, .int .i64 (dealL (fineO b) (fineO a)).size, .int .i64 1]) (.agg [.int .i64 (dealL (fineO b) (fineO a)).baud, .int .i64 200, .int .i64 (dealL (fineO b) (fineO a)).win, .int .i64 (dealL (fineO b) (fineO a)).size, .int .i64 1])) && ((V.beq (.agg [.int .i64 0, .int .i64 1]) (.agg [.int .i64 0, .int .i64 1])) && true)) = true) (
.ob (((V.beq (.agg [.int .i64 (dealL (fineO b) (fineO a)).baud, .int .i64 200, .int .i64 (dealL (fineO b) (fineO a)).win, .int .i64 (dealL (fineO b) (fineO a)).size, .int .i64 1]) (.agg [.int .i64 (dealL (fineO b) (fineO a)).baud, .int .i64 200, .int .i64 (dealL (fineO b) (fineO a)).win, .int .i64 (dealL (fineO b) (fineO a)).size, .int .i64 1])) && ((V.beq (.agg [.int .i64 0, .int .i64 1]) (.agg [.int .i64 0, .int .i64 1])) && true)) = true) (
.ob (((V.beq (.agg [.int .i64 (dealL (fineO b) (fineO a)).baud, .int .i64 200, .int .i64 (dealL (fineO b) (fineO a)).win, .int .i64 (dealL (fineO b) (fineO a)).size, .int .i64 1]) (.agg [.int .i64 (dealL (fineO b) (fineO a)).baud, .int .i64 200, .int .i64 (dealL (fineO b) (fineO a)).win, .int .i64 (dealL (fineO b) (fineO a)).size, .int .i64 1])) && true) = true) (
.ob (((V.beq (.int .i64 1) (.int .i64 1)) && true) = true) (
.ob (((V.beq (.int .i64 1) (.int .i64 1)) && true) = true) (
.ob (((V.beq (.int .i64 1) (.int .i64 1)) && true) = true) (
.ob (dPut [.agg [.int .u32 2, .int .u32 1, .int .i64 0, .int .i64 1, .int .i64 (fineO b).baud, .int .i64 (fineO b).silent, .int .i64 (fineO b).win, .int .i64 (fineO b).size, .int .i64 (fineO b).wait]]) (
.ob (4 = 4 ∧ 0 ≤ (0 : Int) ∧ (0 : Int) < ((1 : Nat) : Int)) (
.ob (9 = 9 ∧ 0 ≤ (0 : Int) ∧ (0 : Int) < ((1 : Nat) : Int)) (
.ob (True) (
.leaf (.bool true))))))))))))))))))))))))))))))))))))))))))
set_option maxRecDepth 1000000 in
theorem treeLinkAgain1_0_eq (a : Gw.Offer) (b : Gw.Offer) (n : Int) : funT (mkXT (noPX) (oxLinkAgain1_0 a b n)) (mkXP (noPX)) (mkX (noPX) (oxLinkAgain1_0 a b n)) D (fun g => match g with | 113 => (fun k => match k with | 38 => some fun t h => (match h.n with | 85 => (.int .i64 25, h) | _ => (.int .i64 25, h)) | _ => none) | 77 => (fun k => match k with | 52 => some fun t h => (.bool false, h) | _ => none) | _ => noOrc) (fun k => match k with | 9 => [22, 46, 55, 58, 68, 73, 78, 89, 96, 100, 104, 106, 110, 116] | 22 => [10, 15, 20, 25, 30, 31, 37, 41, 50, 57] | 26 => [15, 22, 31, 52, 58, 74, 80] | 35 => [8, 11, 15, 19, 23] | 39 => [16, 25, 30, 36, 39, 57, 67, 82, 86, 99] | 56 => [10, 33, 40, 44, 49] | 60 => [8, 25, 32] | 62 => [28, 30] | 63 => [9] | 77 => [8, 15, 26, 37, 41, 46, 52] | 82 => [13] | 107 => [10] | 113 => [11, 16, 20, 25, 30, 34, 39] | 114 => [8, 14, 19, 24, 34, 44] | 146 => [6, 9, 20] | 165 => [8, 19, 30, 34, 38] | 166 => [8, 13, 18, 21] | _ => []) 12 (fun k => match k with | 26 => some fun t h => (.int .i64 0, h) | _ => none) [22, 46, 55, 58, 68, 73, 78, 89, 96, 100, 104, 106, 110, 116] (noLt) (dOf 9) [.agg a.vs, .agg b.vs, .int .i64 n] (tabH kT0 kT1 kT2 3) (fun v _ => v) = treeLinkAgain1_0 a b n := by kernel_rfl
theorem satLinkAgain1_0 (a : Gw.Offer) (b : Gw.Offer) (n : Int) (hn : (n.tmod 4 + 4).tmod 4 = 0) (hwa : loL (fineO a).wait = 1) : (treeLinkAgain1_0 a b n).sat fun v => v = .bool true :=
 sat_ob (rem1 hn) (
sat_ob (by decide) (
sat_ob trivial (
sat_ob (by simp only [V.beq_refl, Bool.and_true]) (
sat_ob trivial (
sat_ob (pMay_fine a) (
sat_ob (by simp only [V.beq_refl, Bool.and_true]) (
sat_ob trivial (
sat_ob trivial (
sat_ob (pMay_fine b) (
sat_ob trivial (
sat_ob (by decide) (
sat_ob (by simp only [V.beq_refl, Bool.and_true]) (
sat_ob (by simp only [V.beq_refl, Bool.and_true]) (
sat_ob (okSet 1 2 0 1 a (by decide) (by decide) (by decide) (by decide)) (
sat_ob (by decide) (
sat_ob rfl (
sat_ob rfl (
sat_ob (by simp only [V.beq_refl, Bool.and_true]) (
sat_ob (by simp only [V.beq_refl, Bool.and_true]) (
sat_ob (by simp only [V.beq_refl, Bool.and_true]) (
sat_ob (by simp [eqV, eqCells]) (
sat_ob (by simp only [V.beq_refl, Bool.and_true]) (
sat_ob trivial (
sat_ob ⟨⟨1, 2, 0, 1, (fineO a)⟩, (okSet 1 2 0 1 a (by decide) (by decide) (by decide) (by decide)), rfl⟩ (
sat_ob (get_put ⟨1, 2, 0, 1, (fineO a)⟩ (okSet 1 2 0 1 a (by decide) (by decide) (by decide) (by decide))) (
sat_ob ⟨mayO_fine b, mayO_fine a⟩ (
sat_ob (by show V.tup [.agg [.int .i64 _, .int .i64 _, .int .i64 _, .int .i64 _, .int .i64 (loL (fineO a).wait)], .bool true] = _; rw [hwa]; rfl) (
sat_ob (by simp only [V.beq_refl, Bool.and_true]) (
sat_ob (by simp only [V.beq_refl, Bool.and_true]) (
sat_ob (by simp only [V.beq_refl, Bool.and_true]) (
sat_ob (by simp only [V.beq_refl, Bool.and_true]) (
sat_ob (by simp only [V.beq_refl, Bool.and_true]) (
sat_ob (by simp only [V.beq_refl, Bool.and_true]) (
sat_ob (by simp only [V.beq_refl, Bool.and_true]) (
sat_ob (by simp only [V.beq_refl, Bool.and_true]) (
sat_ob (by simp only [V.beq_refl, Bool.and_true]) (
sat_ob (okSet 2 1 0 1 b (by decide) (by decide) (by decide) (by decide)) (
sat_ob (by decide) (
sat_ob (by decide) (
sat_ob trivial (
sat_leaf (rfl))))))))))))))))))))))))))))))))))))))))))
theorem runLinkAgain1_0 (a : Gw.Offer) (b : Gw.Offer) (n : Int) (hn : (n.tmod 4 + 4).tmod 4 = 0) (hwa : loL (fineO a).wait = 1) : Run Tryz.prog 9 [.agg a.vs, .agg b.vs, .int .i64 n] (tabH kT0 kT1 kT2 3) fun v _ => v = .bool true := run_plainU mixed (show TabX Tryz.prog noPX (oxLinkAgain1_0 a b n) from ((((((TabX.nil.addO ans_begun).addT (ans_fine noV)).addT (ans_may (fun n => match n with | 8 => some (.bool true) | 16 => some (.bool true) | _ => none))).addT (ans_deal (fun n => match n with | 143 => some (.tup [.agg [.int .i64 (dealL (fineO b) (fineO a)).baud, .int .i64 200, .int .i64 (dealL (fineO b) (fineO a)).win, .int .i64 (dealL (fineO b) (fineO a)).size, .int .i64 1], .bool true]) | _ => none))).addT (ans_put noV)).addT (ans_get (fun n => match n with | 130 => some (.tup [.agg [.int .u32 1, .int .u32 2, .int .i64 0, .int .i64 1, .int .i64 (fineO a).baud, .int .i64 (fineO a).silent, .int .i64 (fineO a).win, .int .i64 (fineO a).size, .int .i64 (fineO a).wait], .bool true]) | _ => none)))) tabD (dIs (by kernel_rfl)) (treeLinkAgain1_0_eq a b n) (satLinkAgain1_0 a b n hn hwa)
def oxLinkAgain1_1 (a : Gw.Offer) (b : Gw.Offer) (n : Int) : OTab := (consT 79 (gD dGet pGet (fun n => match n with | 130 => some (.tup [.agg [.int .u32 1, .int .u32 2, .int .i64 0, .int .i64 1, .int .i64 (fineO a).baud, .int .i64 (fineO a).silent, .int .i64 (fineO a).win, .int .i64 (fineO a).size, .int .i64 (fineO a).wait], .bool true]) | 294 => some (.tup [.agg [.int .u32 1, .int .u32 2, .int .i64 0, .int .i64 1, .int .i64 (fineO a).baud, .int .i64 (fineO a).silent, .int .i64 (fineO a).win, .int .i64 (fineO a).size, .int .i64 (fineO a).wait], .bool true]) | _ => none)) (consT 106 (gD dPut pPut noV) (consT 80 (gDT kT0 kT1 kT2 dDeal pDeal (fun n => match n with | 143 => some (.tup [.agg [.int .i64 (dealL (fineO b) (fineO a)).baud, .int .i64 200, .int .i64 (dealL (fineO b) (fineO a)).win, .int .i64 (dealL (fineO b) (fineO a)).size, .int .i64 1], .bool true]) | 307 => some (.tup [.agg [.int .i64 (dealL (fineO b) (fineO a)).baud, .int .i64 200, .int .i64 (dealL (fineO b) (fineO a)).win, .int .i64 (dealL (fineO b) (fineO a)).size, .int .i64 1], .bool true]) | _ => none)) (consT 76 (gD dOff pMayQ (fun n => match n with | 8 => some (.bool true) | 16 => some (.bool true) | _ => none)) (consT 20 (gD dOff pFine noV) (consO 19 (gTrue kT0 kT1 kT2) noOX))))))
def treeLinkAgain1_1 (a : Gw.Offer) (b : Gw.Offer) (n : Int) : DT V :=
  .ob (IntKind.i64 = IntKind.i64 ∧ (4 : Int) ≠ 0) (
.ob (binV .rem (.int .i64 (wrapK .i64 (((n : Int).tmod 4) + 4))) (.int .i64 4) = some (.int .i64 1)) (
.ob (dOff [.agg [.int .i64 a.baud, .int .i64 a.silent, .int .i64 a.win, .int .i64 a.size, .int .i64 a.wait]]) (
.ob (((V.beq (.agg [.int .i64 b.baud, .int .i64 b.silent, .int .i64 b.win, .int .i64 b.size, .int .i64 b.wait]) (.agg [.int .i64 b.baud, .int .i64 b.silent, .int .i64 b.win, .int .i64 b.size, .int .i64 b.wait])) && true) = true) (
.ob (dOff [.agg [.int .i64 (fineO a).baud, .int .i64 (fineO a).silent, .int .i64 (fineO a).win, .int .i64 (fineO a).size, .int .i64 (fineO a).wait]]) (
.ob (pMayQ [.agg [.int .i64 (fineO a).baud, .int .i64 (fineO a).silent, .int .i64 (fineO a).win, .int .i64 (fineO a).size, .int .i64 (fineO a).wait]] = (.bool true)) (
.ob (((V.beq (.agg [.int .i64 b.baud, .int .i64 b.silent, .int .i64 b.win, .int .i64 b.size, .int .i64 b.wait]) (.agg [.int .i64 b.baud, .int .i64 b.silent, .int .i64 b.win, .int .i64 b.size, .int .i64 b.wait])) && true) = true) (
.ob (dOff [.agg [.int .i64 b.baud, .int .i64 b.silent, .int .i64 b.win, .int .i64 b.size, .int .i64 b.wait]]) (
.ob (dOff [.agg [.int .i64 (fineO b).baud, .int .i64 (fineO b).silent, .int .i64 (fineO b).win, .int .i64 (fineO b).size, .int .i64 (fineO b).wait]]) (
.ob (pMayQ [.agg [.int .i64 (fineO b).baud, .int .i64 (fineO b).silent, .int .i64 (fineO b).win, .int .i64 (fineO b).size, .int .i64 (fineO b).wait]] = (.bool true)) (
.ob (True) (
.ob (IntKind.i64 = IntKind.i64 ∧ (250 : Int) ≠ 0) (
.ob (((V.beq (.int .u32 2) (.int .u32 2)) && true) = true) (
.ob (((V.beq (.int .u32 2) (.int .u32 2)) && true) = true) (
.ob (dPut [.agg [.int .u32 1, .int .u32 2, .int .i64 0, .int .i64 1, .int .i64 (fineO a).baud, .int .i64 (fineO a).silent, .int .i64 (fineO a).win, .int .i64 (fineO a).size, .int .i64 (fineO a).wait]]) (
.ob (9 = 9 ∧ 0 ≤ (0 : Int) ∧ (0 : Int) < ((1 : Nat) : Int)) (
.ob (Gw.lenStr (.str (setupStr ⟨1, 2, 0, 1, (fineO a)⟩)) = some (.int .i64 25)) (
.ob (Gw.lenStr (.str (setupStr ⟨1, 2, 0, 1, (fineO a)⟩)) = some (.int .i64 25)) (
.ob (((V.beq (.str (setupStr ⟨1, 2, 0, 1, (fineO a)⟩)) (.str (setupStr ⟨1, 2, 0, 1, (fineO a)⟩))) && ((V.beq (.bool true) (.bool true)) && ((V.beq (.agg [.int .i64 127, .int .i64 255]) (.agg [.int .i64 127, .int .i64 255])) && true))) = true) (
.ob (((V.beq (.int .i64 2) (.int .i64 2)) && true) = true) (
.ob (((V.beq (.agg [.int .i64 127, .int .i64 255, .bool true, .int .i64 3, .int .i64 2, .int .i64 0, .int .i64 0, .bool true, .str (setupStr ⟨1, 2, 0, 1, (fineO a)⟩)]) (.agg [.int .i64 127, .int .i64 255, .bool true, .int .i64 3, .int .i64 2, .int .i64 0, .int .i64 0, .bool true, .str (setupStr ⟨1, 2, 0, 1, (fineO a)⟩)])) && true) = true) (
.ob (((eqV (.agg [.i, .i, .b, .i, .i, .i, .i, .b, .s]) (.agg [.int .i64 127, .int .i64 255, .bool true, .int .i64 3, .int .i64 2, .int .i64 0, .int .i64 0, .bool true, .str (setupStr ⟨1, 2, 0, 1, (fineO a)⟩)]) (.agg [.int .i64 127, .int .i64 255, .bool true, .int .i64 3, .int .i64 2, .int .i64 0, .int .i64 0, .bool true, .str (setupStr ⟨1, 2, 0, 1, (fineO a)⟩)])).map fun b => V.bool (if true then !b else b)) = some (.bool false)) (
.ob (((V.beq (.agg [.int .i64 127, .int .i64 255]) (.agg [.int .i64 127, .int .i64 255])) && true) = true) (
.ob (True) (
.ob (dGet [.str (setupStr ⟨1, 2, 0, 1, (fineO a)⟩)]) (
.ob (pGet [.str (setupStr ⟨1, 2, 0, 1, (fineO a)⟩)] = (.tup [.agg [.int .u32 1, .int .u32 2, .int .i64 0, .int .i64 1, .int .i64 (fineO a).baud, .int .i64 (fineO a).silent, .int .i64 (fineO a).win, .int .i64 (fineO a).size, .int .i64 (fineO a).wait], .bool true])) (
.ob (dDeal [.agg [.int .i64 (fineO b).baud, .int .i64 (fineO b).silent, .int .i64 (fineO b).win, .int .i64 (fineO b).size, .int .i64 (fineO b).wait], .agg [.int .i64 (fineO a).baud, .int .i64 (fineO a).silent, .int .i64 (fineO a).win, .int .i64 (fineO a).size, .int .i64 (fineO a).wait]]) (
.ob (pDeal [.agg [.int .i64 (fineO b).baud, .int .i64 (fineO b).silent, .int .i64 (fineO b).win, .int .i64 (fineO b).size, .int .i64 (fineO b).wait], .agg [.int .i64 (fineO a).baud, .int .i64 (fineO a).silent, .int .i64 (fineO a).win, .int .i64 (fineO a).size, .int .i64 (fineO a).wait]] = (.tup [.agg [.int .i64 (dealL (fineO b) (fineO a)).baud, .int .i64 200, .int .i64 (dealL (fineO b) (fineO a)).win, .int .i64 (dealL (fineO b) (fineO a)).size, .int .i64 1], .bool true])) (
.ob (((V.beq (.int .i64 (dealL (fineO b) (fineO a)).size) (.int .i64 (dealL (fineO b) (fineO a)).size)) && true) = true) (
.ob (((V.beq (.int .i64 (dealL (fineO b) (fineO a)).size) (.int .i64 (dealL (fineO b) (fineO a)).size)) && true) = true) (
.ob (((V.beq (.agg [.int .i64 (dealL (fineO b) (fineO a)).baud, .int .i64 200, .int .i64 (dealL (fineO b) (fineO a)).win, .int .i64 (dealL (fineO b) (fineO a)).size, .int .i64 1]) (.agg [.int .i64 (dealL (fineO b) (fineO a)).baud, .int .i64 200, .int .i64 (dealL (fineO b) (fineO a)).win, .int .i64 (dealL (fineO b) (fineO a)).size, .int .i64 1])) && ((V.beq (.agg [.int .i64 0, .int .i64 1]) (.agg [.int .i64 0, .int .i64 1])) && true)) = true) (
.ob (((V.beq (.agg [.int .i64 (dealL (fineO b) (fineO a)).baud, .int .i64 200, .int .i64 (dealL (fineO b) (fineO a)).win, .int .i64 (dealL (fineO b) (fineO a)).size, .int .i64 1]) (.agg [.int .i64 (dealL (fineO b) (fineO a)).baud, .int .i64 200, .int .i64 (dealL (fineO b) (fineO a)).win, .int .i64 (dealL (fineO b) (fineO a)).size, .int .i64 1])) && ((V.beq (.agg [.int .i64 0, .int .i64 1]) (.agg [.int .i64 0, .int .i64 1])) && true)) = true) (
.ob (((V.beq (.agg [.int .i64 (dealL (fineO b) (fineO a)).baud, .int .i64 200, .int .i64 (dealL (fineO b) (fineO a)).win, .int .i64 (dealL (fineO b) (fineO a)).size, .int .i64 1]) (.agg [.int .i64 (dealL (fineO b) (fineO a)).baud, .int .i64 200, .int .i64 (dealL (fineO b) (fineO a)).win, .int .i64 (dealL (fineO b) (fineO a)).size, .int .i64 1])) && ((V.beq (.agg [.int .i64 0, .int .i64 1]) (.agg [.int .i64 0, .int .i64 1])) && true)) = true) (
.ob (((V.beq (.agg [.int .i64 (dealL (fineO b) (fineO a)).baud, .int .i64 200, .int .i64 (dealL (fineO b) (fineO a)).win, .int .i64 (dealL (fineO b) (fineO a)).size, .int .i64 1]) (.agg [.int .i64 (dealL (fineO b) (fineO a)).baud, .int .i64 200, .int .i64 (dealL (fineO b) (fineO a)).win, .int .i64 (dealL (fineO b) (fineO a)).size, .int .i64 1])) && true) = true) (
.ob (((V.beq (.int .i64 1) (.int .i64 1)) && true) = true) (
.ob (((V.beq (.int .i64 1) (.int .i64 1)) && true) = true) (
.ob (((V.beq (.int .i64 1) (.int .i64 1)) && true) = true) (
.ob (dPut [.agg [.int .u32 2, .int .u32 1, .int .i64 0, .int .i64 1, .int .i64 (fineO b).baud, .int .i64 (fineO b).silent, .int .i64 (fineO b).win, .int .i64 (fineO b).size, .int .i64 (fineO b).wait]]) (
.ob (4 = 4 ∧ 0 ≤ (0 : Int) ∧ (0 : Int) < ((1 : Nat) : Int)) (
.ob (9 = 9 ∧ 0 ≤ (0 : Int) ∧ (0 : Int) < ((1 : Nat) : Int)) (
.ob (9 = 9 ∧ 0 ≤ (0 : Int) ∧ (0 : Int) < ((1 : Nat) : Int)) (
.ob (Gw.lenStr (.str (setupStr ⟨1, 2, 0, 1, (fineO a)⟩)) = some (.int .i64 25)) (
.ob (Gw.lenStr (.str (setupStr ⟨1, 2, 0, 1, (fineO a)⟩)) = some (.int .i64 25)) (
.ob (((V.beq (.str (setupStr ⟨1, 2, 0, 1, (fineO a)⟩)) (.str (setupStr ⟨1, 2, 0, 1, (fineO a)⟩))) && ((V.beq (.bool true) (.bool true)) && ((V.beq (.agg [.int .i64 127, .int .i64 255]) (.agg [.int .i64 127, .int .i64 255])) && true))) = true) (
.ob (((V.beq (.int .i64 2) (.int .i64 2)) && true) = true) (
.ob (((V.beq (.agg [.int .i64 127, .int .i64 255, .bool true, .int .i64 3, .int .i64 2, .int .i64 0, .int .i64 0, .bool true, .str (setupStr ⟨1, 2, 0, 1, (fineO a)⟩)]) (.agg [.int .i64 127, .int .i64 255, .bool true, .int .i64 3, .int .i64 2, .int .i64 0, .int .i64 0, .bool true, .str (setupStr ⟨1, 2, 0, 1, (fineO a)⟩)])) && true) = true) (
.ob (((eqV (.agg [.i, .i, .b, .i, .i, .i, .i, .b, .s]) (.agg [.int .i64 127, .int .i64 255, .bool true, .int .i64 3, .int .i64 2, .int .i64 0, .int .i64 0, .bool true, .str (setupStr ⟨1, 2, 0, 1, (fineO a)⟩)]) (.agg [.int .i64 127, .int .i64 255, .bool true, .int .i64 3, .int .i64 2, .int .i64 0, .int .i64 0, .bool true, .str (setupStr ⟨1, 2, 0, 1, (fineO a)⟩)])).map fun b => V.bool (if true then !b else b)) = some (.bool false)) (
.ob (((V.beq (.agg [.int .i64 127, .int .i64 255]) (.agg [.int .i64 127, .int .i64 255])) && true) = true) (
.ob (True) (
.ob (dGet [.str (setupStr ⟨1, 2, 0, 1, (fineO a)⟩)]) (
.ob (pGet [.str (setupStr ⟨1, 2, 0, 1, (fineO a)⟩)] = (.tup [.agg [.int .u32 1, .int .u32 2, .int .i64 0, .int .i64 1, .int .i64 (fineO a).baud, .int .i64 (fineO a).silent, .int .i64 (fineO a).win, .int .i64 (fineO a).size, .int .i64 (fineO a).wait], .bool true])) (
.ob (dDeal [.agg [.int .i64 (fineO b).baud, .int .i64 (fineO b).silent, .int .i64 (fineO b).win, .int .i64 (fineO b).size, .int .i64 (fineO b).wait], .agg [.int .i64 (fineO a).baud, .int .i64 (fineO a).silent, .int .i64 (fineO a).win, .int .i64 (fineO a).size, .int .i64 (fineO a).wait]]) (
.ob (pDeal [.agg [.int .i64 (fineO b).baud, .int .i64 (fineO b).silent, .int .i64 (fineO b).win, .int .i64 (fineO b).size, .int .i64 (fineO b).wait], .agg [.int .i64 (fineO a).baud, .int .i64 (fineO a).silent, .int .i64 (fineO a).win, .int .i64 (fineO a).size, .int .i64 (fineO a).wait]] = (.tup [.agg [.int .i64 (dealL (fineO b) (fineO a)).baud, .int .i64 200, .int .i64 (dealL (fineO b) (fineO a)).win, .int .i64 (dealL (fineO b) (fineO a)).size, .int .i64 1], .bool true])) (
.ob (True) (
.ob (dPut [.agg [.int .u32 2, .int .u32 1, .int .i64 0, .int .i64 1, .int .i64 (fineO b).baud, .int .i64 (fineO b).silent, .int .i64 (fineO b).win, .int .i64 (fineO b).size, .int .i64 (fineO b).wait]]) (
.ob (9 = 9 ∧ 0 ≤ (0 : Int) ∧ (0 : Int) < ((1 : Nat) : Int)) (
.ob (True) (
.leaf (.bool true))))))))))))))))))))))))))))))))))))))))))))))))))))))))))
set_option maxRecDepth 1000000 in
theorem treeLinkAgain1_1_eq (a : Gw.Offer) (b : Gw.Offer) (n : Int) : funT (mkXT (noPX) (oxLinkAgain1_1 a b n)) (mkXP (noPX)) (mkX (noPX) (oxLinkAgain1_1 a b n)) D (fun g => match g with | 113 => (fun k => match k with | 38 => some fun t h => (match h.n with | 85 => (.int .i64 25, h) | 104 => (.int .i64 25, h) | 249 => (.int .i64 25, h) | _ => (.int .i64 25, h)) | _ => none) | 77 => (fun k => match k with | 52 => some fun t h => (match h.n with | 120 => (.bool false, h) | _ => (.bool false, h)) | _ => none) | _ => noOrc) (fun k => match k with | 9 => [22, 46, 55, 58, 68, 73, 78, 89, 96, 100, 104, 106, 110, 116] | 22 => [10, 15, 20, 25, 30, 31, 37, 41, 50, 57] | 26 => [15, 22, 31, 52, 58, 74, 80] | 35 => [8, 11, 15, 19, 23] | 39 => [16, 25, 30, 36, 39, 57, 67, 82, 86, 99] | 56 => [10, 33, 40, 44, 49] | 60 => [8, 25, 32] | 62 => [28, 30] | 63 => [9] | 77 => [8, 15, 26, 37, 41, 46, 52] | 82 => [13, 26, 34, 39, 47] | 107 => [10] | 113 => [11, 16, 20, 25, 30, 34, 39] | 114 => [8, 14, 19, 24, 34, 44] | 146 => [6, 9, 20] | 165 => [8, 19, 30, 34, 38] | 166 => [8, 13, 18, 21] | _ => []) 12 (fun k => match k with | 28 => some fun t h => (.int .i64 1, h) | _ => none) [22, 46, 55, 58, 68, 73, 78, 89, 96, 100, 104, 106, 110, 116] (noLt) (dOf 9) [.agg a.vs, .agg b.vs, .int .i64 n] (tabH kT0 kT1 kT2 3) (fun v _ => v) = treeLinkAgain1_1 a b n := by kernel_rfl
theorem satLinkAgain1_1 (a : Gw.Offer) (b : Gw.Offer) (n : Int) (hn : (n.tmod 4 + 4).tmod 4 = 1) (hwa : loL (fineO a).wait = 1) : (treeLinkAgain1_1 a b n).sat fun v => v = .bool true :=
 sat_ob (by decide) (
sat_ob (rem2 hn) (
sat_ob trivial (
sat_ob (by simp only [V.beq_refl, Bool.and_true]) (
sat_ob trivial (
sat_ob (pMay_fine a) (
sat_ob (by simp only [V.beq_refl, Bool.and_true]) (
sat_ob trivial (
sat_ob trivial (
sat_ob (pMay_fine b) (
sat_ob trivial (
sat_ob (by decide) (
sat_ob (by simp only [V.beq_refl, Bool.and_true]) (
sat_ob (by simp only [V.beq_refl, Bool.and_true]) (
sat_ob (okSet 1 2 0 1 a (by decide) (by decide) (by decide) (by decide)) (
sat_ob (by decide) (
sat_ob rfl (
sat_ob rfl (
sat_ob (by simp only [V.beq_refl, Bool.and_true]) (
sat_ob (by simp only [V.beq_refl, Bool.and_true]) (
sat_ob (by simp only [V.beq_refl, Bool.and_true]) (
sat_ob (by simp [eqV, eqCells]) (
sat_ob (by simp only [V.beq_refl, Bool.and_true]) (
sat_ob trivial (
sat_ob ⟨⟨1, 2, 0, 1, (fineO a)⟩, (okSet 1 2 0 1 a (by decide) (by decide) (by decide) (by decide)), rfl⟩ (
sat_ob (get_put ⟨1, 2, 0, 1, (fineO a)⟩ (okSet 1 2 0 1 a (by decide) (by decide) (by decide) (by decide))) (
sat_ob ⟨mayO_fine b, mayO_fine a⟩ (
sat_ob (by show V.tup [.agg [.int .i64 _, .int .i64 _, .int .i64 _, .int .i64 _, .int .i64 (loL (fineO a).wait)], .bool true] = _; rw [hwa]; rfl) (
sat_ob (by simp only [V.beq_refl, Bool.and_true]) (
sat_ob (by simp only [V.beq_refl, Bool.and_true]) (
sat_ob (by simp only [V.beq_refl, Bool.and_true]) (
sat_ob (by simp only [V.beq_refl, Bool.and_true]) (
sat_ob (by simp only [V.beq_refl, Bool.and_true]) (
sat_ob (by simp only [V.beq_refl, Bool.and_true]) (
sat_ob (by simp only [V.beq_refl, Bool.and_true]) (
sat_ob (by simp only [V.beq_refl, Bool.and_true]) (
sat_ob (by simp only [V.beq_refl, Bool.and_true]) (
sat_ob (okSet 2 1 0 1 b (by decide) (by decide) (by decide) (by decide)) (
sat_ob (by decide) (
sat_ob (by decide) (
sat_ob (by decide) (
sat_ob rfl (
sat_ob rfl (
sat_ob (by simp only [V.beq_refl, Bool.and_true]) (
sat_ob (by simp only [V.beq_refl, Bool.and_true]) (
sat_ob (by simp only [V.beq_refl, Bool.and_true]) (
sat_ob (by simp [eqV, eqCells]) (
sat_ob (by simp only [V.beq_refl, Bool.and_true]) (
sat_ob trivial (
sat_ob ⟨⟨1, 2, 0, 1, (fineO a)⟩, (okSet 1 2 0 1 a (by decide) (by decide) (by decide) (by decide)), rfl⟩ (
sat_ob (get_put ⟨1, 2, 0, 1, (fineO a)⟩ (okSet 1 2 0 1 a (by decide) (by decide) (by decide) (by decide))) (
sat_ob ⟨mayO_fine b, mayO_fine a⟩ (
sat_ob (by show V.tup [.agg [.int .i64 _, .int .i64 _, .int .i64 _, .int .i64 _, .int .i64 (loL (fineO a).wait)], .bool true] = _; rw [hwa]; rfl) (
sat_ob trivial (
sat_ob (okSet 2 1 0 1 b (by decide) (by decide) (by decide) (by decide)) (
sat_ob (by decide) (
sat_ob trivial (
sat_leaf (rfl))))))))))))))))))))))))))))))))))))))))))))))))))))))))))
theorem runLinkAgain1_1 (a : Gw.Offer) (b : Gw.Offer) (n : Int) (hn : (n.tmod 4 + 4).tmod 4 = 1) (hwa : loL (fineO a).wait = 1) : Run Tryz.prog 9 [.agg a.vs, .agg b.vs, .int .i64 n] (tabH kT0 kT1 kT2 3) fun v _ => v = .bool true := run_plainU mixed (show TabX Tryz.prog noPX (oxLinkAgain1_1 a b n) from ((((((TabX.nil.addO ans_begun).addT (ans_fine noV)).addT (ans_may (fun n => match n with | 8 => some (.bool true) | 16 => some (.bool true) | _ => none))).addT (ans_deal (fun n => match n with | 143 => some (.tup [.agg [.int .i64 (dealL (fineO b) (fineO a)).baud, .int .i64 200, .int .i64 (dealL (fineO b) (fineO a)).win, .int .i64 (dealL (fineO b) (fineO a)).size, .int .i64 1], .bool true]) | 307 => some (.tup [.agg [.int .i64 (dealL (fineO b) (fineO a)).baud, .int .i64 200, .int .i64 (dealL (fineO b) (fineO a)).win, .int .i64 (dealL (fineO b) (fineO a)).size, .int .i64 1], .bool true]) | _ => none))).addT (ans_put noV)).addT (ans_get (fun n => match n with | 130 => some (.tup [.agg [.int .u32 1, .int .u32 2, .int .i64 0, .int .i64 1, .int .i64 (fineO a).baud, .int .i64 (fineO a).silent, .int .i64 (fineO a).win, .int .i64 (fineO a).size, .int .i64 (fineO a).wait], .bool true]) | 294 => some (.tup [.agg [.int .u32 1, .int .u32 2, .int .i64 0, .int .i64 1, .int .i64 (fineO a).baud, .int .i64 (fineO a).silent, .int .i64 (fineO a).win, .int .i64 (fineO a).size, .int .i64 (fineO a).wait], .bool true]) | _ => none)))) tabD (dIs (by kernel_rfl)) (treeLinkAgain1_1_eq a b n) (satLinkAgain1_1 a b n hn hwa)
def oxLinkAgain1_2 (a : Gw.Offer) (b : Gw.Offer) (n : Int) : OTab := (consT 79 (gD dGet pGet (fun n => match n with | 130 => some (.tup [.agg [.int .u32 1, .int .u32 2, .int .i64 0, .int .i64 1, .int .i64 (fineO a).baud, .int .i64 (fineO a).silent, .int .i64 (fineO a).win, .int .i64 (fineO a).size, .int .i64 (fineO a).wait], .bool true]) | 294 => some (.tup [.agg [.int .u32 1, .int .u32 2, .int .i64 0, .int .i64 1, .int .i64 (fineO a).baud, .int .i64 (fineO a).silent, .int .i64 (fineO a).win, .int .i64 (fineO a).size, .int .i64 (fineO a).wait], .bool true]) | 419 => some (.tup [.agg [.int .u32 1, .int .u32 2, .int .i64 0, .int .i64 1, .int .i64 (fineO a).baud, .int .i64 (fineO a).silent, .int .i64 (fineO a).win, .int .i64 (fineO a).size, .int .i64 (fineO a).wait], .bool true]) | _ => none)) (consT 106 (gD dPut pPut noV) (consT 80 (gDT kT0 kT1 kT2 dDeal pDeal (fun n => match n with | 143 => some (.tup [.agg [.int .i64 (dealL (fineO b) (fineO a)).baud, .int .i64 200, .int .i64 (dealL (fineO b) (fineO a)).win, .int .i64 (dealL (fineO b) (fineO a)).size, .int .i64 1], .bool true]) | 307 => some (.tup [.agg [.int .i64 (dealL (fineO b) (fineO a)).baud, .int .i64 200, .int .i64 (dealL (fineO b) (fineO a)).win, .int .i64 (dealL (fineO b) (fineO a)).size, .int .i64 1], .bool true]) | 432 => some (.tup [.agg [.int .i64 (dealL (fineO b) (fineO a)).baud, .int .i64 200, .int .i64 (dealL (fineO b) (fineO a)).win, .int .i64 (dealL (fineO b) (fineO a)).size, .int .i64 1], .bool true]) | _ => none)) (consT 76 (gD dOff pMayQ (fun n => match n with | 8 => some (.bool true) | 16 => some (.bool true) | _ => none)) (consT 20 (gD dOff pFine noV) (consO 19 (gTrue kT0 kT1 kT2) noOX))))))
def treeLinkAgain1_2 (a : Gw.Offer) (b : Gw.Offer) (n : Int) : DT V :=
  .ob (IntKind.i64 = IntKind.i64 ∧ (4 : Int) ≠ 0) (
.ob (binV .rem (.int .i64 (wrapK .i64 (((n : Int).tmod 4) + 4))) (.int .i64 4) = some (.int .i64 2)) (
.ob (dOff [.agg [.int .i64 a.baud, .int .i64 a.silent, .int .i64 a.win, .int .i64 a.size, .int .i64 a.wait]]) (
.ob (((V.beq (.agg [.int .i64 b.baud, .int .i64 b.silent, .int .i64 b.win, .int .i64 b.size, .int .i64 b.wait]) (.agg [.int .i64 b.baud, .int .i64 b.silent, .int .i64 b.win, .int .i64 b.size, .int .i64 b.wait])) && true) = true) (
.ob (dOff [.agg [.int .i64 (fineO a).baud, .int .i64 (fineO a).silent, .int .i64 (fineO a).win, .int .i64 (fineO a).size, .int .i64 (fineO a).wait]]) (
.ob (pMayQ [.agg [.int .i64 (fineO a).baud, .int .i64 (fineO a).silent, .int .i64 (fineO a).win, .int .i64 (fineO a).size, .int .i64 (fineO a).wait]] = (.bool true)) (
.ob (((V.beq (.agg [.int .i64 b.baud, .int .i64 b.silent, .int .i64 b.win, .int .i64 b.size, .int .i64 b.wait]) (.agg [.int .i64 b.baud, .int .i64 b.silent, .int .i64 b.win, .int .i64 b.size, .int .i64 b.wait])) && true) = true) (
.ob (dOff [.agg [.int .i64 b.baud, .int .i64 b.silent, .int .i64 b.win, .int .i64 b.size, .int .i64 b.wait]]) (
.ob (dOff [.agg [.int .i64 (fineO b).baud, .int .i64 (fineO b).silent, .int .i64 (fineO b).win, .int .i64 (fineO b).size, .int .i64 (fineO b).wait]]) (
.ob (pMayQ [.agg [.int .i64 (fineO b).baud, .int .i64 (fineO b).silent, .int .i64 (fineO b).win, .int .i64 (fineO b).size, .int .i64 (fineO b).wait]] = (.bool true)) (
.ob (True) (
.ob (IntKind.i64 = IntKind.i64 ∧ (250 : Int) ≠ 0) (
.ob (((V.beq (.int .u32 2) (.int .u32 2)) && true) = true) (
.ob (((V.beq (.int .u32 2) (.int .u32 2)) && true) = true) (
.ob (dPut [.agg [.int .u32 1, .int .u32 2, .int .i64 0, .int .i64 1, .int .i64 (fineO a).baud, .int .i64 (fineO a).silent, .int .i64 (fineO a).win, .int .i64 (fineO a).size, .int .i64 (fineO a).wait]]) (
.ob (9 = 9 ∧ 0 ≤ (0 : Int) ∧ (0 : Int) < ((1 : Nat) : Int)) (
.ob (Gw.lenStr (.str (setupStr ⟨1, 2, 0, 1, (fineO a)⟩)) = some (.int .i64 25)) (
.ob (Gw.lenStr (.str (setupStr ⟨1, 2, 0, 1, (fineO a)⟩)) = some (.int .i64 25)) (
.ob (((V.beq (.str (setupStr ⟨1, 2, 0, 1, (fineO a)⟩)) (.str (setupStr ⟨1, 2, 0, 1, (fineO a)⟩))) && ((V.beq (.bool true) (.bool true)) && ((V.beq (.agg [.int .i64 127, .int .i64 255]) (.agg [.int .i64 127, .int .i64 255])) && true))) = true) (
.ob (((V.beq (.int .i64 2) (.int .i64 2)) && true) = true) (
.ob (((V.beq (.agg [.int .i64 127, .int .i64 255, .bool true, .int .i64 3, .int .i64 2, .int .i64 0, .int .i64 0, .bool true, .str (setupStr ⟨1, 2, 0, 1, (fineO a)⟩)]) (.agg [.int .i64 127, .int .i64 255, .bool true, .int .i64 3, .int .i64 2, .int .i64 0, .int .i64 0, .bool true, .str (setupStr ⟨1, 2, 0, 1, (fineO a)⟩)])) && true) = true) (
.ob (((eqV (.agg [.i, .i, .b, .i, .i, .i, .i, .b, .s]) (.agg [.int .i64 127, .int .i64 255, .bool true, .int .i64 3, .int .i64 2, .int .i64 0, .int .i64 0, .bool true, .str (setupStr ⟨1, 2, 0, 1, (fineO a)⟩)]) (.agg [.int .i64 127, .int .i64 255, .bool true, .int .i64 3, .int .i64 2, .int .i64 0, .int .i64 0, .bool true, .str (setupStr ⟨1, 2, 0, 1, (fineO a)⟩)])).map fun b => V.bool (if true then !b else b)) = some (.bool false)) (
.ob (((V.beq (.agg [.int .i64 127, .int .i64 255]) (.agg [.int .i64 127, .int .i64 255])) && true) = true) (
.ob (True) (
.ob (dGet [.str (setupStr ⟨1, 2, 0, 1, (fineO a)⟩)]) (
.ob (pGet [.str (setupStr ⟨1, 2, 0, 1, (fineO a)⟩)] = (.tup [.agg [.int .u32 1, .int .u32 2, .int .i64 0, .int .i64 1, .int .i64 (fineO a).baud, .int .i64 (fineO a).silent, .int .i64 (fineO a).win, .int .i64 (fineO a).size, .int .i64 (fineO a).wait], .bool true])) (
.ob (dDeal [.agg [.int .i64 (fineO b).baud, .int .i64 (fineO b).silent, .int .i64 (fineO b).win, .int .i64 (fineO b).size, .int .i64 (fineO b).wait], .agg [.int .i64 (fineO a).baud, .int .i64 (fineO a).silent, .int .i64 (fineO a).win, .int .i64 (fineO a).size, .int .i64 (fineO a).wait]]) (
.ob (pDeal [.agg [.int .i64 (fineO b).baud, .int .i64 (fineO b).silent, .int .i64 (fineO b).win, .int .i64 (fineO b).size, .int .i64 (fineO b).wait], .agg [.int .i64 (fineO a).baud, .int .i64 (fineO a).silent, .int .i64 (fineO a).win, .int .i64 (fineO a).size, .int .i64 (fineO a).wait]] = (.tup [.agg [.int .i64 (dealL (fineO b) (fineO a)).baud, .int .i64 200, .int .i64 (dealL (fineO b) (fineO a)).win, .int .i64 (dealL (fineO b) (fineO a)).size, .int .i64 1], .bool true])) (
.ob (((V.beq (.int .i64 (dealL (fineO b) (fineO a)).size) (.int .i64 (dealL (fineO b) (fineO a)).size)) && true) = true) (
.ob (((V.beq (.int .i64 (dealL (fineO b) (fineO a)).size) (.int .i64 (dealL (fineO b) (fineO a)).size)) && true) = true) (
.ob (((V.beq (.agg [.int .i64 (dealL (fineO b) (fineO a)).baud, .int .i64 200, .int .i64 (dealL (fineO b) (fineO a)).win, .int .i64 (dealL (fineO b) (fineO a)).size, .int .i64 1]) (.agg [.int .i64 (dealL (fineO b) (fineO a)).baud, .int .i64 200, .int .i64 (dealL (fineO b) (fineO a)).win, .int .i64 (dealL (fineO b) (fineO a)).size, .int .i64 1])) && ((V.beq (.agg [.int .i64 0, .int .i64 1]) (.agg [.int .i64 0, .int .i64 1])) && true)) = true) (
.ob (((V.beq (.agg [.int .i64 (dealL (fineO b) (fineO a)).baud, .int .i64 200, .int .i64 (dealL (fineO b) (fineO a)).win, .int .i64 (dealL (fineO b) (fineO a)).size, .int .i64 1]) (.agg [.int .i64 (dealL (fineO b) (fineO a)).baud, .int .i64 200, .int .i64 (dealL (fineO b) (fineO a)).win, .int .i64 (dealL (fineO b) (fineO a)).size, .int .i64 1])) && ((V.beq (.agg [.int .i64 0, .int .i64 1]) (.agg [.int .i64 0, .int .i64 1])) && true)) = true) (
.ob (((V.beq (.agg [.int .i64 (dealL (fineO b) (fineO a)).baud, .int .i64 200, .int .i64 (dealL (fineO b) (fineO a)).win, .int .i64 (dealL (fineO b) (fineO a)).size, .int .i64 1]) (.agg [.int .i64 (dealL (fineO b) (fineO a)).baud, .int .i64 200, .int .i64 (dealL (fineO b) (fineO a)).win, .int .i64 (dealL (fineO b) (fineO a)).size, .int .i64 1])) && ((V.beq (.agg [.int .i64 0, .int .i64 1]) (.agg [.int .i64 0, .int .i64 1])) && true)) = true) (
.ob (((V.beq (.agg [.int .i64 (dealL (fineO b) (fineO a)).baud, .int .i64 200, .int .i64 (dealL (fineO b) (fineO a)).win, .int .i64 (dealL (fineO b) (fineO a)).size, .int .i64 1]) (.agg [.int .i64 (dealL (fineO b) (fineO a)).baud, .int .i64 200, .int .i64 (dealL (fineO b) (fineO a)).win, .int .i64 (dealL (fineO b) (fineO a)).size, .int .i64 1])) && true) = true) (
.ob (((V.beq (.int .i64 1) (.int .i64 1)) && true) = true) (
.ob (((V.beq (.int .i64 1) (.int .i64 1)) && true) = true) (
.ob (((V.beq (.int .i64 1) (.int .i64 1)) && true) = true) (
.ob (dPut [.agg [.int .u32 2, .int .u32 1, .int .i64 0, .int .i64 1, .int .i64 (fineO b).baud, .int .i64 (fineO b).silent, .int .i64 (fineO b).win, .int .i64 (fineO b).size, .int .i64 (fineO b).wait]]) (
.ob (4 = 4 ∧ 0 ≤ (0 : Int) ∧ (0 : Int) < ((1 : Nat) : Int)) (
.ob (9 = 9 ∧ 0 ≤ (0 : Int) ∧ (0 : Int) < ((1 : Nat) : Int)) (
.ob (9 = 9 ∧ 0 ≤ (0 : Int) ∧ (0 : Int) < ((1 : Nat) : Int)) (
.ob (Gw.lenStr (.str (setupStr ⟨1, 2, 0, 1, (fineO a)⟩)) = some (.int .i64 25)) (
.ob (Gw.lenStr (.str (setupStr ⟨1, 2, 0, 1, (fineO a)⟩)) = some (.int .i64 25)) (
.ob (((V.beq (.str (setupStr ⟨1, 2, 0, 1, (fineO a)⟩)) (.str (setupStr ⟨1, 2, 0, 1, (fineO a)⟩))) && ((V.beq (.bool true) (.bool true)) && ((V.beq (.agg [.int .i64 127, .int .i64 255]) (.agg [.int .i64 127, .int .i64 255])) && true))) = true) (
.ob (((V.beq (.int .i64 2) (.int .i64 2)) && true) = true) (
.ob (((V.beq (.agg [.int .i64 127, .int .i64 255, .bool true, .int .i64 3, .int .i64 2, .int .i64 0, .int .i64 0, .bool true, .str (setupStr ⟨1, 2, 0, 1, (fineO a)⟩)]) (.agg [.int .i64 127, .int .i64 255, .bool true, .int .i64 3, .int .i64 2, .int .i64 0, .int .i64 0, .bool true, .str (setupStr ⟨1, 2, 0, 1, (fineO a)⟩)])) && true) = true) (
.ob (((eqV (.agg [.i, .i, .b, .i, .i, .i, .i, .b, .s]) (.agg [.int .i64 127, .int .i64 255, .bool true, .int .i64 3, .int .i64 2, .int .i64 0, .int .i64 0, .bool true, .str (setupStr ⟨1, 2, 0, 1, (fineO a)⟩)]) (.agg [.int .i64 127, .int .i64 255, .bool true, .int .i64 3, .int .i64 2, .int .i64 0, .int .i64 0, .bool true, .str (setupStr ⟨1, 2, 0, 1, (fineO a)⟩)])).map fun b => V.bool (if true then !b else b)) = some (.bool false)) (
.ob (((V.beq (.agg [.int .i64 127, .int .i64 255]) (.agg [.int .i64 127, .int .i64 255])) && true) = true) (
.ob (True) (
.ob (dGet [.str (setupStr ⟨1, 2, 0, 1, (fineO a)⟩)]) (
.ob (pGet [.str (setupStr ⟨1, 2, 0, 1, (fineO a)⟩)] = (.tup [.agg [.int .u32 1, .int .u32 2, .int .i64 0, .int .i64 1, .int .i64 (fineO a).baud, .int .i64 (fineO a).silent, .int .i64 (fineO a).win, .int .i64 (fineO a).size, .int .i64 (fineO a).wait], .bool true])) (
.ob (dDeal [.agg [.int .i64 (fineO b).baud, .int .i64 (fineO b).silent, .int .i64 (fineO b).win, .int .i64 (fineO b).size, .int .i64 (fineO b).wait], .agg [.int .i64 (fineO a).baud, .int .i64 (fineO a).silent, .int .i64 (fineO a).win, .int .i64 (fineO a).size, .int .i64 (fineO a).wait]]) (
.ob (pDeal [.agg [.int .i64 (fineO b).baud, .int .i64 (fineO b).silent, .int .i64 (fineO b).win, .int .i64 (fineO b).size, .int .i64 (fineO b).wait], .agg [.int .i64 (fineO a).baud, .int .i64 (fineO a).silent, .int .i64 (fineO a).win, .int .i64 (fineO a).size, .int .i64 (fineO a).wait]] = (.tup [.agg [.int .i64 (dealL (fineO b) (fineO a)).baud, .int .i64 200, .int .i64 (dealL (fineO b) (fineO a)).win, .int .i64 (dealL (fineO b) (fineO a)).size, .int .i64 1], .bool true])) (
.ob (True) (
.ob (dPut [.agg [.int .u32 2, .int .u32 1, .int .i64 0, .int .i64 1, .int .i64 (fineO b).baud, .int .i64 (fineO b).silent, .int .i64 (fineO b).win, .int .i64 (fineO b).size, .int .i64 (fineO b).wait]]) (
.ob (9 = 9 ∧ 0 ≤ (0 : Int) ∧ (0 : Int) < ((1 : Nat) : Int)) (
.ob (9 = 9 ∧ 0 ≤ (0 : Int) ∧ (0 : Int) < ((1 : Nat) : Int)) (
.ob (Gw.lenStr (.str (setupStr ⟨1, 2, 0, 1, (fineO a)⟩)) = some (.int .i64 25)) (
.ob (Gw.lenStr (.str (setupStr ⟨1, 2, 0, 1, (fineO a)⟩)) = some (.int .i64 25)) (
.ob (((V.beq (.str (setupStr ⟨1, 2, 0, 1, (fineO a)⟩)) (.str (setupStr ⟨1, 2, 0, 1, (fineO a)⟩))) && ((V.beq (.bool true) (.bool true)) && ((V.beq (.agg [.int .i64 127, .int .i64 255]) (.agg [.int .i64 127, .int .i64 255])) && true))) = true) (
.ob (((V.beq (.int .i64 2) (.int .i64 2)) && true) = true) (
.ob (((V.beq (.agg [.int .i64 127, .int .i64 255, .bool true, .int .i64 3, .int .i64 2, .int .i64 0, .int .i64 0, .bool true, .str (setupStr ⟨1, 2, 0, 1, (fineO a)⟩)]) (.agg [.int .i64 127, .int .i64 255, .bool true, .int .i64 3, .int .i64 2, .int .i64 0, .int .i64 0, .bool true, .str (setupStr ⟨1, 2, 0, 1, (fineO a)⟩)])) && true) = true) (
.ob (((eqV (.agg [.i, .i, .b, .i, .i, .i, .i, .b, .s]) (.agg [.int .i64 127, .int .i64 255, .bool true, .int .i64 3, .int .i64 2, .int .i64 0, .int .i64 0, .bool true, .str (setupStr ⟨1, 2, 0, 1, (fineO a)⟩)]) (.agg [.int .i64 127, .int .i64 255, .bool true, .int .i64 3, .int .i64 2, .int .i64 0, .int .i64 0, .bool true, .str (setupStr ⟨1, 2, 0, 1, (fineO a)⟩)])).map fun b => V.bool (if true then !b else b)) = some (.bool false)) (
.ob (((V.beq (.agg [.int .i64 127, .int .i64 255]) (.agg [.int .i64 127, .int .i64 255])) && true) = true) (
.ob (True) (
.ob (dGet [.str (setupStr ⟨1, 2, 0, 1, (fineO a)⟩)]) (
.ob (pGet [.str (setupStr ⟨1, 2, 0, 1, (fineO a)⟩)] = (.tup [.agg [.int .u32 1, .int .u32 2, .int .i64 0, .int .i64 1, .int .i64 (fineO a).baud, .int .i64 (fineO a).silent, .int .i64 (fineO a).win, .int .i64 (fineO a).size, .int .i64 (fineO a).wait], .bool true])) (
.ob (dDeal [.agg [.int .i64 (fineO b).baud, .int .i64 (fineO b).silent, .int .i64 (fineO b).win, .int .i64 (fineO b).size, .int .i64 (fineO b).wait], .agg [.int .i64 (fineO a).baud, .int .i64 (fineO a).silent, .int .i64 (fineO a).win, .int .i64 (fineO a).size, .int .i64 (fineO a).wait]]) (
.ob (pDeal [.agg [.int .i64 (fineO b).baud, .int .i64 (fineO b).silent, .int .i64 (fineO b).win, .int .i64 (fineO b).size, .int .i64 (fineO b).wait], .agg [.int .i64 (fineO a).baud, .int .i64 (fineO a).silent, .int .i64 (fineO a).win, .int .i64 (fineO a).size, .int .i64 (fineO a).wait]] = (.tup [.agg [.int .i64 (dealL (fineO b) (fineO a)).baud, .int .i64 200, .int .i64 (dealL (fineO b) (fineO a)).win, .int .i64 (dealL (fineO b) (fineO a)).size, .int .i64 1], .bool true])) (
.ob (True) (
.ob (dPut [.agg [.int .u32 2, .int .u32 1, .int .i64 0, .int .i64 1, .int .i64 (fineO b).baud, .int .i64 (fineO b).silent, .int .i64 (fineO b).win, .int .i64 (fineO b).size, .int .i64 (fineO b).wait]]) (
.ob (9 = 9 ∧ 0 ≤ (0 : Int) ∧ (0 : Int) < ((1 : Nat) : Int)) (
.ob (True) (
.leaf (.bool true))))))))))))))))))))))))))))))))))))))))))))))))))))))))))))))))))))))))))
set_option maxRecDepth 1000000 in
theorem treeLinkAgain1_2_eq (a : Gw.Offer) (b : Gw.Offer) (n : Int) : funT (mkXT (noPX) (oxLinkAgain1_2 a b n)) (mkXP (noPX)) (mkX (noPX) (oxLinkAgain1_2 a b n)) D (fun g => match g with | 113 => (fun k => match k with | 38 => some fun t h => (match h.n with | 85 => (.int .i64 25, h) | 104 => (.int .i64 25, h) | 249 => (.int .i64 25, h) | 268 => (.int .i64 25, h) | 374 => (.int .i64 25, h) | _ => (.int .i64 25, h)) | _ => none) | 77 => (fun k => match k with | 52 => some fun t h => (match h.n with | 120 => (.bool false, h) | 284 => (.bool false, h) | _ => (.bool false, h)) | _ => none) | _ => noOrc) (fun k => match k with | 9 => [22, 46, 55, 58, 68, 73, 78, 89, 96, 100, 104, 106, 110, 116] | 22 => [10, 15, 20, 25, 30, 31, 37, 41, 50, 57] | 26 => [15, 22, 31, 52, 58, 74, 80] | 35 => [8, 11, 15, 19, 23] | 39 => [16, 25, 30, 36, 39, 57, 67, 82, 86, 99] | 56 => [10, 33, 40, 44, 49] | 60 => [8, 25, 32] | 62 => [28, 30] | 63 => [9] | 77 => [8, 15, 26, 37, 41, 46, 52] | 82 => [13, 26, 34, 39, 47] | 107 => [10] | 113 => [11, 16, 20, 25, 30, 34, 39] | 114 => [8, 14, 19, 24, 34, 44] | 146 => [6, 9, 20] | 165 => [8, 19, 30, 34, 38] | 166 => [8, 13, 18, 21] | _ => []) 12 (fun k => match k with | 28 => some fun t h => (.int .i64 2, h) | _ => none) [22, 46, 55, 58, 68, 73, 78, 89, 96, 100, 104, 106, 110, 116] (noLt) (dOf 9) [.agg a.vs, .agg b.vs, .int .i64 n] (tabH kT0 kT1 kT2 3) (fun v _ => v) = treeLinkAgain1_2 a b n := by kernel_rfl
theorem satLinkAgain1_2 (a : Gw.Offer) (b : Gw.Offer) (n : Int) (hn : (n.tmod 4 + 4).tmod 4 = 2) (hwa : loL (fineO a).wait = 1) : (treeLinkAgain1_2 a b n).sat fun v => v = .bool true :=
 sat_ob (by decide) (
sat_ob (rem2 hn) (
sat_ob trivial (
sat_ob (by simp only [V.beq_refl, Bool.and_true]) (
sat_ob trivial (
sat_ob (pMay_fine a) (
sat_ob (by simp only [V.beq_refl, Bool.and_true]) (
sat_ob trivial (
sat_ob trivial (
sat_ob (pMay_fine b) (
sat_ob trivial (
sat_ob (by decide) (
sat_ob (by simp only [V.beq_refl, Bool.and_true]) (
sat_ob (by simp only [V.beq_refl, Bool.and_true]) (
sat_ob (okSet 1 2 0 1 a (by decide) (by decide) (by decide) (by decide)) (
sat_ob (by decide) (
sat_ob rfl (
sat_ob rfl (
sat_ob (by simp only [V.beq_refl, Bool.and_true]) (
sat_ob (by simp only [V.beq_refl, Bool.and_true]) (
sat_ob (by simp only [V.beq_refl, Bool.and_true]) (
sat_ob (by simp [eqV, eqCells]) (
sat_ob (by simp only [V.beq_refl, Bool.and_true]) (
sat_ob trivial (
sat_ob ⟨⟨1, 2, 0, 1, (fineO a)⟩, (okSet 1 2 0 1 a (by decide) (by decide) (by decide) (by decide)), rfl⟩ (
sat_ob (get_put ⟨1, 2, 0, 1, (fineO a)⟩ (okSet 1 2 0 1 a (by decide) (by decide) (by decide) (by decide))) (
sat_ob ⟨mayO_fine b, mayO_fine a⟩ (
sat_ob (by show V.tup [.agg [.int .i64 _, .int .i64 _, .int .i64 _, .int .i64 _, .int .i64 (loL (fineO a).wait)], .bool true] = _; rw [hwa]; rfl) (
sat_ob (by simp only [V.beq_refl, Bool.and_true]) (
sat_ob (by simp only [V.beq_refl, Bool.and_true]) (
sat_ob (by simp only [V.beq_refl, Bool.and_true]) (
sat_ob (by simp only [V.beq_refl, Bool.and_true]) (
sat_ob (by simp only [V.beq_refl, Bool.and_true]) (
sat_ob (by simp only [V.beq_refl, Bool.and_true]) (
sat_ob (by simp only [V.beq_refl, Bool.and_true]) (
sat_ob (by simp only [V.beq_refl, Bool.and_true]) (
sat_ob (by simp only [V.beq_refl, Bool.and_true]) (
sat_ob (okSet 2 1 0 1 b (by decide) (by decide) (by decide) (by decide)) (
sat_ob (by decide) (
sat_ob (by decide) (
sat_ob (by decide) (
sat_ob rfl (
sat_ob rfl (
sat_ob (by simp only [V.beq_refl, Bool.and_true]) (
sat_ob (by simp only [V.beq_refl, Bool.and_true]) (
sat_ob (by simp only [V.beq_refl, Bool.and_true]) (
sat_ob (by simp [eqV, eqCells]) (
sat_ob (by simp only [V.beq_refl, Bool.and_true]) (
sat_ob trivial (
sat_ob ⟨⟨1, 2, 0, 1, (fineO a)⟩, (okSet 1 2 0 1 a (by decide) (by decide) (by decide) (by decide)), rfl⟩ (
sat_ob (get_put ⟨1, 2, 0, 1, (fineO a)⟩ (okSet 1 2 0 1 a (by decide) (by decide) (by decide) (by decide))) (
sat_ob ⟨mayO_fine b, mayO_fine a⟩ (
sat_ob (by show V.tup [.agg [.int .i64 _, .int .i64 _, .int .i64 _, .int .i64 _, .int .i64 (loL (fineO a).wait)], .bool true] = _; rw [hwa]; rfl) (
sat_ob trivial (
sat_ob (okSet 2 1 0 1 b (by decide) (by decide) (by decide) (by decide)) (
sat_ob (by decide) (
sat_ob (by decide) (
sat_ob rfl (
sat_ob rfl (
sat_ob (by simp only [V.beq_refl, Bool.and_true]) (
sat_ob (by simp only [V.beq_refl, Bool.and_true]) (
sat_ob (by simp only [V.beq_refl, Bool.and_true]) (
sat_ob (by simp [eqV, eqCells]) (
sat_ob (by simp only [V.beq_refl, Bool.and_true]) (
sat_ob trivial (
sat_ob ⟨⟨1, 2, 0, 1, (fineO a)⟩, (okSet 1 2 0 1 a (by decide) (by decide) (by decide) (by decide)), rfl⟩ (
sat_ob (get_put ⟨1, 2, 0, 1, (fineO a)⟩ (okSet 1 2 0 1 a (by decide) (by decide) (by decide) (by decide))) (
sat_ob ⟨mayO_fine b, mayO_fine a⟩ (
sat_ob (by show V.tup [.agg [.int .i64 _, .int .i64 _, .int .i64 _, .int .i64 _, .int .i64 (loL (fineO a).wait)], .bool true] = _; rw [hwa]; rfl) (
sat_ob trivial (
sat_ob (okSet 2 1 0 1 b (by decide) (by decide) (by decide) (by decide)) (
sat_ob (by decide) (
sat_ob trivial (
sat_leaf (rfl))))))))))))))))))))))))))))))))))))))))))))))))))))))))))))))))))))))))))
theorem runLinkAgain1_2 (a : Gw.Offer) (b : Gw.Offer) (n : Int) (hn : (n.tmod 4 + 4).tmod 4 = 2) (hwa : loL (fineO a).wait = 1) : Run Tryz.prog 9 [.agg a.vs, .agg b.vs, .int .i64 n] (tabH kT0 kT1 kT2 3) fun v _ => v = .bool true := run_plainU mixed (show TabX Tryz.prog noPX (oxLinkAgain1_2 a b n) from ((((((TabX.nil.addO ans_begun).addT (ans_fine noV)).addT (ans_may (fun n => match n with | 8 => some (.bool true) | 16 => some (.bool true) | _ => none))).addT (ans_deal (fun n => match n with | 143 => some (.tup [.agg [.int .i64 (dealL (fineO b) (fineO a)).baud, .int .i64 200, .int .i64 (dealL (fineO b) (fineO a)).win, .int .i64 (dealL (fineO b) (fineO a)).size, .int .i64 1], .bool true]) | 307 => some (.tup [.agg [.int .i64 (dealL (fineO b) (fineO a)).baud, .int .i64 200, .int .i64 (dealL (fineO b) (fineO a)).win, .int .i64 (dealL (fineO b) (fineO a)).size, .int .i64 1], .bool true]) | 432 => some (.tup [.agg [.int .i64 (dealL (fineO b) (fineO a)).baud, .int .i64 200, .int .i64 (dealL (fineO b) (fineO a)).win, .int .i64 (dealL (fineO b) (fineO a)).size, .int .i64 1], .bool true]) | _ => none))).addT (ans_put noV)).addT (ans_get (fun n => match n with | 130 => some (.tup [.agg [.int .u32 1, .int .u32 2, .int .i64 0, .int .i64 1, .int .i64 (fineO a).baud, .int .i64 (fineO a).silent, .int .i64 (fineO a).win, .int .i64 (fineO a).size, .int .i64 (fineO a).wait], .bool true]) | 294 => some (.tup [.agg [.int .u32 1, .int .u32 2, .int .i64 0, .int .i64 1, .int .i64 (fineO a).baud, .int .i64 (fineO a).silent, .int .i64 (fineO a).win, .int .i64 (fineO a).size, .int .i64 (fineO a).wait], .bool true]) | 419 => some (.tup [.agg [.int .u32 1, .int .u32 2, .int .i64 0, .int .i64 1, .int .i64 (fineO a).baud, .int .i64 (fineO a).silent, .int .i64 (fineO a).win, .int .i64 (fineO a).size, .int .i64 (fineO a).wait], .bool true]) | _ => none)))) tabD (dIs (by kernel_rfl)) (treeLinkAgain1_2_eq a b n) (satLinkAgain1_2 a b n hn hwa)
def oxLinkAgain1_3 (a : Gw.Offer) (b : Gw.Offer) (n : Int) : OTab := (consT 79 (gD dGet pGet (fun n => match n with | 130 => some (.tup [.agg [.int .u32 1, .int .u32 2, .int .i64 0, .int .i64 1, .int .i64 (fineO a).baud, .int .i64 (fineO a).silent, .int .i64 (fineO a).win, .int .i64 (fineO a).size, .int .i64 (fineO a).wait], .bool true]) | 294 => some (.tup [.agg [.int .u32 1, .int .u32 2, .int .i64 0, .int .i64 1, .int .i64 (fineO a).baud, .int .i64 (fineO a).silent, .int .i64 (fineO a).win, .int .i64 (fineO a).size, .int .i64 (fineO a).wait], .bool true]) | 419 => some (.tup [.agg [.int .u32 1, .int .u32 2, .int .i64 0, .int .i64 1, .int .i64 (fineO a).baud, .int .i64 (fineO a).silent, .int .i64 (fineO a).win, .int .i64 (fineO a).size, .int .i64 (fineO a).wait], .bool true]) | 544 => some (.tup [.agg [.int .u32 1, .int .u32 2, .int .i64 0, .int .i64 1, .int .i64 (fineO a).baud, .int .i64 (fineO a).silent, .int .i64 (fineO a).win, .int .i64 (fineO a).size, .int .i64 (fineO a).wait], .bool true]) | _ => none)) (consT 106 (gD dPut pPut noV) (consT 80 (gDT kT0 kT1 kT2 dDeal pDeal (fun n => match n with | 143 => some (.tup [.agg [.int .i64 (dealL (fineO b) (fineO a)).baud, .int .i64 200, .int .i64 (dealL (fineO b) (fineO a)).win, .int .i64 (dealL (fineO b) (fineO a)).size, .int .i64 1], .bool true]) | 307 => some (.tup [.agg [.int .i64 (dealL (fineO b) (fineO a)).baud, .int .i64 200, .int .i64 (dealL (fineO b) (fineO a)).win, .int .i64 (dealL (fineO b) (fineO a)).size, .int .i64 1], .bool true]) | 432 => some (.tup [.agg [.int .i64 (dealL (fineO b) (fineO a)).baud, .int .i64 200, .int .i64 (dealL (fineO b) (fineO a)).win, .int .i64 (dealL (fineO b) (fineO a)).size, .int .i64 1], .bool true]) | 557 => some (.tup [.agg [.int .i64 (dealL (fineO b) (fineO a)).baud, .int .i64 200, .int .i64 (dealL (fineO b) (fineO a)).win, .int .i64 (dealL (fineO b) (fineO a)).size, .int .i64 1], .bool true]) | _ => none)) (consT 76 (gD dOff pMayQ (fun n => match n with | 8 => some (.bool true) | 16 => some (.bool true) | _ => none)) (consT 20 (gD dOff pFine noV) (consO 19 (gTrue kT0 kT1 kT2) noOX))))))
def treeLinkAgain1_3 (a : Gw.Offer) (b : Gw.Offer) (n : Int) : DT V :=
  .ob (IntKind.i64 = IntKind.i64 ∧ (4 : Int) ≠ 0) (
.ob (binV .rem (.int .i64 (wrapK .i64 (((n : Int).tmod 4) + 4))) (.int .i64 4) = some (.int .i64 3)) (
.ob (dOff [.agg [.int .i64 a.baud, .int .i64 a.silent, .int .i64 a.win, .int .i64 a.size, .int .i64 a.wait]]) (
.ob (((V.beq (.agg [.int .i64 b.baud, .int .i64 b.silent, .int .i64 b.win, .int .i64 b.size, .int .i64 b.wait]) (.agg [.int .i64 b.baud, .int .i64 b.silent, .int .i64 b.win, .int .i64 b.size, .int .i64 b.wait])) && true) = true) (
.ob (dOff [.agg [.int .i64 (fineO a).baud, .int .i64 (fineO a).silent, .int .i64 (fineO a).win, .int .i64 (fineO a).size, .int .i64 (fineO a).wait]]) (
.ob (pMayQ [.agg [.int .i64 (fineO a).baud, .int .i64 (fineO a).silent, .int .i64 (fineO a).win, .int .i64 (fineO a).size, .int .i64 (fineO a).wait]] = (.bool true)) (
.ob (((V.beq (.agg [.int .i64 b.baud, .int .i64 b.silent, .int .i64 b.win, .int .i64 b.size, .int .i64 b.wait]) (.agg [.int .i64 b.baud, .int .i64 b.silent, .int .i64 b.win, .int .i64 b.size, .int .i64 b.wait])) && true) = true) (
.ob (dOff [.agg [.int .i64 b.baud, .int .i64 b.silent, .int .i64 b.win, .int .i64 b.size, .int .i64 b.wait]]) (
.ob (dOff [.agg [.int .i64 (fineO b).baud, .int .i64 (fineO b).silent, .int .i64 (fineO b).win, .int .i64 (fineO b).size, .int .i64 (fineO b).wait]]) (
.ob (pMayQ [.agg [.int .i64 (fineO b).baud, .int .i64 (fineO b).silent, .int .i64 (fineO b).win, .int .i64 (fineO b).size, .int .i64 (fineO b).wait]] = (.bool true)) (
.ob (True) (
.ob (IntKind.i64 = IntKind.i64 ∧ (250 : Int) ≠ 0) (
.ob (((V.beq (.int .u32 2) (.int .u32 2)) && true) = true) (
.ob (((V.beq (.int .u32 2) (.int .u32 2)) && true) = true) (
.ob (dPut [.agg [.int .u32 1, .int .u32 2, .int .i64 0, .int .i64 1, .int .i64 (fineO a).baud, .int .i64 (fineO a).silent, .int .i64 (fineO a).win, .int .i64 (fineO a).size, .int .i64 (fineO a).wait]]) (
.ob (9 = 9 ∧ 0 ≤ (0 : Int) ∧ (0 : Int) < ((1 : Nat) : Int)) (
.ob (Gw.lenStr (.str (setupStr ⟨1, 2, 0, 1, (fineO a)⟩)) = some (.int .i64 25)) (
.ob (Gw.lenStr (.str (setupStr ⟨1, 2, 0, 1, (fineO a)⟩)) = some (.int .i64 25)) (
.ob (((V.beq (.str (setupStr ⟨1, 2, 0, 1, (fineO a)⟩)) (.str (setupStr ⟨1, 2, 0, 1, (fineO a)⟩))) && ((V.beq (.bool true) (.bool true)) && ((V.beq (.agg [.int .i64 127, .int .i64 255]) (.agg [.int .i64 127, .int .i64 255])) && true))) = true) (
.ob (((V.beq (.int .i64 2) (.int .i64 2)) && true) = true) (
.ob (((V.beq (.agg [.int .i64 127, .int .i64 255, .bool true, .int .i64 3, .int .i64 2, .int .i64 0, .int .i64 0, .bool true, .str (setupStr ⟨1, 2, 0, 1, (fineO a)⟩)]) (.agg [.int .i64 127, .int .i64 255, .bool true, .int .i64 3, .int .i64 2, .int .i64 0, .int .i64 0, .bool true, .str (setupStr ⟨1, 2, 0, 1, (fineO a)⟩)])) && true) = true) (
.ob (((eqV (.agg [.i, .i, .b, .i, .i, .i, .i, .b, .s]) (.agg [.int .i64 127, .int .i64 255, .bool true, .int .i64 3, .int .i64 2, .int .i64 0, .int .i64 0, .bool true, .str (setupStr ⟨1, 2, 0, 1, (fineO a)⟩)]) (.agg [.int .i64 127, .int .i64 255, .bool true, .int .i64 3, .int .i64 2, .int .i64 0, .int .i64 0, .bool true, .str (setupStr ⟨1, 2, 0, 1, (fineO a)⟩)])).map fun b => V.bool (if true then !b else b)) = some (.bool false)) (
.ob (((V.beq (.agg [.int .i64 127, .int .i64 255]) (.agg [.int .i64 127, .int .i64 255])) && true) = true) (
.ob (True) (
.ob (dGet [.str (setupStr ⟨1, 2, 0, 1, (fineO a)⟩)]) (
.ob (pGet [.str (setupStr ⟨1, 2, 0, 1, (fineO a)⟩)] = (.tup [.agg [.int .u32 1, .int .u32 2, .int .i64 0, .int .i64 1, .int .i64 (fineO a).baud, .int .i64 (fineO a).silent, .int .i64 (fineO a).win, .int .i64 (fineO a).size, .int .i64 (fineO a).wait], .bool true])) (
.ob (dDeal [.agg [.int .i64 (fineO b).baud, .int .i64 (fineO b).silent, .int .i64 (fineO b).win, .int .i64 (fineO b).size, .int .i64 (fineO b).wait], .agg [.int .i64 (fineO a).baud, .int .i64 (fineO a).silent, .int .i64 (fineO a).win, .int .i64 (fineO a).size, .int .i64 (fineO a).wait]]) (
.ob (pDeal [.agg [.int .i64 (fineO b).baud, .int .i64 (fineO b).silent, .int .i64 (fineO b).win, .int .i64 (fineO b).size, .int .i64 (fineO b).wait], .agg [.int .i64 (fineO a).baud, .int .i64 (fineO a).silent, .int .i64 (fineO a).win, .int .i64 (fineO a).size, .int .i64 (fineO a).wait]] = (.tup [.agg [.int .i64 (dealL (fineO b) (fineO a)).baud, .int .i64 200, .int .i64 (dealL (fineO b) (fineO a)).win, .int .i64 (dealL (fineO b) (fineO a)).size, .int .i64 1], .bool true])) (
.ob (((V.beq (.int .i64 (dealL (fineO b) (fineO a)).size) (.int .i64 (dealL (fineO b) (fineO a)).size)) && true) = true) (
.ob (((V.beq (.int .i64 (dealL (fineO b) (fineO a)).size) (.int .i64 (dealL (fineO b) (fineO a)).size)) && true) = true) (
.ob (((V.beq (.agg [.int .i64 (dealL (fineO b) (fineO a)).baud, .int .i64 200, .int .i64 (dealL (fineO b) (fineO a)).win, .int .i64 (dealL (fineO b) (fineO a)).size, .int .i64 1]) (.agg [.int .i64 (dealL (fineO b) (fineO a)).baud, .int .i64 200, .int .i64 (dealL (fineO b) (fineO a)).win, .int .i64 (dealL (fineO b) (fineO a)).size, .int .i64 1])) && ((V.beq (.agg [.int .i64 0, .int .i64 1]) (.agg [.int .i64 0, .int .i64 1])) && true)) = true) (
.ob (((V.beq (.agg [.int .i64 (dealL (fineO b) (fineO a)).baud, .int .i64 200, .int .i64 (dealL (fineO b) (fineO a)).win, .int .i64 (dealL (fineO b) (fineO a)).size, .int .i64 1]) (.agg [.int .i64 (dealL (fineO b) (fineO a)).baud, .int .i64 200, .int .i64 (dealL (fineO b) (fineO a)).win, .int .i64 (dealL (fineO b) (fineO a)).size, .int .i64 1])) && ((V.beq (.agg [.int .i64 0, .int .i64 1]) (.agg [.int .i64 0, .int .i64 1])) && true)) = true) (
.ob (((V.beq (.agg [.int .i64 (dealL (fineO b) (fineO a)).baud, .int .i64 200, .int .i64 (dealL (fineO b) (fineO a)).win, .int .i64 (dealL (fineO b) (fineO a)).size, .int .i64 1]) (.agg [.int .i64 (dealL (fineO b) (fineO a)).baud, .int .i64 200, .int .i64 (dealL (fineO b) (fineO a)).win, .int .i64 (dealL (fineO b) (fineO a)).size, .int .i64 1])) && ((V.beq (.agg [.int .i64 0, .int .i64 1]) (.agg [.int .i64 0, .int .i64 1])) && true)) = true) (
.ob (((V.beq (.agg [.int .i64 (dealL (fineO b) (fineO a)).baud, .int .i64 200, .int .i64 (dealL (fineO b) (fineO a)).win, .int .i64 (dealL (fineO b) (fineO a)).size, .int .i64 1]) (.agg [.int .i64 (dealL (fineO b) (fineO a)).baud, .int .i64 200, .int .i64 (dealL (fineO b) (fineO a)).win, .int .i64 (dealL (fineO b) (fineO a)).size, .int .i64 1])) && true) = true) (
.ob (((V.beq (.int .i64 1) (.int .i64 1)) && true) = true) (
.ob (((V.beq (.int .i64 1) (.int .i64 1)) && true) = true) (
.ob (((V.beq (.int .i64 1) (.int .i64 1)) && true) = true) (
.ob (dPut [.agg [.int .u32 2, .int .u32 1, .int .i64 0, .int .i64 1, .int .i64 (fineO b).baud, .int .i64 (fineO b).silent, .int .i64 (fineO b).win, .int .i64 (fineO b).size, .int .i64 (fineO b).wait]]) (
.ob (4 = 4 ∧ 0 ≤ (0 : Int) ∧ (0 : Int) < ((1 : Nat) : Int)) (
.ob (9 = 9 ∧ 0 ≤ (0 : Int) ∧ (0 : Int) < ((1 : Nat) : Int)) (
.ob (9 = 9 ∧ 0 ≤ (0 : Int) ∧ (0 : Int) < ((1 : Nat) : Int)) (
.ob (Gw.lenStr (.str (setupStr ⟨1, 2, 0, 1, (fineO a)⟩)) = some (.int .i64 25)) (
.ob (Gw.lenStr (.str (setupStr ⟨1, 2, 0, 1, (fineO a)⟩)) = some (.int .i64 25)) (
.ob (((V.beq (.str (setupStr ⟨1, 2, 0, 1, (fineO a)⟩)) (.str (setupStr ⟨1, 2, 0, 1, (fineO a)⟩))) && ((V.beq (.bool true) (.bool true)) && ((V.beq (.agg [.int .i64 127, .int .i64 255]) (.agg [.int .i64 127, .int .i64 255])) && true))) = true) (
.ob (((V.beq (.int .i64 2) (.int .i64 2)) && true) = true) (
.ob (((V.beq (.agg [.int .i64 127, .int .i64 255, .bool true, .int .i64 3, .int .i64 2, .int .i64 0, .int .i64 0, .bool true, .str (setupStr ⟨1, 2, 0, 1, (fineO a)⟩)]) (.agg [.int .i64 127, .int .i64 255, .bool true, .int .i64 3, .int .i64 2, .int .i64 0, .int .i64 0, .bool true, .str (setupStr ⟨1, 2, 0, 1, (fineO a)⟩)])) && true) = true) (
.ob (((eqV (.agg [.i, .i, .b, .i, .i, .i, .i, .b, .s]) (.agg [.int .i64 127, .int .i64 255, .bool true, .int .i64 3, .int .i64 2, .int .i64 0, .int .i64 0, .bool true, .str (setupStr ⟨1, 2, 0, 1, (fineO a)⟩)]) (.agg [.int .i64 127, .int .i64 255, .bool true, .int .i64 3, .int .i64 2, .int .i64 0, .int .i64 0, .bool true, .str (setupStr ⟨1, 2, 0, 1, (fineO a)⟩)])).map fun b => V.bool (if true then !b else b)) = some (.bool false)) (
.ob (((V.beq (.agg [.int .i64 127, .int .i64 255]) (.agg [.int .i64 127, .int .i64 255])) && true) = true) (
.ob (True) (
.ob (dGet [.str (setupStr ⟨1, 2, 0, 1, (fineO a)⟩)]) (
.ob (pGet [.str (setupStr ⟨1, 2, 0, 1, (fineO a)⟩)] = (.tup [.agg [.int .u32 1, .int .u32 2, .int .i64 0, .int .i64 1, .int .i64 (fineO a).baud, .int .i64 (fineO a).silent, .int .i64 (fineO a).win, .int .i64 (fineO a).size, .int .i64 (fineO a).wait], .bool true])) (
.ob (dDeal [.agg [.int .i64 (fineO b).baud, .int .i64 (fineO b).silent, .int .i64 (fineO b).win, .int .i64 (fineO b).size, .int .i64 (fineO b).wait], .agg [.int .i64 (fineO a).baud, .int .i64 (fineO a).silent, .int .i64 (fineO a).win, .int .i64 (fineO a).size, .int .i64 (fineO a).wait]]) (
.ob (pDeal [.agg [.int .i64 (fineO b).baud, .int .i64 (fineO b).silent, .int .i64 (fineO b).win, .int .i64 (fineO b).size, .int .i64 (fineO b).wait], .agg [.int .i64 (fineO a).baud, .int .i64 (fineO a).silent, .int .i64 (fineO a).win, .int .i64 (fineO a).size, .int .i64 (fineO a).wait]] = (.tup [.agg [.int .i64 (dealL (fineO b) (fineO a)).baud, .int .i64 200, .int .i64 (dealL (fineO b) (fineO a)).win, .int .i64 (dealL (fineO b) (fineO a)).size, .int .i64 1], .bool true])) (
.ob (True) (
.ob (dPut [.agg [.int .u32 2, .int .u32 1, .int .i64 0, .int .i64 1, .int .i64 (fineO b).baud, .int .i64 (fineO b).silent, .int .i64 (fineO b).win, .int .i64 (fineO b).size, .int .i64 (fineO b).wait]]) (
.ob (9 = 9 ∧ 0 ≤ (0 : Int) ∧ (0 : Int) < ((1 : Nat) : Int)) (
.ob (9 = 9 ∧ 0 ≤ (0 : Int) ∧ (0 : Int) < ((1 : Nat) : Int)) (
.ob (Gw.lenStr (.str (setupStr ⟨1, 2, 0, 1, (fineO a)⟩)) = some (.int .i64 25)) (
.ob (Gw.lenStr (.str (setupStr ⟨1, 2, 0, 1, (fineO a)⟩)) = some (.int .i64 25)) (
.ob (((V.beq (.str (setupStr ⟨1, 2, 0, 1, (fineO a)⟩)) (.str (setupStr ⟨1, 2, 0, 1, (fineO a)⟩))) && ((V.beq (.bool true) (.bool true)) && ((V.beq (.agg [.int .i64 127, .int .i64 255]) (.agg [.int .i64 127, .int .i64 255])) && true))) = true) (
.ob (((V.beq (.int .i64 2) (.int .i64 2)) && true) = true) (
.ob (((V.beq (.agg [.int .i64 127, .int .i64 255, .bool true, .int .i64 3, .int .i64 2, .int .i64 0, .int .i64 0, .bool true, .str (setupStr ⟨1, 2, 0, 1, (fineO a)⟩)]) (.agg [.int .i64 127, .int .i64 255, .bool true, .int .i64 3, .int .i64 2, .int .i64 0, .int .i64 0, .bool true, .str (setupStr ⟨1, 2, 0, 1, (fineO a)⟩)])) && true) = true) (
.ob (((eqV (.agg [.i, .i, .b, .i, .i, .i, .i, .b, .s]) (.agg [.int .i64 127, .int .i64 255, .bool true, .int .i64 3, .int .i64 2, .int .i64 0, .int .i64 0, .bool true, .str (setupStr ⟨1, 2, 0, 1, (fineO a)⟩)]) (.agg [.int .i64 127, .int .i64 255, .bool true, .int .i64 3, .int .i64 2, .int .i64 0, .int .i64 0, .bool true, .str (setupStr ⟨1, 2, 0, 1, (fineO a)⟩)])).map fun b => V.bool (if true then !b else b)) = some (.bool false)) (
.ob (((V.beq (.agg [.int .i64 127, .int .i64 255]) (.agg [.int .i64 127, .int .i64 255])) && true) = true) (
.ob (True) (
.ob (dGet [.str (setupStr ⟨1, 2, 0, 1, (fineO a)⟩)]) (
.ob (pGet [.str (setupStr ⟨1, 2, 0, 1, (fineO a)⟩)] = (.tup [.agg [.int .u32 1, .int .u32 2, .int .i64 0, .int .i64 1, .int .i64 (fineO a).baud, .int .i64 (fineO a).silent, .int .i64 (fineO a).win, .int .i64 (fineO a).size, .int .i64 (fineO a).wait], .bool true])) (
.ob (dDeal [.agg [.int .i64 (fineO b).baud, .int .i64 (fineO b).silent, .int .i64 (fineO b).win, .int .i64 (fineO b).size, .int .i64 (fineO b).wait], .agg [.int .i64 (fineO a).baud, .int .i64 (fineO a).silent, .int .i64 (fineO a).win, .int .i64 (fineO a).size, .int .i64 (fineO a).wait]]) (
.ob (pDeal [.agg [.int .i64 (fineO b).baud, .int .i64 (fineO b).silent, .int .i64 (fineO b).win, .int .i64 (fineO b).size, .int .i64 (fineO b).wait], .agg [.int .i64 (fineO a).baud, .int .i64 (fineO a).silent, .int .i64 (fineO a).win, .int .i64 (fineO a).size, .int .i64 (fineO a).wait]] = (.tup [.agg [.int .i64 (dealL (fineO b) (fineO a)).baud, .int .i64 200, .int .i64 (dealL (fineO b) (fineO a)).win, .int .i64 (dealL (fineO b) (fineO a)).size, .int .i64 1], .bool true])) (
.ob (True) (
.ob (dPut [.agg [.int .u32 2, .int .u32 1, .int .i64 0, .int .i64 1, .int .i64 (fineO b).baud, .int .i64 (fineO b).silent, .int .i64 (fineO b).win, .int .i64 (fineO b).size, .int .i64 (fineO b).wait]]) (
.ob (9 = 9 ∧ 0 ≤ (0 : Int) ∧ (0 : Int) < ((1 : Nat) : Int)) (
.ob (9 = 9 ∧ 0 ≤ (0 : Int) ∧ (0 : Int) < ((1 : Nat) : Int)) (
.ob (Gw.lenStr (.str (setupStr ⟨1, 2, 0, 1, (fineO a)⟩)) = some (.int .i64 25)) (
.ob (Gw.lenStr (.str (setupStr ⟨1, 2, 0, 1, (fineO a)⟩)) = some (.int .i64 25)) (
.ob (((V.beq (.str (setupStr ⟨1, 2, 0, 1, (fineO a)⟩)) (.str (setupStr ⟨1, 2, 0, 1, (fineO a)⟩))) && ((V.beq (.bool true) (.bool true)) && ((V.beq (.agg [.int .i64 127, .int .i64 255]) (.agg [.int .i64 127, .int .i64 255])) && true))) = true) (
.ob (((V.beq (.int .i64 2) (.int .i64 2)) && true) = true) (
.ob (((V.beq (.agg [.int .i64 127, .int .i64 255, .bool true, .int .i64 3, .int .i64 2, .int .i64 0, .int .i64 0, .bool true, .str (setupStr ⟨1, 2, 0, 1, (fineO a)⟩)]) (.agg [.int .i64 127, .int .i64 255, .bool true, .int .i64 3, .int .i64 2, .int .i64 0, .int .i64 0, .bool true, .str (setupStr ⟨1, 2, 0, 1, (fineO a)⟩)])) && true) = true) (
.ob (((eqV (.agg [.i, .i, .b, .i, .i, .i, .i, .b, .s]) (.agg [.int .i64 127, .int .i64 255, .bool true, .int .i64 3, .int .i64 2, .int .i64 0, .int .i64 0, .bool true, .str (setupStr ⟨1, 2, 0, 1, (fineO a)⟩)]) (.agg [.int .i64 127, .int .i64 255, .bool true, .int .i64 3, .int .i64 2, .int .i64 0, .int .i64 0, .bool true, .str (setupStr ⟨1, 2, 0, 1, (fineO a)⟩)])).map fun b => V.bool (if true then !b else b)) = some (.bool false)) (
.ob (((V.beq (.agg [.int .i64 127, .int .i64 255]) (.agg [.int .i64 127, .int .i64 255])) && true) = true) (
.ob (True) (
.ob (dGet [.str (setupStr ⟨1, 2, 0, 1, (fineO a)⟩)]) (
.ob (pGet [.str (setupStr ⟨1, 2, 0, 1, (fineO a)⟩)] = (.tup [.agg [.int .u32 1, .int .u32 2, .int .i64 0, .int .i64 1, .int .i64 (fineO a).baud, .int .i64 (fineO a).silent, .int .i64 (fineO a).win, .int .i64 (fineO a).size, .int .i64 (fineO a).wait], .bool true])) (
.ob (dDeal [.agg [.int .i64 (fineO b).baud, .int .i64 (fineO b).silent, .int .i64 (fineO b).win, .int .i64 (fineO b).size, .int .i64 (fineO b).wait], .agg [.int .i64 (fineO a).baud, .int .i64 (fineO a).silent, .int .i64 (fineO a).win, .int .i64 (fineO a).size, .int .i64 (fineO a).wait]]) (
.ob (pDeal [.agg [.int .i64 (fineO b).baud, .int .i64 (fineO b).silent, .int .i64 (fineO b).win, .int .i64 (fineO b).size, .int .i64 (fineO b).wait], .agg [.int .i64 (fineO a).baud, .int .i64 (fineO a).silent, .int .i64 (fineO a).win, .int .i64 (fineO a).size, .int .i64 (fineO a).wait]] = (.tup [.agg [.int .i64 (dealL (fineO b) (fineO a)).baud, .int .i64 200, .int .i64 (dealL (fineO b) (fineO a)).win, .int .i64 (dealL (fineO b) (fineO a)).size, .int .i64 1], .bool true])) (
.ob (True) (
.ob (dPut [.agg [.int .u32 2, .int .u32 1, .int .i64 0, .int .i64 1, .int .i64 (fineO b).baud, .int .i64 (fineO b).silent, .int .i64 (fineO b).win, .int .i64 (fineO b).size, .int .i64 (fineO b).wait]]) (
.ob (9 = 9 ∧ 0 ≤ (0 : Int) ∧ (0 : Int) < ((1 : Nat) : Int)) (
.ob (True) (
.leaf (.bool true))))))))))))))))))))))))))))))))))))))))))))))))))))))))))))))))))))))))))))))))))))))))))
set_option maxRecDepth 1000000 in
theorem treeLinkAgain1_3_eq (a : Gw.Offer) (b : Gw.Offer) (n : Int) : funT (mkXT (noPX) (oxLinkAgain1_3 a b n)) (mkXP (noPX)) (mkX (noPX) (oxLinkAgain1_3 a b n)) D (fun g => match g with | 113 => (fun k => match k with | 38 => some fun t h => (match h.n with | 85 => (.int .i64 25, h) | 104 => (.int .i64 25, h) | 249 => (.int .i64 25, h) | 268 => (.int .i64 25, h) | 374 => (.int .i64 25, h) | 393 => (.int .i64 25, h) | 499 => (.int .i64 25, h) | _ => (.int .i64 25, h)) | _ => none) | 77 => (fun k => match k with | 52 => some fun t h => (match h.n with | 120 => (.bool false, h) | 284 => (.bool false, h) | 409 => (.bool false, h) | _ => (.bool false, h)) | _ => none) | _ => noOrc) (fun k => match k with | 9 => [22, 46, 55, 58, 68, 73, 78, 89, 96, 100, 104, 106, 110, 116] | 22 => [10, 15, 20, 25, 30, 31, 37, 41, 50, 57] | 26 => [15, 22, 31, 52, 58, 74, 80] | 35 => [8, 11, 15, 19, 23] | 39 => [16, 25, 30, 36, 39, 57, 67, 82, 86, 99] | 56 => [10, 33, 40, 44, 49] | 60 => [8, 25, 32] | 62 => [28, 30] | 63 => [9] | 77 => [8, 15, 26, 37, 41, 46, 52] | 82 => [13, 26, 34, 39, 47] | 107 => [10] | 113 => [11, 16, 20, 25, 30, 34, 39] | 114 => [8, 14, 19, 24, 34, 44] | 146 => [6, 9, 20] | 165 => [8, 19, 30, 34, 38] | 166 => [8, 13, 18, 21] | _ => []) 12 (fun k => match k with | 28 => some fun t h => (.int .i64 3, h) | _ => none) [22, 46, 55, 58, 68, 73, 78, 89, 96, 100, 104, 106, 110, 116] (noLt) (dOf 9) [.agg a.vs, .agg b.vs, .int .i64 n] (tabH kT0 kT1 kT2 3) (fun v _ => v) = treeLinkAgain1_3 a b n := by kernel_rfl
theorem satLinkAgain1_3 (a : Gw.Offer) (b : Gw.Offer) (n : Int) (hn : (n.tmod 4 + 4).tmod 4 = 3) (hwa : loL (fineO a).wait = 1) : (treeLinkAgain1_3 a b n).sat fun v => v = .bool true :=
 sat_ob (by decide) (
sat_ob (rem2 hn) (
sat_ob trivial (
sat_ob (by simp only [V.beq_refl, Bool.and_true]) (
sat_ob trivial (
sat_ob (pMay_fine a) (
sat_ob (by simp only [V.beq_refl, Bool.and_true]) (
sat_ob trivial (
sat_ob trivial (
sat_ob (pMay_fine b) (
sat_ob trivial (
sat_ob (by decide) (
sat_ob (by simp only [V.beq_refl, Bool.and_true]) (
sat_ob (by simp only [V.beq_refl, Bool.and_true]) (
sat_ob (okSet 1 2 0 1 a (by decide) (by decide) (by decide) (by decide)) (
sat_ob (by decide) (
sat_ob rfl (
sat_ob rfl (
sat_ob (by simp only [V.beq_refl, Bool.and_true]) (
sat_ob (by simp only [V.beq_refl, Bool.and_true]) (
sat_ob (by simp only [V.beq_refl, Bool.and_true]) (
sat_ob (by simp [eqV, eqCells]) (
sat_ob (by simp only [V.beq_refl, Bool.and_true]) (
sat_ob trivial (
sat_ob ⟨⟨1, 2, 0, 1, (fineO a)⟩, (okSet 1 2 0 1 a (by decide) (by decide) (by decide) (by decide)), rfl⟩ (
sat_ob (get_put ⟨1, 2, 0, 1, (fineO a)⟩ (okSet 1 2 0 1 a (by decide) (by decide) (by decide) (by decide))) (
sat_ob ⟨mayO_fine b, mayO_fine a⟩ (
sat_ob (by show V.tup [.agg [.int .i64 _, .int .i64 _, .int .i64 _, .int .i64 _, .int .i64 (loL (fineO a).wait)], .bool true] = _; rw [hwa]; rfl) (
sat_ob (by simp only [V.beq_refl, Bool.and_true]) (
sat_ob (by simp only [V.beq_refl, Bool.and_true]) (
sat_ob (by simp only [V.beq_refl, Bool.and_true]) (
sat_ob (by simp only [V.beq_refl, Bool.and_true]) (
sat_ob (by simp only [V.beq_refl, Bool.and_true]) (
sat_ob (by simp only [V.beq_refl, Bool.and_true]) (
sat_ob (by simp only [V.beq_refl, Bool.and_true]) (
sat_ob (by simp only [V.beq_refl, Bool.and_true]) (
sat_ob (by simp only [V.beq_refl, Bool.and_true]) (
sat_ob (okSet 2 1 0 1 b (by decide) (by decide) (by decide) (by decide)) (
sat_ob (by decide) (
sat_ob (by decide) (
sat_ob (by decide) (
sat_ob rfl (
sat_ob rfl (
sat_ob (by simp only [V.beq_refl, Bool.and_true]) (
sat_ob (by simp only [V.beq_refl, Bool.and_true]) (
sat_ob (by simp only [V.beq_refl, Bool.and_true]) (
sat_ob (by simp [eqV, eqCells]) (
sat_ob (by simp only [V.beq_refl, Bool.and_true]) (
sat_ob trivial (
sat_ob ⟨⟨1, 2, 0, 1, (fineO a)⟩, (okSet 1 2 0 1 a (by decide) (by decide) (by decide) (by decide)), rfl⟩ (
sat_ob (get_put ⟨1, 2, 0, 1, (fineO a)⟩ (okSet 1 2 0 1 a (by decide) (by decide) (by decide) (by decide))) (
sat_ob ⟨mayO_fine b, mayO_fine a⟩ (
sat_ob (by show V.tup [.agg [.int .i64 _, .int .i64 _, .int .i64 _, .int .i64 _, .int .i64 (loL (fineO a).wait)], .bool true] = _; rw [hwa]; rfl) (
sat_ob trivial (
sat_ob (okSet 2 1 0 1 b (by decide) (by decide) (by decide) (by decide)) (
sat_ob (by decide) (
sat_ob (by decide) (
sat_ob rfl (
sat_ob rfl (
sat_ob (by simp only [V.beq_refl, Bool.and_true]) (
sat_ob (by simp only [V.beq_refl, Bool.and_true]) (
sat_ob (by simp only [V.beq_refl, Bool.and_true]) (
sat_ob (by simp [eqV, eqCells]) (
sat_ob (by simp only [V.beq_refl, Bool.and_true]) (
sat_ob trivial (
sat_ob ⟨⟨1, 2, 0, 1, (fineO a)⟩, (okSet 1 2 0 1 a (by decide) (by decide) (by decide) (by decide)), rfl⟩ (
sat_ob (get_put ⟨1, 2, 0, 1, (fineO a)⟩ (okSet 1 2 0 1 a (by decide) (by decide) (by decide) (by decide))) (
sat_ob ⟨mayO_fine b, mayO_fine a⟩ (
sat_ob (by show V.tup [.agg [.int .i64 _, .int .i64 _, .int .i64 _, .int .i64 _, .int .i64 (loL (fineO a).wait)], .bool true] = _; rw [hwa]; rfl) (
sat_ob trivial (
sat_ob (okSet 2 1 0 1 b (by decide) (by decide) (by decide) (by decide)) (
sat_ob (by decide) (
sat_ob (by decide) (
sat_ob rfl (
sat_ob rfl (
sat_ob (by simp only [V.beq_refl, Bool.and_true]) (
sat_ob (by simp only [V.beq_refl, Bool.and_true]) (
sat_ob (by simp only [V.beq_refl, Bool.and_true]) (
sat_ob (by simp [eqV, eqCells]) (
sat_ob (by simp only [V.beq_refl, Bool.and_true]) (
sat_ob trivial (
sat_ob ⟨⟨1, 2, 0, 1, (fineO a)⟩, (okSet 1 2 0 1 a (by decide) (by decide) (by decide) (by decide)), rfl⟩ (
sat_ob (get_put ⟨1, 2, 0, 1, (fineO a)⟩ (okSet 1 2 0 1 a (by decide) (by decide) (by decide) (by decide))) (
sat_ob ⟨mayO_fine b, mayO_fine a⟩ (
sat_ob (by show V.tup [.agg [.int .i64 _, .int .i64 _, .int .i64 _, .int .i64 _, .int .i64 (loL (fineO a).wait)], .bool true] = _; rw [hwa]; rfl) (
sat_ob trivial (
sat_ob (okSet 2 1 0 1 b (by decide) (by decide) (by decide) (by decide)) (
sat_ob (by decide) (
sat_ob trivial (
sat_leaf (rfl))))))))))))))))))))))))))))))))))))))))))))))))))))))))))))))))))))))))))))))))))))))))))
theorem runLinkAgain1_3 (a : Gw.Offer) (b : Gw.Offer) (n : Int) (hn : (n.tmod 4 + 4).tmod 4 = 3) (hwa : loL (fineO a).wait = 1) : Run Tryz.prog 9 [.agg a.vs, .agg b.vs, .int .i64 n] (tabH kT0 kT1 kT2 3) fun v _ => v = .bool true := run_plainU mixed (show TabX Tryz.prog noPX (oxLinkAgain1_3 a b n) from ((((((TabX.nil.addO ans_begun).addT (ans_fine noV)).addT (ans_may (fun n => match n with | 8 => some (.bool true) | 16 => some (.bool true) | _ => none))).addT (ans_deal (fun n => match n with | 143 => some (.tup [.agg [.int .i64 (dealL (fineO b) (fineO a)).baud, .int .i64 200, .int .i64 (dealL (fineO b) (fineO a)).win, .int .i64 (dealL (fineO b) (fineO a)).size, .int .i64 1], .bool true]) | 307 => some (.tup [.agg [.int .i64 (dealL (fineO b) (fineO a)).baud, .int .i64 200, .int .i64 (dealL (fineO b) (fineO a)).win, .int .i64 (dealL (fineO b) (fineO a)).size, .int .i64 1], .bool true]) | 432 => some (.tup [.agg [.int .i64 (dealL (fineO b) (fineO a)).baud, .int .i64 200, .int .i64 (dealL (fineO b) (fineO a)).win, .int .i64 (dealL (fineO b) (fineO a)).size, .int .i64 1], .bool true]) | 557 => some (.tup [.agg [.int .i64 (dealL (fineO b) (fineO a)).baud, .int .i64 200, .int .i64 (dealL (fineO b) (fineO a)).win, .int .i64 (dealL (fineO b) (fineO a)).size, .int .i64 1], .bool true]) | _ => none))).addT (ans_put noV)).addT (ans_get (fun n => match n with | 130 => some (.tup [.agg [.int .u32 1, .int .u32 2, .int .i64 0, .int .i64 1, .int .i64 (fineO a).baud, .int .i64 (fineO a).silent, .int .i64 (fineO a).win, .int .i64 (fineO a).size, .int .i64 (fineO a).wait], .bool true]) | 294 => some (.tup [.agg [.int .u32 1, .int .u32 2, .int .i64 0, .int .i64 1, .int .i64 (fineO a).baud, .int .i64 (fineO a).silent, .int .i64 (fineO a).win, .int .i64 (fineO a).size, .int .i64 (fineO a).wait], .bool true]) | 419 => some (.tup [.agg [.int .u32 1, .int .u32 2, .int .i64 0, .int .i64 1, .int .i64 (fineO a).baud, .int .i64 (fineO a).silent, .int .i64 (fineO a).win, .int .i64 (fineO a).size, .int .i64 (fineO a).wait], .bool true]) | 544 => some (.tup [.agg [.int .u32 1, .int .u32 2, .int .i64 0, .int .i64 1, .int .i64 (fineO a).baud, .int .i64 (fineO a).silent, .int .i64 (fineO a).win, .int .i64 (fineO a).size, .int .i64 (fineO a).wait], .bool true]) | _ => none)))) tabD (dIs (by kernel_rfl)) (treeLinkAgain1_3_eq a b n) (satLinkAgain1_3 a b n hn hwa)
end Go.Proofs.YtbkgcdncdaeiaaaGreatDoor
