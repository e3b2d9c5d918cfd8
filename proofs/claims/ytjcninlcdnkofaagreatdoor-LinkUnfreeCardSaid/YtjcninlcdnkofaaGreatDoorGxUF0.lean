/- LinkUnfree: its trees, its loops. -/
import Derived.Test.YtjcninlcdnkofaaGreatDoorGxUF
noncomputable section
namespace Go.Proofs.YtjcninlcdnkofaaGreatDoor
open Go Gw Go.RowKit
set_option linter.unusedSimpArgs false
set_option linter.unusedVariables false
def oxLU0_0 (a : Gw.Offer) (b : Gw.Offer) (n : Int) : OTab := (consT 46 (gD dGet pGet (fun n => match n with | 130 => some (.tup [.agg [.int .u32 1, .int .u32 2, vi 0, vi 1, vi (fineO a).baud, vi (fineO a).silent, vi (fineO a).win, vi (fineO a).size, vi (fineO a).wait], .bool true]) | _ => none)) (consT 70 (gD dPut pPut noV) (consT 47 (gDT kT0 kT1 kT2 dDeal pDeal (fun n => match n with | 143 => some (.tup [.agg (dv b a 0), .bool true]) | _ => none)) (consT 43 (gD dOff pMayQ (fun n => match n with | 8 => some (.bool true) | 16 => some (.bool true) | _ => none)) (consT 10 (gD dOff pFine noV) (consO 9 (gTrue kT0 kT1 kT2) noOX))))))
def treeLU0_0 (a : Gw.Offer) (b : Gw.Offer) (n : Int) : DT V :=
  .ob (binV .rem (vi n) (vi 30) = some (vi 0)) (
.ob (IntKind.i64 = IntKind.i64 ∧ (30 : Int) ≠ 0) (
.ob (dOff [.agg a.vs]) (
.ob (((V.beq (.agg b.vs) (.agg b.vs)) && true) = true) (
.ob (dOff [.agg (fineO a).vs]) (
.ob (pMayQ [.agg (fineO a).vs] = (.bool true)) (
.ob (((V.beq (.agg b.vs) (.agg b.vs)) && true) = true) (
.ob (dOff [.agg b.vs]) (
.ob (dOff [.agg (fineO b).vs]) (
.ob (pMayQ [.agg (fineO b).vs] = (.bool true)) (
.ob (True) (
.ob (IntKind.i64 = IntKind.i64 ∧ (250 : Int) ≠ 0) (
.ob (((V.beq (.int .u32 2) (.int .u32 2)) && true) = true) (
.ob (((V.beq (.int .u32 2) (.int .u32 2)) && true) = true) (
.ob (dPut [.agg [.int .u32 1, .int .u32 2, vi 0, vi 1, vi (fineO a).baud, vi (fineO a).silent, vi (fineO a).win, vi (fineO a).size, vi (fineO a).wait]]) (
.ob (9 = 9 ∧ 0 ≤ (0 : Int) ∧ (0 : Int) < ((1 : Nat) : Int)) (
.ob (Gw.lenStr (.str (setupStr ⟨1, 2, 0, 1, (fineO a)⟩)) = some (vi 25)) (
.ob (Gw.lenStr (.str (setupStr ⟨1, 2, 0, 1, (fineO a)⟩)) = some (vi 25)) (
.ob (((V.beq (.str (setupStr ⟨1, 2, 0, 1, (fineO a)⟩)) (.str (setupStr ⟨1, 2, 0, 1, (fineO a)⟩))) && ((V.beq (.bool true) (.bool true)) && ((V.beq (.agg [vi 127, vi 255]) (.agg [vi 127, vi 255])) && true))) = true) (
.ob (((V.beq (vi 2) (vi 2)) && true) = true) (
.ob (((V.beq (.agg [vi 127, vi 255, .bool true, vi 3, vi 2, vi 0, vi 0, .bool true, .str (setupStr ⟨1, 2, 0, 1, (fineO a)⟩)]) (.agg [vi 127, vi 255, .bool true, vi 3, vi 2, vi 0, vi 0, .bool true, .str (setupStr ⟨1, 2, 0, 1, (fineO a)⟩)])) && true) = true) (
.ob (((eqV (.agg [.i, .i, .b, .i, .i, .i, .i, .b, .s]) (.agg [vi 127, vi 255, .bool true, vi 3, vi 2, vi 0, vi 0, .bool true, .str (setupStr ⟨1, 2, 0, 1, (fineO a)⟩)]) (.agg [vi 127, vi 255, .bool true, vi 3, vi 2, vi 0, vi 0, .bool true, .str (setupStr ⟨1, 2, 0, 1, (fineO a)⟩)])).map fun b => V.bool (if true then !b else b)) = some (.bool false)) (
.ob (((V.beq (.agg [vi 127, vi 255]) (.agg [vi 127, vi 255])) && true) = true) (
.ob (True) (
.ob (dGet [.str (setupStr ⟨1, 2, 0, 1, (fineO a)⟩)]) (
.ob (pGet [.str (setupStr ⟨1, 2, 0, 1, (fineO a)⟩)] = (.tup [.agg [.int .u32 1, .int .u32 2, vi 0, vi 1, vi (fineO a).baud, vi (fineO a).silent, vi (fineO a).win, vi (fineO a).size, vi (fineO a).wait], .bool true])) (
.ob (dDeal [.agg (fineO b).vs, .agg (fineO a).vs]) (
.ob (pDeal [.agg (fineO b).vs, .agg (fineO a).vs] = (.tup [.agg (dv b a 0), .bool true])) (
.ob (((V.beq (vi (dealL (fineO b) (fineO a)).size) (vi (dealL (fineO b) (fineO a)).size)) && true) = true) (
.ob (((V.beq (vi (dealL (fineO b) (fineO a)).size) (vi (dealL (fineO b) (fineO a)).size)) && true) = true) (
.ob (((V.beq (.agg (dv b a 0)) (.agg (dv b a 0))) && ((V.beq (.agg [vi 0, vi 1]) (.agg [vi 0, vi 1])) && true)) = true) (
.ob (((V.beq (.agg (dv b a 0)) (.agg (dv b a 0))) && ((V.beq (.agg [vi 0, vi 1]) (.agg [vi 0, vi 1])) && true)) = true) (
.ob (((V.beq (.agg (dv b a 0)) (.agg (dv b a 0))) && ((V.beq (.agg [vi 0, vi 1]) (.agg [vi 0, vi 1])) && true)) = true) (
.ob (((V.beq (.agg (dv b a 0)) (.agg (dv b a 0))) && true) = true) (
.ob (((V.beq (vi 0) (vi 0)) && true) = true) (
.ob (((V.beq (vi 0) (vi 0)) && true) = true) (
.ob (((V.beq (vi 0) (vi 0)) && true) = true) (
.ob (dPut [.agg [.int .u32 2, .int .u32 1, vi 0, vi 1, vi (fineO b).baud, vi (fineO b).silent, vi (fineO b).win, vi (fineO b).size, vi (fineO b).wait]]) (
.leaf (.bool true)))))))))))))))))))))))))))))))))))))))
set_option maxRecDepth 1000000 in
theorem treeLU0_0_eq (a : Gw.Offer) (b : Gw.Offer) (n : Int) : funT (mkXT (noPX) (oxLU0_0 a b n)) (mkXP (noPX)) (mkX (noPX) (oxLU0_0 a b n)) D (fun g => match g with | 76 => (fun k => match k with | 38 => some fun t h => (match h.n with | 85 => (vi 25, h) | _ => (vi 25, h)) | _ => none) | 44 => (fun k => match k with | 52 => some fun t h => (.bool false, h) | _ => none) | _ => noOrc) (fun k => match k with | 5 => [22, 45, 49, 67, 75, 87, 100] | 12 => [10, 15, 20, 25, 30, 31, 37, 41, 50, 57] | 16 => [15, 22, 31, 52, 58, 74, 80] | 21 => [8, 11, 15, 19, 23] | 22 => [16, 25, 30, 36, 39, 57, 67, 82, 86, 99] | 31 => [10, 33, 40, 44, 49] | 35 => [8, 25, 32] | 37 => [28, 30] | 38 => [9] | 44 => [8, 15, 26, 37, 41, 46, 52] | 49 => [13] | 71 => [10] | 76 => [11, 16, 20, 25, 30, 34, 39] | 77 => [8, 14, 19, 24, 34, 44] | 104 => [6, 9, 20] | 129 => [8, 19, 30, 34, 38] | 130 => [8, 13, 18, 21] | _ => []) 12 (fun k => match k with | 26 => some fun t h => (vi 0, h) | _ => none) [22, 45, 49, 67, 75, 87, 100] (noLt) (dOf 5) [.agg a.vs, .agg b.vs, vi n] (tabH kT0 kT1 kT2 3) (fun v _ => v) = treeLU0_0 a b n := by kernel_rfl
theorem satLU0_0 (a : Gw.Offer) (b : Gw.Offer) (n : Int) (hn : (n.tmod 30 + 30).tmod 30 = 0) (hwa : loL (fineO a).wait = 0) : (treeLU0_0 a b n).sat fun v => v = .bool true :=
 sat_ob (rem30z hn) (
sat_ob (by decide) (
sat_ob trivial (
sat_ob (by simp only [V.beq_refl, Bool.and_true]) (
sat_ob trivial (
sat_ob (may_of (mayO_fine a)) (
sat_ob (by simp only [V.beq_refl, Bool.and_true]) (
sat_ob trivial (
sat_ob trivial (
sat_ob (may_of (mayO_fine b)) (
sat_ob trivial (
sat_ob (by decide) (
sat_ob (by simp only [V.beq_refl, Bool.and_true]) (
sat_ob (by simp only [V.beq_refl, Bool.and_true]) (
sat_ob (okSet 1 2 0 1 a (by decide) (by decide) (by decide) (by decide)) (
sat_ob (by decide) (
sat_ob rfl (
sat_ob rfl (
sat_ob (by simp only [V.beq_refl, Bool.and_true]) (
sat_ob (by simp only [V.beq_refl, Bool.and_true]) (
sat_ob (by simp only [V.beq_refl, Bool.and_true]) (
sat_ob (by simp [eqV, eqCells]) (
sat_ob (by simp only [V.beq_refl, Bool.and_true]) (
sat_ob trivial (
sat_ob ⟨⟨1, 2, 0, 1, (fineO a)⟩, (okSet 1 2 0 1 a (by decide) (by decide) (by decide) (by decide)), rfl⟩ (
sat_ob (get_put ⟨1, 2, 0, 1, (fineO a)⟩ (okSet 1 2 0 1 a (by decide) (by decide) (by decide) (by decide))) (
sat_ob ⟨(mayO_fine b), (mayO_fine a)⟩ (
sat_ob (by show V.tup [.agg [vi _, vi _, vi _, vi _, vi (loL (fineO a).wait)], .bool true] = _; rw [hwa]; rfl) (
sat_ob (by simp only [V.beq_refl, Bool.and_true]) (
sat_ob (by simp only [V.beq_refl, Bool.and_true]) (
sat_ob (by simp only [V.beq_refl, Bool.and_true]) (
sat_ob (by simp only [V.beq_refl, Bool.and_true]) (
sat_ob (by simp only [V.beq_refl, Bool.and_true]) (
sat_ob (by simp only [V.beq_refl, Bool.and_true]) (
sat_ob (by simp only [V.beq_refl, Bool.and_true]) (
sat_ob (by simp only [V.beq_refl, Bool.and_true]) (
sat_ob (by simp only [V.beq_refl, Bool.and_true]) (
sat_ob (okSet 2 1 0 1 b (by decide) (by decide) (by decide) (by decide)) (
sat_leaf (rfl)))))))))))))))))))))))))))))))))))))))
theorem runLU0_0 (a : Gw.Offer) (b : Gw.Offer) (n : Int) (hn : (n.tmod 30 + 30).tmod 30 = 0) (hwa : loL (fineO a).wait = 0) : Run Tryz.prog 5 [.agg a.vs, .agg b.vs, vi n] (tabH kT0 kT1 kT2 3) fun v _ => v = .bool true := run_plainU mixed (show TabX Tryz.prog noPX (oxLU0_0 a b n) from ((((((TabX.nil.addO ans_begun).addT (ans_fine noV)).addT (ans_may (fun n => match n with | 8 => some (.bool true) | 16 => some (.bool true) | _ => none))).addT (ans_deal (fun n => match n with | 143 => some (.tup [.agg (dv b a 0), .bool true]) | _ => none))).addT (ans_put noV)).addT (ans_get (fun n => match n with | 130 => some (.tup [.agg [.int .u32 1, .int .u32 2, vi 0, vi 1, vi (fineO a).baud, vi (fineO a).silent, vi (fineO a).win, vi (fineO a).size, vi (fineO a).wait], .bool true]) | _ => none)))) tabD (dIs (by kernel_rfl)) (treeLU0_0_eq a b n) (satLU0_0 a b n hn hwa)
def oxLU0_1 (a : Gw.Offer) (b : Gw.Offer) (n : Int) : OTab := (consT 46 (gD dGet pGet (fun n => match n with | 130 => some (.tup [.agg [.int .u32 1, .int .u32 2, vi 0, vi 1, vi (fineO a).baud, vi (fineO a).silent, vi (fineO a).win, vi (fineO a).size, vi (fineO a).wait], .bool true]) | _ => none)) (consT 70 (gD dPut pPut noV) (consT 47 (gDT kT0 kT1 kT2 dDeal pDeal (fun n => match n with | 143 => some (.tup [.agg (dv b a 0), .bool true]) | _ => none)) (consT 43 (gD dOff pMayQ (fun n => match n with | 8 => some (.bool true) | 16 => some (.bool true) | _ => none)) (consT 10 (gD dOff pFine noV) (consO 9 (gTrue kT0 kT1 kT2) noOX))))))
def treeLU0_1 (a : Gw.Offer) (b : Gw.Offer) (n : Int) : DT V :=
  .ob (IntKind.i64 = IntKind.i64 ∧ (30 : Int) ≠ 0) (
.ob (binV .rem (vi (wrapK .i64 (((n : Int).tmod 30) + 30))) (vi 30) = some (vi 1)) (
.ob (dOff [.agg a.vs]) (
.ob (((V.beq (.agg b.vs) (.agg b.vs)) && true) = true) (
.ob (dOff [.agg (fineO a).vs]) (
.ob (pMayQ [.agg (fineO a).vs] = (.bool true)) (
.ob (((V.beq (.agg b.vs) (.agg b.vs)) && true) = true) (
.ob (dOff [.agg b.vs]) (
.ob (dOff [.agg (fineO b).vs]) (
.ob (pMayQ [.agg (fineO b).vs] = (.bool true)) (
.ob (True) (
.ob (IntKind.i64 = IntKind.i64 ∧ (250 : Int) ≠ 0) (
.ob (((V.beq (.int .u32 2) (.int .u32 2)) && true) = true) (
.ob (((V.beq (.int .u32 2) (.int .u32 2)) && true) = true) (
.ob (dPut [.agg [.int .u32 1, .int .u32 2, vi 0, vi 1, vi (fineO a).baud, vi (fineO a).silent, vi (fineO a).win, vi (fineO a).size, vi (fineO a).wait]]) (
.ob (9 = 9 ∧ 0 ≤ (0 : Int) ∧ (0 : Int) < ((1 : Nat) : Int)) (
.ob (Gw.lenStr (.str (setupStr ⟨1, 2, 0, 1, (fineO a)⟩)) = some (vi 25)) (
.ob (Gw.lenStr (.str (setupStr ⟨1, 2, 0, 1, (fineO a)⟩)) = some (vi 25)) (
.ob (((V.beq (.str (setupStr ⟨1, 2, 0, 1, (fineO a)⟩)) (.str (setupStr ⟨1, 2, 0, 1, (fineO a)⟩))) && ((V.beq (.bool true) (.bool true)) && ((V.beq (.agg [vi 127, vi 255]) (.agg [vi 127, vi 255])) && true))) = true) (
.ob (((V.beq (vi 2) (vi 2)) && true) = true) (
.ob (((V.beq (.agg [vi 127, vi 255, .bool true, vi 3, vi 2, vi 0, vi 0, .bool true, .str (setupStr ⟨1, 2, 0, 1, (fineO a)⟩)]) (.agg [vi 127, vi 255, .bool true, vi 3, vi 2, vi 0, vi 0, .bool true, .str (setupStr ⟨1, 2, 0, 1, (fineO a)⟩)])) && true) = true) (
.ob (((eqV (.agg [.i, .i, .b, .i, .i, .i, .i, .b, .s]) (.agg [vi 127, vi 255, .bool true, vi 3, vi 2, vi 0, vi 0, .bool true, .str (setupStr ⟨1, 2, 0, 1, (fineO a)⟩)]) (.agg [vi 127, vi 255, .bool true, vi 3, vi 2, vi 0, vi 0, .bool true, .str (setupStr ⟨1, 2, 0, 1, (fineO a)⟩)])).map fun b => V.bool (if true then !b else b)) = some (.bool false)) (
.ob (((V.beq (.agg [vi 127, vi 255]) (.agg [vi 127, vi 255])) && true) = true) (
.ob (True) (
.ob (dGet [.str (setupStr ⟨1, 2, 0, 1, (fineO a)⟩)]) (
.ob (pGet [.str (setupStr ⟨1, 2, 0, 1, (fineO a)⟩)] = (.tup [.agg [.int .u32 1, .int .u32 2, vi 0, vi 1, vi (fineO a).baud, vi (fineO a).silent, vi (fineO a).win, vi (fineO a).size, vi (fineO a).wait], .bool true])) (
.ob (dDeal [.agg (fineO b).vs, .agg (fineO a).vs]) (
.ob (pDeal [.agg (fineO b).vs, .agg (fineO a).vs] = (.tup [.agg (dv b a 0), .bool true])) (
.ob (((V.beq (vi (dealL (fineO b) (fineO a)).size) (vi (dealL (fineO b) (fineO a)).size)) && true) = true) (
.ob (((V.beq (vi (dealL (fineO b) (fineO a)).size) (vi (dealL (fineO b) (fineO a)).size)) && true) = true) (
.ob (((V.beq (.agg (dv b a 0)) (.agg (dv b a 0))) && ((V.beq (.agg [vi 0, vi 1]) (.agg [vi 0, vi 1])) && true)) = true) (
.ob (((V.beq (.agg (dv b a 0)) (.agg (dv b a 0))) && ((V.beq (.agg [vi 0, vi 1]) (.agg [vi 0, vi 1])) && true)) = true) (
.ob (((V.beq (.agg (dv b a 0)) (.agg (dv b a 0))) && ((V.beq (.agg [vi 0, vi 1]) (.agg [vi 0, vi 1])) && true)) = true) (
.ob (((V.beq (.agg (dv b a 0)) (.agg (dv b a 0))) && true) = true) (
.ob (((V.beq (vi 0) (vi 0)) && true) = true) (
.ob (((V.beq (vi 0) (vi 0)) && true) = true) (
.ob (((V.beq (vi 0) (vi 0)) && true) = true) (
.ob (dPut [.agg [.int .u32 2, .int .u32 1, vi 0, vi 1, vi (fineO b).baud, vi (fineO b).silent, vi (fineO b).win, vi (fineO b).size, vi (fineO b).wait]]) (
.leaf (.bool true)))))))))))))))))))))))))))))))))))))))
set_option maxRecDepth 1000000 in
theorem treeLU0_1_eq (a : Gw.Offer) (b : Gw.Offer) (n : Int) : funT (mkXT (noPX) (oxLU0_1 a b n)) (mkXP (noPX)) (mkX (noPX) (oxLU0_1 a b n)) D (fun g => match g with | 76 => (fun k => match k with | 38 => some fun t h => (match h.n with | 85 => (vi 25, h) | _ => (vi 25, h)) | _ => none) | 44 => (fun k => match k with | 52 => some fun t h => (.bool false, h) | _ => none) | _ => noOrc) (fun k => match k with | 5 => [22, 45, 49, 59, 67, 75, 85, 87, 100] | 12 => [10, 15, 20, 25, 30, 31, 37, 41, 50, 57] | 16 => [15, 22, 31, 52, 58, 74, 80] | 21 => [8, 11, 15, 19, 23] | 22 => [16, 25, 30, 36, 39, 57, 67, 82, 86, 99] | 31 => [10, 33, 40, 44, 49] | 35 => [8, 25, 32] | 37 => [28, 30] | 38 => [9] | 44 => [8, 15, 26, 37, 41, 46, 52] | 49 => [13] | 71 => [10] | 76 => [11, 16, 20, 25, 30, 34, 39] | 77 => [8, 14, 19, 24, 34, 44] | 104 => [6, 9, 20] | 129 => [8, 19, 30, 34, 38] | 130 => [8, 13, 18, 21] | _ => []) 12 (fun k => match k with | 28 => some fun t h => (vi 1, h) | _ => none) [22, 45, 49, 59, 67, 75, 85, 87, 100] (noLt) (dOf 5) [.agg a.vs, .agg b.vs, vi n] (tabH kT0 kT1 kT2 3) (fun v _ => v) = treeLU0_1 a b n := by kernel_rfl
theorem satLU0_1 (a : Gw.Offer) (b : Gw.Offer) (n : Int) (hn : (n.tmod 30 + 30).tmod 30 = 1) (hwa : loL (fineO a).wait = 0) : (treeLU0_1 a b n).sat fun v => v = .bool true :=
 sat_ob (by decide) (
sat_ob (rem30 hn) (
sat_ob trivial (
sat_ob (by simp only [V.beq_refl, Bool.and_true]) (
sat_ob trivial (
sat_ob (may_of (mayO_fine a)) (
sat_ob (by simp only [V.beq_refl, Bool.and_true]) (
sat_ob trivial (
sat_ob trivial (
sat_ob (may_of (mayO_fine b)) (
sat_ob trivial (
sat_ob (by decide) (
sat_ob (by simp only [V.beq_refl, Bool.and_true]) (
sat_ob (by simp only [V.beq_refl, Bool.and_true]) (
sat_ob (okSet 1 2 0 1 a (by decide) (by decide) (by decide) (by decide)) (
sat_ob (by decide) (
sat_ob rfl (
sat_ob rfl (
sat_ob (by simp only [V.beq_refl, Bool.and_true]) (
sat_ob (by simp only [V.beq_refl, Bool.and_true]) (
sat_ob (by simp only [V.beq_refl, Bool.and_true]) (
sat_ob (by simp [eqV, eqCells]) (
sat_ob (by simp only [V.beq_refl, Bool.and_true]) (
sat_ob trivial (
sat_ob ⟨⟨1, 2, 0, 1, (fineO a)⟩, (okSet 1 2 0 1 a (by decide) (by decide) (by decide) (by decide)), rfl⟩ (
sat_ob (get_put ⟨1, 2, 0, 1, (fineO a)⟩ (okSet 1 2 0 1 a (by decide) (by decide) (by decide) (by decide))) (
sat_ob ⟨(mayO_fine b), (mayO_fine a)⟩ (
sat_ob (by show V.tup [.agg [vi _, vi _, vi _, vi _, vi (loL (fineO a).wait)], .bool true] = _; rw [hwa]; rfl) (
sat_ob (by simp only [V.beq_refl, Bool.and_true]) (
sat_ob (by simp only [V.beq_refl, Bool.and_true]) (
sat_ob (by simp only [V.beq_refl, Bool.and_true]) (
sat_ob (by simp only [V.beq_refl, Bool.and_true]) (
sat_ob (by simp only [V.beq_refl, Bool.and_true]) (
sat_ob (by simp only [V.beq_refl, Bool.and_true]) (
sat_ob (by simp only [V.beq_refl, Bool.and_true]) (
sat_ob (by simp only [V.beq_refl, Bool.and_true]) (
sat_ob (by simp only [V.beq_refl, Bool.and_true]) (
sat_ob (okSet 2 1 0 1 b (by decide) (by decide) (by decide) (by decide)) (
sat_leaf (rfl)))))))))))))))))))))))))))))))))))))))
theorem runLU0_1 (a : Gw.Offer) (b : Gw.Offer) (n : Int) (hn : (n.tmod 30 + 30).tmod 30 = 1) (hwa : loL (fineO a).wait = 0) : Run Tryz.prog 5 [.agg a.vs, .agg b.vs, vi n] (tabH kT0 kT1 kT2 3) fun v _ => v = .bool true := run_plainU mixed (show TabX Tryz.prog noPX (oxLU0_1 a b n) from ((((((TabX.nil.addO ans_begun).addT (ans_fine noV)).addT (ans_may (fun n => match n with | 8 => some (.bool true) | 16 => some (.bool true) | _ => none))).addT (ans_deal (fun n => match n with | 143 => some (.tup [.agg (dv b a 0), .bool true]) | _ => none))).addT (ans_put noV)).addT (ans_get (fun n => match n with | 130 => some (.tup [.agg [.int .u32 1, .int .u32 2, vi 0, vi 1, vi (fineO a).baud, vi (fineO a).silent, vi (fineO a).win, vi (fineO a).size, vi (fineO a).wait], .bool true]) | _ => none)))) tabD (dIs (by kernel_rfl)) (treeLU0_1_eq a b n) (satLU0_1 a b n hn hwa)
def oxLU0_2 (a : Gw.Offer) (b : Gw.Offer) (n : Int) : OTab := (consT 46 (gD dGet pGet (fun n => match n with | 130 => some (.tup [.agg [.int .u32 1, .int .u32 2, vi 0, vi 1, vi (fineO a).baud, vi (fineO a).silent, vi (fineO a).win, vi (fineO a).size, vi (fineO a).wait], .bool true]) | _ => none)) (consT 70 (gD dPut pPut noV) (consT 47 (gDT kT0 kT1 kT2 dDeal pDeal (fun n => match n with | 143 => some (.tup [.agg (dv b a 0), .bool true]) | _ => none)) (consT 43 (gD dOff pMayQ (fun n => match n with | 8 => some (.bool true) | 16 => some (.bool true) | _ => none)) (consT 10 (gD dOff pFine noV) (consO 9 (gTrue kT0 kT1 kT2) noOX))))))
def treeLU0_2 (a : Gw.Offer) (b : Gw.Offer) (n : Int) : DT V :=
  .ob (IntKind.i64 = IntKind.i64 ∧ (30 : Int) ≠ 0) (
.ob (binV .rem (vi (wrapK .i64 (((n : Int).tmod 30) + 30))) (vi 30) = some (vi 2)) (
.ob (dOff [.agg a.vs]) (
.ob (((V.beq (.agg b.vs) (.agg b.vs)) && true) = true) (
.ob (dOff [.agg (fineO a).vs]) (
.ob (pMayQ [.agg (fineO a).vs] = (.bool true)) (
.ob (((V.beq (.agg b.vs) (.agg b.vs)) && true) = true) (
.ob (dOff [.agg b.vs]) (
.ob (dOff [.agg (fineO b).vs]) (
.ob (pMayQ [.agg (fineO b).vs] = (.bool true)) (
.ob (True) (
.ob (IntKind.i64 = IntKind.i64 ∧ (250 : Int) ≠ 0) (
.ob (((V.beq (.int .u32 2) (.int .u32 2)) && true) = true) (
.ob (((V.beq (.int .u32 2) (.int .u32 2)) && true) = true) (
.ob (dPut [.agg [.int .u32 1, .int .u32 2, vi 0, vi 1, vi (fineO a).baud, vi (fineO a).silent, vi (fineO a).win, vi (fineO a).size, vi (fineO a).wait]]) (
.ob (9 = 9 ∧ 0 ≤ (0 : Int) ∧ (0 : Int) < ((1 : Nat) : Int)) (
.ob (Gw.lenStr (.str (setupStr ⟨1, 2, 0, 1, (fineO a)⟩)) = some (vi 25)) (
.ob (Gw.lenStr (.str (setupStr ⟨1, 2, 0, 1, (fineO a)⟩)) = some (vi 25)) (
.ob (((V.beq (.str (setupStr ⟨1, 2, 0, 1, (fineO a)⟩)) (.str (setupStr ⟨1, 2, 0, 1, (fineO a)⟩))) && ((V.beq (.bool true) (.bool true)) && ((V.beq (.agg [vi 127, vi 255]) (.agg [vi 127, vi 255])) && true))) = true) (
.ob (((V.beq (vi 2) (vi 2)) && true) = true) (
.ob (((V.beq (.agg [vi 127, vi 255, .bool true, vi 3, vi 2, vi 0, vi 0, .bool true, .str (setupStr ⟨1, 2, 0, 1, (fineO a)⟩)]) (.agg [vi 127, vi 255, .bool true, vi 3, vi 2, vi 0, vi 0, .bool true, .str (setupStr ⟨1, 2, 0, 1, (fineO a)⟩)])) && true) = true) (
.ob (((eqV (.agg [.i, .i, .b, .i, .i, .i, .i, .b, .s]) (.agg [vi 127, vi 255, .bool true, vi 3, vi 2, vi 0, vi 0, .bool true, .str (setupStr ⟨1, 2, 0, 1, (fineO a)⟩)]) (.agg [vi 127, vi 255, .bool true, vi 3, vi 2, vi 0, vi 0, .bool true, .str (setupStr ⟨1, 2, 0, 1, (fineO a)⟩)])).map fun b => V.bool (if true then !b else b)) = some (.bool false)) (
.ob (((V.beq (.agg [vi 127, vi 255]) (.agg [vi 127, vi 255])) && true) = true) (
.ob (True) (
.ob (dGet [.str (setupStr ⟨1, 2, 0, 1, (fineO a)⟩)]) (
.ob (pGet [.str (setupStr ⟨1, 2, 0, 1, (fineO a)⟩)] = (.tup [.agg [.int .u32 1, .int .u32 2, vi 0, vi 1, vi (fineO a).baud, vi (fineO a).silent, vi (fineO a).win, vi (fineO a).size, vi (fineO a).wait], .bool true])) (
.ob (dDeal [.agg (fineO b).vs, .agg (fineO a).vs]) (
.ob (pDeal [.agg (fineO b).vs, .agg (fineO a).vs] = (.tup [.agg (dv b a 0), .bool true])) (
.ob (((V.beq (vi (dealL (fineO b) (fineO a)).size) (vi (dealL (fineO b) (fineO a)).size)) && true) = true) (
.ob (((V.beq (vi (dealL (fineO b) (fineO a)).size) (vi (dealL (fineO b) (fineO a)).size)) && true) = true) (
.ob (((V.beq (.agg (dv b a 0)) (.agg (dv b a 0))) && ((V.beq (.agg [vi 0, vi 1]) (.agg [vi 0, vi 1])) && true)) = true) (
.ob (((V.beq (.agg (dv b a 0)) (.agg (dv b a 0))) && ((V.beq (.agg [vi 0, vi 1]) (.agg [vi 0, vi 1])) && true)) = true) (
.ob (((V.beq (.agg (dv b a 0)) (.agg (dv b a 0))) && ((V.beq (.agg [vi 0, vi 1]) (.agg [vi 0, vi 1])) && true)) = true) (
.ob (((V.beq (.agg (dv b a 0)) (.agg (dv b a 0))) && true) = true) (
.ob (((V.beq (vi 0) (vi 0)) && true) = true) (
.ob (((V.beq (vi 0) (vi 0)) && true) = true) (
.ob (((V.beq (vi 0) (vi 0)) && true) = true) (
.ob (dPut [.agg [.int .u32 2, .int .u32 1, vi 0, vi 1, vi (fineO b).baud, vi (fineO b).silent, vi (fineO b).win, vi (fineO b).size, vi (fineO b).wait]]) (
.leaf (.bool true)))))))))))))))))))))))))))))))))))))))
set_option maxRecDepth 1000000 in
theorem treeLU0_2_eq (a : Gw.Offer) (b : Gw.Offer) (n : Int) : funT (mkXT (noPX) (oxLU0_2 a b n)) (mkXP (noPX)) (mkX (noPX) (oxLU0_2 a b n)) D (fun g => match g with | 76 => (fun k => match k with | 38 => some fun t h => (match h.n with | 85 => (vi 25, h) | _ => (vi 25, h)) | _ => none) | 44 => (fun k => match k with | 52 => some fun t h => (.bool false, h) | _ => none) | _ => noOrc) (fun k => match k with | 5 => [22, 45, 49, 59, 67, 75, 85, 87, 100] | 12 => [10, 15, 20, 25, 30, 31, 37, 41, 50, 57] | 16 => [15, 22, 31, 52, 58, 74, 80] | 21 => [8, 11, 15, 19, 23] | 22 => [16, 25, 30, 36, 39, 57, 67, 82, 86, 99] | 31 => [10, 33, 40, 44, 49] | 35 => [8, 25, 32] | 37 => [28, 30] | 38 => [9] | 44 => [8, 15, 26, 37, 41, 46, 52] | 49 => [13] | 71 => [10] | 76 => [11, 16, 20, 25, 30, 34, 39] | 77 => [8, 14, 19, 24, 34, 44] | 104 => [6, 9, 20] | 129 => [8, 19, 30, 34, 38] | 130 => [8, 13, 18, 21] | _ => []) 12 (fun k => match k with | 28 => some fun t h => (vi 2, h) | _ => none) [22, 45, 49, 59, 67, 75, 85, 87, 100] (noLt) (dOf 5) [.agg a.vs, .agg b.vs, vi n] (tabH kT0 kT1 kT2 3) (fun v _ => v) = treeLU0_2 a b n := by kernel_rfl
theorem satLU0_2 (a : Gw.Offer) (b : Gw.Offer) (n : Int) (hn : (n.tmod 30 + 30).tmod 30 = 2) (hwa : loL (fineO a).wait = 0) : (treeLU0_2 a b n).sat fun v => v = .bool true :=
 sat_ob (by decide) (
sat_ob (rem30 hn) (
sat_ob trivial (
sat_ob (by simp only [V.beq_refl, Bool.and_true]) (
sat_ob trivial (
sat_ob (may_of (mayO_fine a)) (
sat_ob (by simp only [V.beq_refl, Bool.and_true]) (
sat_ob trivial (
sat_ob trivial (
sat_ob (may_of (mayO_fine b)) (
sat_ob trivial (
sat_ob (by decide) (
sat_ob (by simp only [V.beq_refl, Bool.and_true]) (
sat_ob (by simp only [V.beq_refl, Bool.and_true]) (
sat_ob (okSet 1 2 0 1 a (by decide) (by decide) (by decide) (by decide)) (
sat_ob (by decide) (
sat_ob rfl (
sat_ob rfl (
sat_ob (by simp only [V.beq_refl, Bool.and_true]) (
sat_ob (by simp only [V.beq_refl, Bool.and_true]) (
sat_ob (by simp only [V.beq_refl, Bool.and_true]) (
sat_ob (by simp [eqV, eqCells]) (
sat_ob (by simp only [V.beq_refl, Bool.and_true]) (
sat_ob trivial (
sat_ob ⟨⟨1, 2, 0, 1, (fineO a)⟩, (okSet 1 2 0 1 a (by decide) (by decide) (by decide) (by decide)), rfl⟩ (
sat_ob (get_put ⟨1, 2, 0, 1, (fineO a)⟩ (okSet 1 2 0 1 a (by decide) (by decide) (by decide) (by decide))) (
sat_ob ⟨(mayO_fine b), (mayO_fine a)⟩ (
sat_ob (by show V.tup [.agg [vi _, vi _, vi _, vi _, vi (loL (fineO a).wait)], .bool true] = _; rw [hwa]; rfl) (
sat_ob (by simp only [V.beq_refl, Bool.and_true]) (
sat_ob (by simp only [V.beq_refl, Bool.and_true]) (
sat_ob (by simp only [V.beq_refl, Bool.and_true]) (
sat_ob (by simp only [V.beq_refl, Bool.and_true]) (
sat_ob (by simp only [V.beq_refl, Bool.and_true]) (
sat_ob (by simp only [V.beq_refl, Bool.and_true]) (
sat_ob (by simp only [V.beq_refl, Bool.and_true]) (
sat_ob (by simp only [V.beq_refl, Bool.and_true]) (
sat_ob (by simp only [V.beq_refl, Bool.and_true]) (
sat_ob (okSet 2 1 0 1 b (by decide) (by decide) (by decide) (by decide)) (
sat_leaf (rfl)))))))))))))))))))))))))))))))))))))))
theorem runLU0_2 (a : Gw.Offer) (b : Gw.Offer) (n : Int) (hn : (n.tmod 30 + 30).tmod 30 = 2) (hwa : loL (fineO a).wait = 0) : Run Tryz.prog 5 [.agg a.vs, .agg b.vs, vi n] (tabH kT0 kT1 kT2 3) fun v _ => v = .bool true := run_plainU mixed (show TabX Tryz.prog noPX (oxLU0_2 a b n) from ((((((TabX.nil.addO ans_begun).addT (ans_fine noV)).addT (ans_may (fun n => match n with | 8 => some (.bool true) | 16 => some (.bool true) | _ => none))).addT (ans_deal (fun n => match n with | 143 => some (.tup [.agg (dv b a 0), .bool true]) | _ => none))).addT (ans_put noV)).addT (ans_get (fun n => match n with | 130 => some (.tup [.agg [.int .u32 1, .int .u32 2, vi 0, vi 1, vi (fineO a).baud, vi (fineO a).silent, vi (fineO a).win, vi (fineO a).size, vi (fineO a).wait], .bool true]) | _ => none)))) tabD (dIs (by kernel_rfl)) (treeLU0_2_eq a b n) (satLU0_2 a b n hn hwa)
inductive ILU0_m_0
  | c0 (j : Nat)
  | c1 (j : Nat)
def RWLU0_m_0 (a : Gw.Offer) (b : Gw.Offer) (n : Int) (m : Nat) (w0 : V) : List (Option Blk) := [some (.cells true (zsV .u8 kT0)), some (.cells true (zsV .u8 kT1)), some (.cells true (zsV .u8 kT2)), cF a.vs, cF b.vs, none, cF (fineO a).vs, none, none, none, none, none, cF [.int .u32 1, vi 0, vi (fineO a).baud, vi (fineO a).silent, vi (fineO a).win, vi (fineO a).size, vi (fineO a).wait, vi 1, .int .u32 2, vi 0, vi 1, vi 0, vi 0, vi 0, vi 0, vi 0, .nilp, vi 1, vi 0, vi 0, vi 0, vi 0, vi 0, vi 0, .bool false, .bool false, .bool false, .nils], none, cF (fineO b).vs, none, none, none, none, none, cF [.int .u32 2, vi 1, vi (fineO b).baud, vi (fineO b).silent, vi (fineO b).win, vi (fineO b).size, vi (fineO b).wait, vi 0, .int .u32 0, vi 0, vi 0, vi 0, vi 0, vi 0, vi 0, vi 0, .nilp, vi 0, vi 0, vi 0, vi 0, vi 0, vi 0, vi 0, .bool false, .bool false, .bool false, .nils], none, some (.cells false [vi 2, vi 0, .int .u32 2, .str []]), none, some (.cells false [vi 2, vi 0, .int .u32 2, .str []]), none, none, none, none, some (.cells false [vi 2, vi 0, .int .u32 2, .str []]), none, cF [vi 0, vi 1]]
def SNLU0_m_0 (a : Gw.Offer) (b : Gw.Offer) (n : Int) (m : Nat) (w0 : V) : Snap := ([.agg a.vs, .agg b.vs, vi (m : Int), .ptr 3 0, .ptr 4 0, .bool true, .ptr 12 0, .ptr 20 0, w0, .bool true, .bool true, .bool false, vi n, vi ((n : Int).tmod 30), vi (wrapK .i64 (((n : Int).tmod 30) + 30)), vi (m : Int), .agg a.vs, .agg (fineO a).vs, .ptr 12 0, .agg b.vs, .agg (fineO b).vs, .ptr 20 0, .ptr 12 0, .bool false, .bool false, .ptr 20 0, .bool false, .bool false, .bool false, .ptr 12 0, .agg [vi 2, vi 0, .int .u32 2, .str []], vi 0, .bool false, .bool false], RWLU0_m_0 a b n m w0)
def SSLU0_m_0 (a : Gw.Offer) (b : Gw.Offer) (n : Int) (m : Nat) (i : ILU0_m_0) : Snap := match i with
  | .c0 j => SNLU0_m_0 a b n m (vi (0 + (j : Int)))
  | .c1 j => SNLU0_m_0 a b n m (vi (m : Int))
def XLU0_m_0 (a : Gw.Offer) (b : Gw.Offer) (n : Int) (m : Nat) : Snap := ([.agg a.vs, .agg b.vs, vi (m : Int), .ptr 3 0, .ptr 4 0, .bool true, .ptr 12 0, .ptr 20 0, .bool true, .bool true, .bool false, vi n, vi ((n : Int).tmod 30), vi (wrapK .i64 (((n : Int).tmod 30) + 30)), vi (m : Int), .agg a.vs, .agg (fineO a).vs, .ptr 12 0, .agg b.vs, .agg (fineO b).vs, .ptr 20 0, .ptr 12 0, .bool false, .bool false, .ptr 20 0, .bool false, .bool false, .bool false, .ptr 12 0, .agg [vi 2, vi 0, .int .u32 2, .str []], vi 0, .bool false, .bool false], [some (.cells true (zsV .u8 kT0)), some (.cells true (zsV .u8 kT1)), some (.cells true (zsV .u8 kT2)), cF a.vs, cF b.vs, none, cF (fineO a).vs, none, none, none, none, none, cF [.int .u32 1, vi 0, vi (fineO a).baud, vi (fineO a).silent, vi (fineO a).win, vi (fineO a).size, vi (fineO a).wait, vi 1, .int .u32 2, vi 0, vi 1, vi 0, vi 0, vi 0, vi 0, vi 0, .nilp, vi 1, vi 0, vi 0, vi 0, vi 0, vi 0, vi 0, .bool false, .bool false, .bool false, .nils], none, cF (fineO b).vs, none, none, none, none, none, cF [.int .u32 2, vi 1, vi (fineO b).baud, vi (fineO b).silent, vi (fineO b).win, vi (fineO b).size, vi (fineO b).wait, vi 0, .int .u32 0, vi 0, vi 0, vi 0, vi 0, vi 0, vi 0, vi 0, .nilp, vi 0, vi 0, vi 0, vi 0, vi 0, vi 0, vi 0, .bool false, .bool false, .bool false, .nils], none, some (.cells false [vi 2, vi 0, .int .u32 2, .str []]), none, some (.cells false [vi 2, vi 0, .int .u32 2, .str []]), none, none, none, none, some (.cells false [vi 2, vi 0, .int .u32 2, .str []]), none, cF [vi 0, vi 1]])
def invLU0_m_0 (a : Gw.Offer) (b : Gw.Offer) (n : Int) (m : Nat) (i : ILU0_m_0) : Prop := match i with
  | .c0 j => j + 0 < m
  | .c1 j => j < 1
def muLU0_m_0 (a : Gw.Offer) (b : Gw.Offer) (n : Int) (m : Nat) (i : ILU0_m_0) : Nat := match i with
  | .c0 j => m + 1 - (0 + j)
  | .c1 j => m + 1 - (m + j)
def loopLU0_m_0 (a : Gw.Offer) (b : Gw.Offer) (n : Int) (m : Nat) : LoopD ILU0_m_0 where
  nt := 101
  fr := fun ex => match ex with | .normal => ⟨[0, 1, 2, 3, 4, 7, 8, 9, 10, 22, 23, 24, 25, 26, 27, 28, 29, 30, 31, 32, 33, 34, 35, 36, 37, 38, 39, 40, 41, 42, 43, 44, 45, 46], 32, []⟩ | .exit _ => ⟨[0, 1, 2, 3, 4, 7, 8, 9, 22, 23, 24, 25, 26, 27, 28, 29, 30, 31, 32, 33, 34, 35, 36, 37, 38, 39, 40, 41, 42, 43, 44, 45, 46], 32, []⟩ | .ret => ⟨[], 32, []⟩
  S := SSLU0_m_0 a b n m
  out := fun i => .ob (invLU0_m_0 a b n m i) (.leaf ((.exit 0), XLU0_m_0 a b n m))
  pick := fun _ => .c0 0
def lpLU0_m_0 : DC := (((loopsIn 0 (dOf 5).body)[0]?).getD (0, .skip)).2
def orcLU0_m_0 (a : Gw.Offer) (b : Gw.Offer) (n : Int) (m : Nat) (i : ILU0_m_0) : Orc := match i with
  | .c0 j => (fun k => match k with | 49 => some fun t h => (.bool true, h) | 51 => some fun t h => (vi (1 + (j : Int)), h) | _ => none)
  | .c1 j => (fun k => match k with | 49 => some fun t h => (.bool false, h) | _ => none)
def orcsLU0_m_0 (a : Gw.Offer) (b : Gw.Offer) (n : Int) (m : Nat) (i : ILU0_m_0) : Nat → Orc := match i with
  | .c0 j => (fun _ => noOrc)
  | .c1 j => (fun _ => noOrc)
def stsLU0_m_0 (i : ILU0_m_0) : Nat → List Nat := match i with
  | .c0 j => (fun k => match k with | 5 => [49, 59] | 16 => [15, 22, 31] | 35 => [8, 32] | _ => [])
  | .c1 j => (fun k => match k with | 5 => [49] | _ => [])
def stLU0_m_0 (i : ILU0_m_0) : List Nat := match i with
  | .c0 j => [49, 59]
  | .c1 j => [49]
def treeLU0_m_0_0 (a : Gw.Offer) (b : Gw.Offer) (n : Int) (m : Nat) (j : Nat) : DT (Ex × Snap) :=
  .ob (binV .lss (vi (0 + (j : Int))) (vi (m : Int)) = some (.bool true)) (
.ob (binV .add (vi (0 + (j : Int))) (vi 1) = some (vi (1 + (j : Int)))) (
.leaf (.normal, SNLU0_m_0 a b n m (vi (1 + (j : Int))))))
set_option maxRecDepth 1000000 in
theorem treeLU0_m_0_0_eq (a : Gw.Offer) (b : Gw.Offer) (n : Int) (m : Nat) (j : Nat) : rnd (orcsLU0_m_0 a b n m (.c0 j)) (stsLU0_m_0 (.c0 j)) (orcLU0_m_0 a b n m (.c0 j)) (stLU0_m_0 (.c0 j)) noLt 0 lpLU0_m_0 ((loopLU0_m_0 a b n m).t0 (.c0 j)) [] ((loopLU0_m_0 a b n m).h0 (.c0 j)) (loopLU0_m_0 a b n m).end_ = treeLU0_m_0_0 a b n m j := by kernel_rfl
def treeLU0_m_0_1 (a : Gw.Offer) (b : Gw.Offer) (n : Int) (m : Nat) (j : Nat) : DT (Ex × Snap) :=
  .ob (binV .lss (vi (m : Int)) (vi (m : Int)) = some (.bool false)) (
.leaf ((.exit 0), XLU0_m_0 a b n m))
set_option maxRecDepth 1000000 in
theorem treeLU0_m_0_1_eq (a : Gw.Offer) (b : Gw.Offer) (n : Int) (m : Nat) (j : Nat) : rnd (orcsLU0_m_0 a b n m (.c1 j)) (stsLU0_m_0 (.c1 j)) (orcLU0_m_0 a b n m (.c1 j)) (stLU0_m_0 (.c1 j)) noLt 0 lpLU0_m_0 ((loopLU0_m_0 a b n m).t0 (.c1 j)) [] ((loopLU0_m_0 a b n m).h0 (.c1 j)) (loopLU0_m_0 a b n m).end_ = treeLU0_m_0_1 a b n m j := by kernel_rfl
def treeLU0_m_0L (a : Gw.Offer) (b : Gw.Offer) (n : Int) (m : Nat) (i : ILU0_m_0) : DT (Ex × Snap) := match i with
  | .c0 j => treeLU0_m_0_0 a b n m j
  | .c1 j => treeLU0_m_0_1 a b n m j
theorem roundLU0_m_0 (a : Gw.Offer) (b : Gw.Offer) (n : Int) (m : Nat) (hm3 : 3 ≤ m) (hm30 : m < 30) (hn : (n.tmod 30 + 30).tmod 30 = (m : Int)) (hwa : loL (fineO a).wait = 0) (i : ILU0_m_0) (Pr : Ex × Snap → Prop) (h : ((loopLU0_m_0 a b n m).out i).sat Pr) : (treeLU0_m_0L a b n m i).sat ((loopLU0_m_0 a b n m).next (muLU0_m_0 a b n m) i Pr) := by
  match i with
  | .c0 j =>
    have hj : j + 0 < m := h.1
    have hX := h.2
    exact sat_ob (by simp [binV, binI]; try omega) (
sat_ob (by show some (V.int .i64 (wrapK .i64 ((0 + (j : Int)) + 1))) = _; rw [wrap_small (by omega), show ((0 + (j : Int)) + 1) = (1 + (j : Int)) by omega]) (
sat_leaf (if h2 : j + 1 + 0 < m then ⟨.c0 (j + 1), (by show SNLU0_m_0 a b n m (vi (1 + (j : Int))) = SNLU0_m_0 a b n m (vi (0 + ((j + 1 : Nat) : Int))); rw [show ((0 + ((j + 1 : Nat) : Int)) : Int) = (1 + (j : Int)) by omega]), (by show m + 1 - (0 + (j + 1)) < m + 1 - (0 + j); omega), ⟨(show (j + 1) + 0 < m by omega), hX⟩⟩ else by
    obtain rfl : m = j + 1 + 0 := by omega
    exact ⟨.c1 0, (by show SNLU0_m_0 a b n (j + 1 + 0) (vi (1 + (j : Int))) = SNLU0_m_0 a b n (j + 1 + 0) (vi ((j + 1 + 0 : Nat) : Int)); rw [show (((j + 1 + 0 : Nat) : Int) : Int) = (1 + (j : Int)) by omega]), (by show (j + 1 + 0) + 1 - ((j + 1 + 0) + 0) < (j + 1 + 0) + 1 - (0 + j); omega), ⟨(show 0 < 1 by omega), hX⟩⟩)))
  | .c1 j =>
    have hj : j < 1 := h.1
    have hX := h.2
    obtain rfl : j = 0 := by omega
    exact sat_ob (by simp [binV, binI]; try omega) (
sat_leaf (hX))
theorem ltLU0_m_0_ok (a : Gw.Offer) (b : Gw.Offer) (n : Int) (m : Nat) (hm3 : 3 ≤ m) (hm30 : m < 30) (hn : (n.tmod 30 + 30).tmod 30 = (m : Int)) (hwa : loL (fineO a).wait = 0) (hint : Nat → List Nat) : Lt1 Tryz.prog hint 3 (loopLU0_m_0 a b n m).lt lpLU0_m_0 :=
  LoopD.lt1c mixed (show TabX Tryz.prog noPX oxM from tabM) tabD (loopLU0_m_0 a b n m) (muLU0_m_0 a b n m) (fun ex => match ex with | .normal => ⟨show 3 ≤ 32 by decide, show 3 ≤ 32 by decide⟩ | .exit _ => ⟨show 3 ≤ 32 by decide, show 3 ≤ 32 by decide⟩ | .ret => ⟨show 3 ≤ 32 by decide, show 3 ≤ 32 by decide⟩) (orcs := orcsLU0_m_0 a b n m) (sts := stsLU0_m_0) (orc := orcLU0_m_0 a b n m) (st := stLU0_m_0) (tree := treeLU0_m_0L a b n m)
    (fun i => match i with
    | .c0 j => treeLU0_m_0_0_eq a b n m j
    | .c1 j => treeLU0_m_0_1_eq a b n m j) (roundLU0_m_0 a b n m hm3 hm30 hn hwa)
inductive ILU0_m_1
  | c0 (j : Nat)
  | c1 (j : Nat)
def RWLU0_m_1 (a : Gw.Offer) (b : Gw.Offer) (n : Int) (m : Nat) (w0 : V) (w1 : V) : List (Option Blk) := [some (.cells true (zsV .u8 kT0)), some (.cells true (zsV .u8 kT1)), some (.cells true (zsV .u8 kT2)), cF a.vs, cF b.vs, none, cF (fineO a).vs, none, none, none, none, none, cF [.int .u32 1, vi 0, vi (fineO a).baud, vi (fineO a).silent, vi (fineO a).win, vi (fineO a).size, vi (fineO a).wait, vi 1, .int .u32 2, vi 0, vi 1, vi 0, vi 0, vi 0, vi 0, vi 0, .nilp, vi 1, vi 0, vi 0, vi 1, vi 70, vi 0, vi 0, .bool false, .bool false, .bool false, .nils], none, cF (fineO b).vs, none, none, none, none, none, cF [.int .u32 2, vi 1, vi (fineO b).baud, vi (fineO b).silent, vi (fineO b).win, vi (fineO b).size, vi (fineO b).wait, vi 2, .int .u32 1, vi 0, vi 1, vi (dealL (fineO b) (fineO a)).baud, vi 200, vi (dealL (fineO b) (fineO a)).win, vi (dealL (fineO b) (fineO a)).size, vi 0, .ptr 162 0, vi 0, vi 0, vi 0, vi 0, vi 0, vi 0, w1, .bool false, .bool false, .bool false, .slice 190 0 1 9 (some 1)], none, some (.cells false [vi 2, vi 0, .int .u32 2, .str []]), none, some (.cells false [vi 2, vi 0, .int .u32 2, .str []]), none, none, none, none, some (.cells false [vi 2, vi 0, .int .u32 2, .str []]), none, cF [vi 0, vi 1], none, none, none, none, none, none, cF [vi 127, vi 255, .bool true, vi 3, vi 2, vi 0, vi 0, .bool true, .str (setupStr ⟨1, 2, 0, 1, (fineO a)⟩)], none, none, cF [vi 0, vi 1], cF [vi 127, vi 255, .bool true, vi 3, vi 2, vi 0, vi 0, .bool true, .str (setupStr ⟨1, 2, 0, 1, (fineO a)⟩)], cF [vi 127, vi 255], cF [vi 127, vi 255], cF [vi 127, vi 255, .bool true, vi 3, vi 2, vi 0, vi 0, .bool true, .str (setupStr ⟨1, 2, 0, 1, (fineO a)⟩)], cF [vi 127, vi 255, .bool true, vi 3, vi 2, vi 0, vi 0, .bool true, .str (setupStr ⟨1, 2, 0, 1, (fineO a)⟩)], none, none, none, none, none, none, some (.cells false [vi 127, vi 255, .bool true, .iface 117 (.agg [vi 2, .bool true]), .str (setupStr ⟨1, 2, 0, 1, (fineO a)⟩)]), none, none, cF [vi 127, vi 255, .bool true, vi 3, vi 2, vi 0, vi 0, .bool true, .str (setupStr ⟨1, 2, 0, 1, (fineO a)⟩)], some (.cells false [vi 127, vi 255, .bool true, .iface 117 (.agg [vi 2, .bool true]), .str (setupStr ⟨1, 2, 0, 1, (fineO a)⟩)]), none, none, none, none, none, none, none, none, some (.cells false [vi 127, vi 255, .bool true, .iface 117 (.agg [vi 2, .bool true]), .str (setupStr ⟨1, 2, 0, 1, (fineO a)⟩)]), none, some (.cells false [vi 127, vi 255, .bool true, .iface 117 (.agg [vi 2, .bool true]), .str (setupStr ⟨1, 2, 0, 1, (fineO a)⟩)]), none, none, none, none, none, none, none, cF [vi 0, vi 0, .bool false], none, none, none, none, cF [vi 127, vi 255], none, cF [vi 2, .bool true], none, some (.cells false [vi 127, vi 255, .bool true, .iface 117 (.agg [vi 2, .bool true]), .str (setupStr ⟨1, 2, 0, 1, (fineO a)⟩)]), cF [vi 127, vi 255, .bool true, vi 3, vi 2, vi 0, vi 0, .bool true, .str (setupStr ⟨1, 2, 0, 1, (fineO a)⟩)], some (.cells false [vi 127, vi 255, .bool true, .iface 117 (.agg [vi 2, .bool true]), .str (setupStr ⟨1, 2, 0, 1, (fineO a)⟩)]), none, none, none, none, none, none, none, cF [vi 0, vi 0, .bool false], none, none, none, none, cF [vi 127, vi 255], none, cF [vi 2, .bool true], none, none, none, none, none, none, none, none, none, none, none, cF [vi 127, vi 255, .bool true, vi 3, vi 2, vi 0, vi 0, .bool true, .str (setupStr ⟨1, 2, 0, 1, (fineO a)⟩)], none, cF [vi 2, .bool true], none, cF [vi 2, .bool true], none, cF [vi 127, vi 255], none, none, none, none, none, none, cF [.int .u32 1, .int .u32 2, vi 0, vi 1, vi (fineO a).baud, vi (fineO a).silent, vi (fineO a).win, vi (fineO a).size, vi (fineO a).wait], none, none, none, none, none, none, none, none, none, none, none, none, cF (dv b a 0), none, none, cF [.int .u32 1, .int .u32 2, vi 0, vi 1, vi (fineO a).baud, vi (fineO a).silent, vi (fineO a).win, vi (fineO a).size, vi (fineO a).wait], cF (dv b a 0), none, cF [vi 0, vi 1], cF (dv b a 0), none, cF (dv b a 0), none, none, none, none, none, none, none, none, none, none, none, none, cF [vi 2, vi (if (64 : Int) < (dealL (fineO b) (fineO a)).size then 64 else (dealL (fineO b) (fineO a)).size), .ptr 168 0, .ptr 171 0, .bool false], none, none, none, none, none, cF [vi (if (7 : Int) < (if (1 : Int) > (dealL (fineO b) (fineO a)).win then 1 else (dealL (fineO b) (fineO a)).win) then 7 else (if (1 : Int) > (dealL (fineO b) (fineO a)).win then 1 else (dealL (fineO b) (fineO a)).win)), .nils, vi 0, vi 0], none, none, cF [vi 0, .bool false], none, none, none, none, none, none, none, some (.cells false [vi 2, .int .u32 1, .str [], .nils]), none, cF [vi 0, vi 1], cF [vi 127, vi 255, .bool false, vi 3, vi 3, vi 0, vi 0, .bool true, .str (setupStr ⟨2, 1, 0, 1, (fineO b)⟩)], cF [vi 127, vi 255], cF [vi 127, vi 255], cF [vi 127, vi 255, .bool false, vi 3, vi 3, vi 0, vi 0, .bool true, .str (setupStr ⟨2, 1, 0, 1, (fineO b)⟩)], cF [vi 127, vi 255, .bool false, vi 3, vi 3, vi 0, vi 0, .bool true, .str (setupStr ⟨2, 1, 0, 1, (fineO b)⟩)], none, none, none, cF [vi 127, vi 255, .bool false, vi 3, vi 3, vi 0, vi 0, .bool true, .str (setupStr ⟨2, 1, 0, 1, (fineO b)⟩)], none, none, none, none, none, none, none, none, none, none, none]
def SNLU0_m_1 (a : Gw.Offer) (b : Gw.Offer) (n : Int) (m : Nat) (w0 : V) (w1 : V) : Snap := ([.agg a.vs, .agg b.vs, vi (m : Int), .ptr 3 0, .ptr 4 0, .bool true, .ptr 12 0, .ptr 20 0, .slice 38 0 1 9 (some 1), w0, .bool true, .bool true, .bool false, vi n, vi ((n : Int).tmod 30), vi (wrapK .i64 (((n : Int).tmod 30) + 30)), vi (m : Int), .agg a.vs, .agg (fineO a).vs, .ptr 12 0, .agg b.vs, .agg (fineO b).vs, .ptr 20 0, .ptr 12 0, .bool false, .bool false, .ptr 20 0, .bool false, .bool false, .bool false, .ptr 12 0, .agg [vi 2, vi 0, .int .u32 2, .str []], vi 0, .bool false, .bool false, .tup [.slice 38 0 1 9 (some 1), .nils], .ptr 12 0, .tup [.slice 38 0 1 9 (some 1), .nils], .slice 38 0 1 9 (some 1), .nils, .slice 38 0 1 9 (some 1), vi 1, .bool false, .ptr 20 0, .slice 38 0 1 9 (some 1), .ptr 38 0, .agg [vi 127, vi 255, .bool true, vi 3, vi 2, vi 0, vi 0, .bool true, .str (setupStr ⟨1, 2, 0, 1, (fineO a)⟩)]], RWLU0_m_1 a b n m w0 w1)
def SSLU0_m_1 (a : Gw.Offer) (b : Gw.Offer) (n : Int) (m : Nat) (i : ILU0_m_1) : Snap := match i with
  | .c0 j => SNLU0_m_1 a b n m (vi (0 + (j : Int))) (vi (0 + (j : Int)))
  | .c1 j => SNLU0_m_1 a b n m (vi (m : Int)) (vi (m : Int))
def XLU0_m_1 (a : Gw.Offer) (b : Gw.Offer) (n : Int) (m : Nat) : Snap := ([.agg a.vs, .agg b.vs, vi (m : Int), .ptr 3 0, .ptr 4 0, .bool true, .ptr 12 0, .ptr 20 0, .slice 38 0 1 9 (some 1), .bool true, .bool true, .bool false, vi n, vi ((n : Int).tmod 30), vi (wrapK .i64 (((n : Int).tmod 30) + 30)), vi (m : Int), .agg a.vs, .agg (fineO a).vs, .ptr 12 0, .agg b.vs, .agg (fineO b).vs, .ptr 20 0, .ptr 12 0, .bool false, .bool false, .ptr 20 0, .bool false, .bool false, .bool false, .ptr 12 0, .agg [vi 2, vi 0, .int .u32 2, .str []], vi 0, .bool false, .bool false, .tup [.slice 38 0 1 9 (some 1), .nils], .ptr 12 0, .tup [.slice 38 0 1 9 (some 1), .nils], .slice 38 0 1 9 (some 1), .nils, .slice 38 0 1 9 (some 1), vi 1, .bool false, .ptr 20 0, .slice 38 0 1 9 (some 1), .ptr 38 0, .agg [vi 127, vi 255, .bool true, vi 3, vi 2, vi 0, vi 0, .bool true, .str (setupStr ⟨1, 2, 0, 1, (fineO a)⟩)]], [some (.cells true (zsV .u8 kT0)), some (.cells true (zsV .u8 kT1)), some (.cells true (zsV .u8 kT2)), cF a.vs, cF b.vs, none, cF (fineO a).vs, none, none, none, none, none, cF [.int .u32 1, vi 0, vi (fineO a).baud, vi (fineO a).silent, vi (fineO a).win, vi (fineO a).size, vi (fineO a).wait, vi 1, .int .u32 2, vi 0, vi 1, vi 0, vi 0, vi 0, vi 0, vi 0, .nilp, vi 1, vi 0, vi 0, vi 1, vi 70, vi 0, vi 0, .bool false, .bool false, .bool false, .nils], none, cF (fineO b).vs, none, none, none, none, none, cF [.int .u32 2, vi 1, vi (fineO b).baud, vi (fineO b).silent, vi (fineO b).win, vi (fineO b).size, vi (fineO b).wait, vi 2, .int .u32 1, vi 0, vi 1, vi (dealL (fineO b) (fineO a)).baud, vi 200, vi (dealL (fineO b) (fineO a)).win, vi (dealL (fineO b) (fineO a)).size, vi 0, .ptr 162 0, vi 0, vi 0, vi 0, vi 0, vi 0, vi 0, vi (m : Int), .bool false, .bool false, .bool false, .slice 190 0 1 9 (some 1)], none, some (.cells false [vi 2, vi 0, .int .u32 2, .str []]), none, some (.cells false [vi 2, vi 0, .int .u32 2, .str []]), none, none, none, none, some (.cells false [vi 2, vi 0, .int .u32 2, .str []]), none, cF [vi 0, vi 1], none, none, none, none, none, none, cF [vi 127, vi 255, .bool true, vi 3, vi 2, vi 0, vi 0, .bool true, .str (setupStr ⟨1, 2, 0, 1, (fineO a)⟩)], none, none, cF [vi 0, vi 1], cF [vi 127, vi 255, .bool true, vi 3, vi 2, vi 0, vi 0, .bool true, .str (setupStr ⟨1, 2, 0, 1, (fineO a)⟩)], cF [vi 127, vi 255], cF [vi 127, vi 255], cF [vi 127, vi 255, .bool true, vi 3, vi 2, vi 0, vi 0, .bool true, .str (setupStr ⟨1, 2, 0, 1, (fineO a)⟩)], cF [vi 127, vi 255, .bool true, vi 3, vi 2, vi 0, vi 0, .bool true, .str (setupStr ⟨1, 2, 0, 1, (fineO a)⟩)], none, none, none, none, none, none, some (.cells false [vi 127, vi 255, .bool true, .iface 117 (.agg [vi 2, .bool true]), .str (setupStr ⟨1, 2, 0, 1, (fineO a)⟩)]), none, none, cF [vi 127, vi 255, .bool true, vi 3, vi 2, vi 0, vi 0, .bool true, .str (setupStr ⟨1, 2, 0, 1, (fineO a)⟩)], some (.cells false [vi 127, vi 255, .bool true, .iface 117 (.agg [vi 2, .bool true]), .str (setupStr ⟨1, 2, 0, 1, (fineO a)⟩)]), none, none, none, none, none, none, none, none, some (.cells false [vi 127, vi 255, .bool true, .iface 117 (.agg [vi 2, .bool true]), .str (setupStr ⟨1, 2, 0, 1, (fineO a)⟩)]), none, some (.cells false [vi 127, vi 255, .bool true, .iface 117 (.agg [vi 2, .bool true]), .str (setupStr ⟨1, 2, 0, 1, (fineO a)⟩)]), none, none, none, none, none, none, none, cF [vi 0, vi 0, .bool false], none, none, none, none, cF [vi 127, vi 255], none, cF [vi 2, .bool true], none, some (.cells false [vi 127, vi 255, .bool true, .iface 117 (.agg [vi 2, .bool true]), .str (setupStr ⟨1, 2, 0, 1, (fineO a)⟩)]), cF [vi 127, vi 255, .bool true, vi 3, vi 2, vi 0, vi 0, .bool true, .str (setupStr ⟨1, 2, 0, 1, (fineO a)⟩)], some (.cells false [vi 127, vi 255, .bool true, .iface 117 (.agg [vi 2, .bool true]), .str (setupStr ⟨1, 2, 0, 1, (fineO a)⟩)]), none, none, none, none, none, none, none, cF [vi 0, vi 0, .bool false], none, none, none, none, cF [vi 127, vi 255], none, cF [vi 2, .bool true], none, none, none, none, none, none, none, none, none, none, none, cF [vi 127, vi 255, .bool true, vi 3, vi 2, vi 0, vi 0, .bool true, .str (setupStr ⟨1, 2, 0, 1, (fineO a)⟩)], none, cF [vi 2, .bool true], none, cF [vi 2, .bool true], none, cF [vi 127, vi 255], none, none, none, none, none, none, cF [.int .u32 1, .int .u32 2, vi 0, vi 1, vi (fineO a).baud, vi (fineO a).silent, vi (fineO a).win, vi (fineO a).size, vi (fineO a).wait], none, none, none, none, none, none, none, none, none, none, none, none, cF (dv b a 0), none, none, cF [.int .u32 1, .int .u32 2, vi 0, vi 1, vi (fineO a).baud, vi (fineO a).silent, vi (fineO a).win, vi (fineO a).size, vi (fineO a).wait], cF (dv b a 0), none, cF [vi 0, vi 1], cF (dv b a 0), none, cF (dv b a 0), none, none, none, none, none, none, none, none, none, none, none, none, cF [vi 2, vi (if (64 : Int) < (dealL (fineO b) (fineO a)).size then 64 else (dealL (fineO b) (fineO a)).size), .ptr 168 0, .ptr 171 0, .bool false], none, none, none, none, none, cF [vi (if (7 : Int) < (if (1 : Int) > (dealL (fineO b) (fineO a)).win then 1 else (dealL (fineO b) (fineO a)).win) then 7 else (if (1 : Int) > (dealL (fineO b) (fineO a)).win then 1 else (dealL (fineO b) (fineO a)).win)), .nils, vi 0, vi 0], none, none, cF [vi 0, .bool false], none, none, none, none, none, none, none, some (.cells false [vi 2, .int .u32 1, .str [], .nils]), none, cF [vi 0, vi 1], cF [vi 127, vi 255, .bool false, vi 3, vi 3, vi 0, vi 0, .bool true, .str (setupStr ⟨2, 1, 0, 1, (fineO b)⟩)], cF [vi 127, vi 255], cF [vi 127, vi 255], cF [vi 127, vi 255, .bool false, vi 3, vi 3, vi 0, vi 0, .bool true, .str (setupStr ⟨2, 1, 0, 1, (fineO b)⟩)], cF [vi 127, vi 255, .bool false, vi 3, vi 3, vi 0, vi 0, .bool true, .str (setupStr ⟨2, 1, 0, 1, (fineO b)⟩)], none, none, none, cF [vi 127, vi 255, .bool false, vi 3, vi 3, vi 0, vi 0, .bool true, .str (setupStr ⟨2, 1, 0, 1, (fineO b)⟩)], none, none, none, none, none, none, none, none, none, none, none])
def invLU0_m_1 (a : Gw.Offer) (b : Gw.Offer) (n : Int) (m : Nat) (i : ILU0_m_1) : Prop := match i with
  | .c0 j => j + 0 < m
  | .c1 j => j < 1
def muLU0_m_1 (a : Gw.Offer) (b : Gw.Offer) (n : Int) (m : Nat) (i : ILU0_m_1) : Nat := match i with
  | .c0 j => m + 1 - (0 + j)
  | .c1 j => m + 1 - (m + j)
def loopLU0_m_1 (a : Gw.Offer) (b : Gw.Offer) (n : Int) (m : Nat) : LoopD ILU0_m_1 where
  nt := 101
  fr := fun ex => match ex with | .normal => ⟨[0, 1, 2, 3, 4, 7, 8, 9, 13, 15, 22, 23, 24, 25, 26, 27, 28, 29, 30, 31, 32, 33, 34, 35, 36, 37, 38, 39, 40, 41, 42, 43, 44, 45, 46, 60, 61, 62, 63, 64, 65, 66, 67, 68, 69, 70, 71], 202, []⟩ | .exit _ => ⟨[0, 1, 2, 3, 4, 7, 8, 9, 13, 22, 23, 24, 25, 26, 27, 28, 29, 30, 31, 32, 33, 34, 35, 36, 37, 38, 39, 40, 41, 42, 43, 44, 45, 46, 60, 61, 62, 63, 64, 65, 66, 67, 68, 69, 70, 71], 202, []⟩ | .ret => ⟨[], 202, []⟩
  S := SSLU0_m_1 a b n m
  out := fun i => .ob (invLU0_m_1 a b n m i) (.leaf ((.exit 2), XLU0_m_1 a b n m))
  pick := fun _ => .c0 0
def lpLU0_m_1 : DC := (((loopsIn 0 (dOf 5).body)[1]?).getD (0, .skip)).2
def orcLU0_m_1 (a : Gw.Offer) (b : Gw.Offer) (n : Int) (m : Nat) (i : ILU0_m_1) : Orc := match i with
  | .c0 j => (fun k => match k with | 75 => some fun t h => (.bool true, h) | 77 => some fun t h => (vi (1 + (j : Int)), h) | _ => none)
  | .c1 j => (fun k => match k with | 75 => some fun t h => (.bool false, h) | _ => none)
def orcsLU0_m_1 (a : Gw.Offer) (b : Gw.Offer) (n : Int) (m : Nat) (i : ILU0_m_1) : Nat → Orc := match i with
  | .c0 j => (fun g => match g with | 35 => (fun k => match k with | 13 => some fun t h => (vi (1 + (j : Int)), h) | 25 => some fun t h => (.bool false, h) | _ => none) | _ => noOrc)
  | .c1 j => (fun _ => noOrc)
def stsLU0_m_1 (i : ILU0_m_1) : Nat → List Nat := match i with
  | .c0 j => (fun k => match k with | 5 => [75, 85] | 16 => [15, 22, 31] | 35 => [8, 25, 32] | _ => [])
  | .c1 j => (fun k => match k with | 5 => [75] | _ => [])
def stLU0_m_1 (i : ILU0_m_1) : List Nat := match i with
  | .c0 j => [75, 85]
  | .c1 j => [75]
def treeLU0_m_1_0 (a : Gw.Offer) (b : Gw.Offer) (n : Int) (m : Nat) (j : Nat) : DT (Ex × Snap) :=
  .ob (binV .lss (vi (0 + (j : Int))) (vi (m : Int)) = some (.bool true)) (
.ob (binV .add (vi (0 + (j : Int))) (vi 1) = some (vi (1 + (j : Int)))) (
.ob (binV .geq (vi (1 + (j : Int))) (vi 200) = some (.bool false)) (
.ob (binV .add (vi (0 + (j : Int))) (vi 1) = some (vi (1 + (j : Int)))) (
.leaf (.normal, SNLU0_m_1 a b n m (vi (1 + (j : Int))) (vi (1 + (j : Int))))))))
set_option maxRecDepth 1000000 in
theorem treeLU0_m_1_0_eq (a : Gw.Offer) (b : Gw.Offer) (n : Int) (m : Nat) (j : Nat) : rnd (orcsLU0_m_1 a b n m (.c0 j)) (stsLU0_m_1 (.c0 j)) (orcLU0_m_1 a b n m (.c0 j)) (stLU0_m_1 (.c0 j)) noLt 2 lpLU0_m_1 ((loopLU0_m_1 a b n m).t0 (.c0 j)) [] ((loopLU0_m_1 a b n m).h0 (.c0 j)) (loopLU0_m_1 a b n m).end_ = treeLU0_m_1_0 a b n m j := by kernel_rfl
def treeLU0_m_1_1 (a : Gw.Offer) (b : Gw.Offer) (n : Int) (m : Nat) (j : Nat) : DT (Ex × Snap) :=
  .ob (binV .lss (vi (m : Int)) (vi (m : Int)) = some (.bool false)) (
.leaf ((.exit 2), XLU0_m_1 a b n m))
set_option maxRecDepth 1000000 in
theorem treeLU0_m_1_1_eq (a : Gw.Offer) (b : Gw.Offer) (n : Int) (m : Nat) (j : Nat) : rnd (orcsLU0_m_1 a b n m (.c1 j)) (stsLU0_m_1 (.c1 j)) (orcLU0_m_1 a b n m (.c1 j)) (stLU0_m_1 (.c1 j)) noLt 2 lpLU0_m_1 ((loopLU0_m_1 a b n m).t0 (.c1 j)) [] ((loopLU0_m_1 a b n m).h0 (.c1 j)) (loopLU0_m_1 a b n m).end_ = treeLU0_m_1_1 a b n m j := by kernel_rfl
def treeLU0_m_1L (a : Gw.Offer) (b : Gw.Offer) (n : Int) (m : Nat) (i : ILU0_m_1) : DT (Ex × Snap) := match i with
  | .c0 j => treeLU0_m_1_0 a b n m j
  | .c1 j => treeLU0_m_1_1 a b n m j
theorem roundLU0_m_1 (a : Gw.Offer) (b : Gw.Offer) (n : Int) (m : Nat) (hm3 : 3 ≤ m) (hm30 : m < 30) (hn : (n.tmod 30 + 30).tmod 30 = (m : Int)) (hwa : loL (fineO a).wait = 0) (i : ILU0_m_1) (Pr : Ex × Snap → Prop) (h : ((loopLU0_m_1 a b n m).out i).sat Pr) : (treeLU0_m_1L a b n m i).sat ((loopLU0_m_1 a b n m).next (muLU0_m_1 a b n m) i Pr) := by
  match i with
  | .c0 j =>
    have hj : j + 0 < m := h.1
    have hX := h.2
    exact sat_ob (by simp [binV, binI]; try omega) (
sat_ob (by show some (V.int .i64 (wrapK .i64 ((0 + (j : Int)) + 1))) = _; rw [wrap_small (by omega), show ((0 + (j : Int)) + 1) = (1 + (j : Int)) by omega]) (
sat_ob (by simp [binV, binI]; try omega) (
sat_ob (by show some (V.int .i64 (wrapK .i64 ((0 + (j : Int)) + 1))) = _; rw [wrap_small (by omega), show ((0 + (j : Int)) + 1) = (1 + (j : Int)) by omega]) (
sat_leaf (if h2 : j + 1 + 0 < m then ⟨.c0 (j + 1), (by show SNLU0_m_1 a b n m (vi (1 + (j : Int))) (vi (1 + (j : Int))) = SNLU0_m_1 a b n m (vi (0 + ((j + 1 : Nat) : Int))) (vi (0 + ((j + 1 : Nat) : Int))); rw [show ((0 + ((j + 1 : Nat) : Int)) : Int) = (1 + (j : Int)) by omega]), (by show m + 1 - (0 + (j + 1)) < m + 1 - (0 + j); omega), ⟨(show (j + 1) + 0 < m by omega), hX⟩⟩ else by
    obtain rfl : m = j + 1 + 0 := by omega
    exact ⟨.c1 0, (by show SNLU0_m_1 a b n (j + 1 + 0) (vi (1 + (j : Int))) (vi (1 + (j : Int))) = SNLU0_m_1 a b n (j + 1 + 0) (vi ((j + 1 + 0 : Nat) : Int)) (vi ((j + 1 + 0 : Nat) : Int)); rw [show (((j + 1 + 0 : Nat) : Int) : Int) = (1 + (j : Int)) by omega]), (by show (j + 1 + 0) + 1 - ((j + 1 + 0) + 0) < (j + 1 + 0) + 1 - (0 + j); omega), ⟨(show 0 < 1 by omega), hX⟩⟩)))))
  | .c1 j =>
    have hj : j < 1 := h.1
    have hX := h.2
    obtain rfl : j = 0 := by omega
    exact sat_ob (by simp [binV, binI]; try omega) (
sat_leaf (hX))
theorem ltLU0_m_1_ok (a : Gw.Offer) (b : Gw.Offer) (n : Int) (m : Nat) (hm3 : 3 ≤ m) (hm30 : m < 30) (hn : (n.tmod 30 + 30).tmod 30 = (m : Int)) (hwa : loL (fineO a).wait = 0) (hint : Nat → List Nat) : Lt1 Tryz.prog hint 3 (loopLU0_m_1 a b n m).lt lpLU0_m_1 :=
  LoopD.lt1c mixed (show TabX Tryz.prog noPX oxM from tabM) tabD (loopLU0_m_1 a b n m) (muLU0_m_1 a b n m) (fun ex => match ex with | .normal => ⟨show 3 ≤ 202 by decide, show 3 ≤ 202 by decide⟩ | .exit _ => ⟨show 3 ≤ 202 by decide, show 3 ≤ 202 by decide⟩ | .ret => ⟨show 3 ≤ 202 by decide, show 3 ≤ 202 by decide⟩) (orcs := orcsLU0_m_1 a b n m) (sts := stsLU0_m_1) (orc := orcLU0_m_1 a b n m) (st := stLU0_m_1) (tree := treeLU0_m_1L a b n m)
    (fun i => match i with
    | .c0 j => treeLU0_m_1_0_eq a b n m j
    | .c1 j => treeLU0_m_1_1_eq a b n m j) (roundLU0_m_1 a b n m hm3 hm30 hn hwa)
def ltLU0_m (a : Gw.Offer) (b : Gw.Offer) (n : Int) (m : Nat) : Lt := (fun k => match k with | 0 => (loopLU0_m_0 a b n m).lt | 2 => (loopLU0_m_1 a b n m).lt | _ => fun _ _ => .fail)
def oxLU0_m (a : Gw.Offer) (b : Gw.Offer) (n : Int) (m : Nat) : OTab := (consT 46 (gD dGet pGet (fun n => match n with | 130 => some (.tup [.agg [.int .u32 1, .int .u32 2, vi 0, vi 1, vi (fineO a).baud, vi (fineO a).silent, vi (fineO a).win, vi (fineO a).size, vi (fineO a).wait], .bool true]) | _ => none)) (consT 70 (gD dPut pPut noV) (consT 47 (gDT kT0 kT1 kT2 dDeal pDeal (fun n => match n with | 143 => some (.tup [.agg (dv b a 0), .bool true]) | _ => none)) (consT 43 (gD dOff pMayQ (fun n => match n with | 8 => some (.bool true) | 16 => some (.bool true) | _ => none)) (consT 10 (gD dOff pFine noV) (consO 9 (gTrue kT0 kT1 kT2) noOX))))))
def treeLU0_m (a : Gw.Offer) (b : Gw.Offer) (n : Int) (m : Nat) : DT V :=
  .ob (IntKind.i64 = IntKind.i64 ∧ (30 : Int) ≠ 0) (
.ob (binV .rem (vi (wrapK .i64 (((n : Int).tmod 30) + 30))) (vi 30) = some (vi (m : Int))) (
.ob (dOff [.agg a.vs]) (
.ob (((V.beq (.agg b.vs) (.agg b.vs)) && true) = true) (
.ob (dOff [.agg (fineO a).vs]) (
.ob (pMayQ [.agg (fineO a).vs] = (.bool true)) (
.ob (((V.beq (.agg b.vs) (.agg b.vs)) && true) = true) (
.ob (dOff [.agg b.vs]) (
.ob (dOff [.agg (fineO b).vs]) (
.ob (pMayQ [.agg (fineO b).vs] = (.bool true)) (
.ob (True) (
.ob (IntKind.i64 = IntKind.i64 ∧ (250 : Int) ≠ 0) (
.ob (((V.beq (.int .u32 2) (.int .u32 2)) && true) = true) (
.ob (((V.beq (.int .u32 2) (.int .u32 2)) && true) = true) (
.ob ((SNLU0_m_0 a b n m (vi 0) : Snap) = (loopLU0_m_0 a b n m).S (.c0 0)) (
.ob (invLU0_m_0 a b n m (.c0 0)) (
.ob (dPut [.agg [.int .u32 1, .int .u32 2, vi 0, vi 1, vi (fineO a).baud, vi (fineO a).silent, vi (fineO a).win, vi (fineO a).size, vi (fineO a).wait]]) (
.ob (9 = 9 ∧ 0 ≤ (0 : Int) ∧ (0 : Int) < ((1 : Nat) : Int)) (
.ob (Gw.lenStr (.str (setupStr ⟨1, 2, 0, 1, (fineO a)⟩)) = some (vi 25)) (
.ob (Gw.lenStr (.str (setupStr ⟨1, 2, 0, 1, (fineO a)⟩)) = some (vi 25)) (
.ob (((V.beq (.str (setupStr ⟨1, 2, 0, 1, (fineO a)⟩)) (.str (setupStr ⟨1, 2, 0, 1, (fineO a)⟩))) && ((V.beq (.bool true) (.bool true)) && ((V.beq (.agg [vi 127, vi 255]) (.agg [vi 127, vi 255])) && true))) = true) (
.ob (((V.beq (vi 2) (vi 2)) && true) = true) (
.ob (((V.beq (.agg [vi 127, vi 255, .bool true, vi 3, vi 2, vi 0, vi 0, .bool true, .str (setupStr ⟨1, 2, 0, 1, (fineO a)⟩)]) (.agg [vi 127, vi 255, .bool true, vi 3, vi 2, vi 0, vi 0, .bool true, .str (setupStr ⟨1, 2, 0, 1, (fineO a)⟩)])) && true) = true) (
.ob (((eqV (.agg [.i, .i, .b, .i, .i, .i, .i, .b, .s]) (.agg [vi 127, vi 255, .bool true, vi 3, vi 2, vi 0, vi 0, .bool true, .str (setupStr ⟨1, 2, 0, 1, (fineO a)⟩)]) (.agg [vi 127, vi 255, .bool true, vi 3, vi 2, vi 0, vi 0, .bool true, .str (setupStr ⟨1, 2, 0, 1, (fineO a)⟩)])).map fun b => V.bool (if true then !b else b)) = some (.bool false)) (
.ob (((V.beq (.agg [vi 127, vi 255]) (.agg [vi 127, vi 255])) && true) = true) (
.ob (True) (
.ob (dGet [.str (setupStr ⟨1, 2, 0, 1, (fineO a)⟩)]) (
.ob (pGet [.str (setupStr ⟨1, 2, 0, 1, (fineO a)⟩)] = (.tup [.agg [.int .u32 1, .int .u32 2, vi 0, vi 1, vi (fineO a).baud, vi (fineO a).silent, vi (fineO a).win, vi (fineO a).size, vi (fineO a).wait], .bool true])) (
.ob (dDeal [.agg (fineO b).vs, .agg (fineO a).vs]) (
.ob (pDeal [.agg (fineO b).vs, .agg (fineO a).vs] = (.tup [.agg (dv b a 0), .bool true])) (
.ob (((V.beq (vi (dealL (fineO b) (fineO a)).size) (vi (dealL (fineO b) (fineO a)).size)) && true) = true) (
.ob (((V.beq (vi (dealL (fineO b) (fineO a)).size) (vi (dealL (fineO b) (fineO a)).size)) && true) = true) (
.ob (((V.beq (.agg (dv b a 0)) (.agg (dv b a 0))) && ((V.beq (.agg [vi 0, vi 1]) (.agg [vi 0, vi 1])) && true)) = true) (
.ob (((V.beq (.agg (dv b a 0)) (.agg (dv b a 0))) && ((V.beq (.agg [vi 0, vi 1]) (.agg [vi 0, vi 1])) && true)) = true) (
.ob (((V.beq (.agg (dv b a 0)) (.agg (dv b a 0))) && ((V.beq (.agg [vi 0, vi 1]) (.agg [vi 0, vi 1])) && true)) = true) (
.ob (((V.beq (.agg (dv b a 0)) (.agg (dv b a 0))) && true) = true) (
.ob (((V.beq (vi 0) (vi 0)) && true) = true) (
.ob (((V.beq (vi 0) (vi 0)) && true) = true) (
.ob (((V.beq (vi 0) (vi 0)) && true) = true) (
.ob (dPut [.agg [.int .u32 2, .int .u32 1, vi 0, vi 1, vi (fineO b).baud, vi (fineO b).silent, vi (fineO b).win, vi (fineO b).size, vi (fineO b).wait]]) (
.ob ((SNLU0_m_1 a b n m (vi 0) (vi 0) : Snap) = (loopLU0_m_1 a b n m).S (.c0 0)) (
.ob (invLU0_m_1 a b n m (.c0 0)) (
.ob (binV .geq (vi (wrapK .i64 ((m : Int) + 1))) (vi 200) = some (.bool false)) (
.ob (binV .geq (vi (wrapK .i64 ((wrapK .i64 ((m : Int) + 1)) + 1))) (vi 200) = some (.bool false)) (
.ob (binV .geq (vi (wrapK .i64 ((wrapK .i64 ((wrapK .i64 ((m : Int) + 1)) + 1)) + 1))) (vi 200) = some (.bool false)) (
.ob (binV .geq (vi (wrapK .i64 ((wrapK .i64 ((wrapK .i64 ((wrapK .i64 ((m : Int) + 1)) + 1)) + 1)) + 1))) (vi 200) = some (.bool false)) (
.leaf (.bool true)))))))))))))))))))))))))))))))))))))))))))))))
set_option maxRecDepth 1000000 in
theorem treeLU0_m_eq (a : Gw.Offer) (b : Gw.Offer) (n : Int) (m : Nat) : funT (mkXT (noPX) (oxLU0_m a b n m)) (mkXP (noPX)) (mkX (noPX) (oxLU0_m a b n m)) D (fun g => match g with | 76 => (fun k => match k with | 38 => some fun t h => (match h.n with | 85 => (vi 25, h) | _ => (vi 25, h)) | _ => none) | 44 => (fun k => match k with | 52 => some fun t h => (.bool false, h) | _ => none) | 35 => (fun k => match k with | 25 => some fun t h => (.bool false, h) | _ => none) | _ => noOrc) (fun k => match k with | 5 => [22, 45, 67, 87, 100] | 12 => [10, 15, 20, 25, 30, 31, 37, 41, 50, 57] | 16 => [15, 22, 31, 52, 58, 74, 80] | 21 => [8, 11, 15, 19, 23] | 22 => [16, 25, 30, 36, 39, 57, 67, 82, 86, 99] | 31 => [10, 33, 40, 44, 49] | 35 => [8, 25, 32] | 37 => [28, 30] | 38 => [9] | 44 => [8, 15, 26, 37, 41, 46, 52] | 49 => [13] | 71 => [10] | 76 => [11, 16, 20, 25, 30, 34, 39] | 77 => [8, 14, 19, 24, 34, 44] | 104 => [6, 9, 20] | 129 => [8, 19, 30, 34, 38] | 130 => [8, 13, 18, 21] | _ => []) 12 (fun k => match k with | 28 => some fun t h => (vi (m : Int), h) | _ => none) [22, 45, 67, 87, 100] (ltLU0_m a b n m) (dOf 5) [.agg a.vs, .agg b.vs, vi n] (tabH kT0 kT1 kT2 3) (fun v _ => v) = treeLU0_m a b n m := by kernel_rfl
theorem satLU0_m (a : Gw.Offer) (b : Gw.Offer) (n : Int) (m : Nat) (hm3 : 3 ≤ m) (hm30 : m < 30) (hn : (n.tmod 30 + 30).tmod 30 = (m : Int)) (hwa : loL (fineO a).wait = 0) : (treeLU0_m a b n m).sat fun v => v = .bool true :=
 sat_ob (by decide) (
sat_ob (rem30 hn) (
sat_ob trivial (
sat_ob (by simp only [V.beq_refl, Bool.and_true]) (
sat_ob trivial (
sat_ob (may_of (mayO_fine a)) (
sat_ob (by simp only [V.beq_refl, Bool.and_true]) (
sat_ob trivial (
sat_ob trivial (
sat_ob (may_of (mayO_fine b)) (
sat_ob trivial (
sat_ob (by decide) (
sat_ob (by simp only [V.beq_refl, Bool.and_true]) (
sat_ob (by simp only [V.beq_refl, Bool.and_true]) (
sat_ob (by kernel_rfl) (
sat_ob (show 0 + 0 < m by omega) (
sat_ob (okSet 1 2 0 1 a (by decide) (by decide) (by decide) (by decide)) (
sat_ob (by decide) (
sat_ob rfl (
sat_ob rfl (
sat_ob (by simp only [V.beq_refl, Bool.and_true]) (
sat_ob (by simp only [V.beq_refl, Bool.and_true]) (
sat_ob (by simp only [V.beq_refl, Bool.and_true]) (
sat_ob (by simp [eqV, eqCells]) (
sat_ob (by simp only [V.beq_refl, Bool.and_true]) (
sat_ob trivial (
sat_ob ⟨⟨1, 2, 0, 1, (fineO a)⟩, (okSet 1 2 0 1 a (by decide) (by decide) (by decide) (by decide)), rfl⟩ (
sat_ob (get_put ⟨1, 2, 0, 1, (fineO a)⟩ (okSet 1 2 0 1 a (by decide) (by decide) (by decide) (by decide))) (
sat_ob ⟨(mayO_fine b), (mayO_fine a)⟩ (
sat_ob (by show V.tup [.agg [vi _, vi _, vi _, vi _, vi (loL (fineO a).wait)], .bool true] = _; rw [hwa]; rfl) (
sat_ob (by simp only [V.beq_refl, Bool.and_true]) (
sat_ob (by simp only [V.beq_refl, Bool.and_true]) (
sat_ob (by simp only [V.beq_refl, Bool.and_true]) (
sat_ob (by simp only [V.beq_refl, Bool.and_true]) (
sat_ob (by simp only [V.beq_refl, Bool.and_true]) (
sat_ob (by simp only [V.beq_refl, Bool.and_true]) (
sat_ob (by simp only [V.beq_refl, Bool.and_true]) (
sat_ob (by simp only [V.beq_refl, Bool.and_true]) (
sat_ob (by simp only [V.beq_refl, Bool.and_true]) (
sat_ob (okSet 2 1 0 1 b (by decide) (by decide) (by decide) (by decide)) (
sat_ob (by kernel_rfl) (
sat_ob (show 0 + 0 < m by omega) (
sat_ob (by simp (disch := omega) [binV, binI, wrap_small]; try omega) (
sat_ob (by simp (disch := omega) [binV, binI, wrap_small]; try omega) (
sat_ob (by simp (disch := omega) [binV, binI, wrap_small]; try omega) (
sat_ob (by simp (disch := omega) [binV, binI, wrap_small]; try omega) (
sat_leaf (rfl)))))))))))))))))))))))))))))))))))))))))))))))
def lpxLU0_m_2 : DC := (((loopsIn 0 (dOf 5).body)[2]?).getD (0, .skip)).2
theorem loopsLU0_m : loopsIn 0 (dOf 5).body = [(0, lpLU0_m_0), (2, lpLU0_m_1), (4, lpxLU0_m_2)] := by kernel_rfl
set_option maxRecDepth 1000000 in
theorem runLU0_m (a : Gw.Offer) (b : Gw.Offer) (n : Int) (m : Nat) (hm3 : 3 ≤ m) (hm30 : m < 30) (hn : (n.tmod 30 + 30).tmod 30 = (m : Int)) (hwa : loL (fineO a).wait = 0) : Run Tryz.prog 5 [.agg a.vs, .agg b.vs, vi n] (tabH kT0 kT1 kT2 3) fun v _ => v = .bool true := by
  refine run_loops mixed (show TabX Tryz.prog noPX (oxLU0_m a b n m) from ((((((TabX.nil.addO ans_begun).addT (ans_fine noV)).addT (ans_may (fun n => match n with | 8 => some (.bool true) | 16 => some (.bool true) | _ => none))).addT (ans_deal (fun n => match n with | 143 => some (.tup [.agg (dv b a 0), .bool true]) | _ => none))).addT (ans_put noV)).addT (ans_get (fun n => match n with | 130 => some (.tup [.agg [.int .u32 1, .int .u32 2, vi 0, vi 1, vi (fineO a).baud, vi (fineO a).silent, vi (fineO a).win, vi (fineO a).size, vi (fineO a).wait], .bool true]) | _ => none)))) tabD (dIs (by kernel_rfl)) (lt := ltLU0_m a b n m) (fun hint p hp => ?_) (treeLU0_m_eq a b n m) (satLU0_m a b n m hm3 hm30 hn hwa)
  rw [loopsLU0_m] at hp
  simp only [List.mem_cons, List.not_mem_nil, or_false] at hp
  rcases hp with rfl | rfl | rfl
  · exact ltLU0_m_0_ok a b n m hm3 hm30 hn hwa hint
  · exact ltLU0_m_1_ok a b n m hm3 hm30 hn hwa hint
  · exact lt1_no
end Go.Proofs.YtjcninlcdnkofaaGreatDoor
