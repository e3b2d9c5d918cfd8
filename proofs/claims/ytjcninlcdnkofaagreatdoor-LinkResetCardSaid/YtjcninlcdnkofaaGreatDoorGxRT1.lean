/- LinkReset: its trees. -/
import Derived.Test.YtjcninlcdnkofaaGreatDoorGxRS
import Derived.Test.YtjcninlcdnkofaaGreatDoorGxPR
noncomputable section
namespace Go.Proofs.YtjcninlcdnkofaaGreatDoor
open Go Gw Go.RowKit
set_option linter.unusedSimpArgs false
set_option linter.unusedVariables false
def oxLR1_0e (a : Gw.Offer) (b : Gw.Offer) (bv : V) (R : List V) (ss : List Str) (qv : V) (count : Int) : OTab := (consT 11 (gNew kT0 kT1 kT2 dPair pPair prPair (fun n => match n with | 7 => some ([[.int .u32 1, vi 0, vi (fineO a).baud, vi (fineO a).silent, vi (fineO a).win, vi (fineO a).size, vi (fineO a).wait, vi 2, .int .u32 2, vi 0, vi 1, vi (dealL (fineO a) (fineO b)).baud, vi 200, vi (dealL (fineO a) (fineO b)).win, vi (dealL (fineO a) (fineO b)).size, vi 0, .ptr 8 0, vi 1, vi 0, vi 0, vi 0, vi 0, vi 0, vi 0, .bool false, .bool false, .bool false, .nils], [vi 1, vi (if (64 : Int) < (dealL (fineO a) (fineO b)).size then 64 else (dealL (fineO a) (fineO b)).size), .ptr 9 0, .ptr 10 0, .bool true], [vi (if (7 : Int) < (if (1 : Int) > (dealL (fineO a) (fineO b)).win then 1 else (dealL (fineO a) (fineO b)).win) then 7 else (if (1 : Int) > (dealL (fineO a) (fineO b)).win then 1 else (dealL (fineO a) (fineO b)).win)), .nils, vi 0, vi 0], [vi 0, .bool false], [.int .u32 2, vi 1, vi (fineO b).baud, vi (fineO b).silent, vi (fineO b).win, vi (fineO b).size, vi (fineO b).wait, vi 2, .int .u32 1, vi 0, vi 1, vi (dealL (fineO b) (fineO a)).baud, vi 200, vi (dealL (fineO b) (fineO a)).win, vi (dealL (fineO b) (fineO a)).size, vi 1, .ptr 12 0, vi 0, vi 0, vi 0, vi 0, vi 0, vi 0, vi 2, .bool false, .bool false, .bool false, .nils], [vi 2, vi (if (64 : Int) < (dealL (fineO b) (fineO a)).size then 64 else (dealL (fineO b) (fineO a)).size), .ptr 13 0, .ptr 14 0, .bool false], [vi (if (7 : Int) < (if (1 : Int) > (dealL (fineO b) (fineO a)).win then 1 else (dealL (fineO b) (fineO a)).win) then 7 else (if (1 : Int) > (dealL (fineO b) (fineO a)).win then 1 else (dealL (fineO b) (fineO a)).win)), .nils, vi 0, vi 0], [vi 0, .bool false]]) | _ => none)) (consT 46 (gD dGet pGet (fun n => match n with | 122 => some (.tup [.agg [.int .u32 1, .int .u32 2, vi 0, vi 2, vi (fineO a).baud, vi (fineO a).silent, vi (fineO a).win, vi (fineO a).size, vi (fineO a).wait], .bool true]) | 289 => some (.tup [.agg [.int .u32 2, .int .u32 1, vi 0, vi 2, vi (fineO b).baud, vi (fineO b).silent, vi (fineO b).win, vi (fineO b).size, vi (fineO b).wait], .bool true]) | _ => none)) (consT 70 (gD dPut pPut (fun n => match n with | 35 => some (.tup [.str (sA a), .bool true]) | 175 => some (.tup [.str (sB b), .bool true]) | _ => none)) (consT 47 (gDT kT0 kT1 kT2 dDeal pDeal (fun n => match n with | 135 => some (.tup [.agg (dv b a 1), .bool true]) | 302 => some (.tup [.agg (dv a b 0), .bool true]) | _ => none)) (consT 10 (gD dOff pFine noV) (consO 9 (gTrue kT0 kT1 kT2) noOX))))))
def treeLR1_0e (a : Gw.Offer) (b : Gw.Offer) (bv : V) (R : List V) (ss : List Str) (qv : V) (count : Int) : DT V :=
  .ob (dOff [.agg a.vs]) (
.ob (((V.beq (.agg b.vs) (.agg b.vs)) && true) = true) (
.ob (dOff [.agg b.vs]) (
.ob (dPair [.agg (fineO a).vs, .agg (fineO b).vs] ∧ pPair [.agg (fineO a).vs, .agg (fineO b).vs] 7 = [[.int .u32 1, vi 0, vi (fineO a).baud, vi (fineO a).silent, vi (fineO a).win, vi (fineO a).size, vi (fineO a).wait, vi 2, .int .u32 2, vi 0, vi 1, vi (dealL (fineO a) (fineO b)).baud, vi 200, vi (dealL (fineO a) (fineO b)).win, vi (dealL (fineO a) (fineO b)).size, vi 0, .ptr 8 0, vi 1, vi 0, vi 0, vi 0, vi 0, vi 0, vi 0, .bool false, .bool false, .bool false, .nils], [vi 1, vi (if (64 : Int) < (dealL (fineO a) (fineO b)).size then 64 else (dealL (fineO a) (fineO b)).size), .ptr 9 0, .ptr 10 0, .bool true], [vi (if (7 : Int) < (if (1 : Int) > (dealL (fineO a) (fineO b)).win then 1 else (dealL (fineO a) (fineO b)).win) then 7 else (if (1 : Int) > (dealL (fineO a) (fineO b)).win then 1 else (dealL (fineO a) (fineO b)).win)), .nils, vi 0, vi 0], [vi 0, .bool false], [.int .u32 2, vi 1, vi (fineO b).baud, vi (fineO b).silent, vi (fineO b).win, vi (fineO b).size, vi (fineO b).wait, vi 2, .int .u32 1, vi 0, vi 1, vi (dealL (fineO b) (fineO a)).baud, vi 200, vi (dealL (fineO b) (fineO a)).win, vi (dealL (fineO b) (fineO a)).size, vi 1, .ptr 12 0, vi 0, vi 0, vi 0, vi 0, vi 0, vi 0, vi 2, .bool false, .bool false, .bool false, .nils], [vi 2, vi (if (64 : Int) < (dealL (fineO b) (fineO a)).size then 64 else (dealL (fineO b) (fineO a)).size), .ptr 13 0, .ptr 14 0, .bool false], [vi (if (7 : Int) < (if (1 : Int) > (dealL (fineO b) (fineO a)).win then 1 else (dealL (fineO b) (fineO a)).win) then 7 else (if (1 : Int) > (dealL (fineO b) (fineO a)).win then 1 else (dealL (fineO b) (fineO a)).win)), .nils, vi 0, vi 0], [vi 0, .bool false]]) (
.ob ((SNRK a b (mskV (fnO 15 [none]) bv) (mskVs (fnO 15 [none]) R) ss qv count 0 1 2 (vi 0) (.nils) none : Snap) = (loopRK a b bv R ss qv count 0 1 2).S (.c0)) (
.ob (invRK a b bv R ss qv count 0 1 2 .c0) (
.ob (True) (
.ob (IntKind.i64 = IntKind.i64 ∧ (250 : Int) ≠ 0) (
.ob (dPut [.agg [.int .u32 1, .int .u32 2, vi 0, vi 2, vi (fineO a).baud, vi (fineO a).silent, vi (fineO a).win, vi (fineO a).size, vi (fineO a).wait]]) (
.ob (pPut [.agg [.int .u32 1, .int .u32 2, vi 0, vi 2, vi (fineO a).baud, vi (fineO a).silent, vi (fineO a).win, vi (fineO a).size, vi (fineO a).wait]] = (.tup [.str (sA a), .bool true])) (
.ob (9 = 9 ∧ 0 ≤ (0 : Int) ∧ (0 : Int) < ((1 : Nat) : Int)) (
.ob (9 = 9 ∧ 0 ≤ (0 : Int) ∧ (0 : Int) < ((1 : Nat) : Int)) (
.ob (((V.beq (.str (sA a)) (.str (sA a))) && ((V.beq (.bool true) (.bool true)) && ((V.beq (.agg [vi 127, vi 255]) (.agg [vi 127, vi 255])) && true))) = true) (
.ob (((V.beq (vi 2) (vi 2)) && true) = true) (
.ob (((V.beq (.agg [vi 127, vi 255, .bool true, vi 3, vi 2, vi 0, vi 0, .bool true, .str (sA a)]) (.agg [vi 127, vi 255, .bool true, vi 3, vi 2, vi 0, vi 0, .bool true, .str (sA a)])) && true) = true) (
.ob (((eqV (.agg [.i, .i, .b, .i, .i, .i, .i, .b, .s]) (.agg [vi 127, vi 255, .bool true, vi 3, vi 2, vi 0, vi 0, .bool true, .str (sA a)]) (.agg [vi 127, vi 255, .bool true, vi 3, vi 2, vi 0, vi 0, .bool true, .str (sA a)])).map fun b => V.bool (if true then !b else b)) = some (.bool false)) (
.ob (((V.beq (.agg [vi 127, vi 255]) (.agg [vi 127, vi 255])) && true) = true) (
.ob (True) (
.ob (dGet [.str (sA a)]) (
.ob (pGet [.str (sA a)] = (.tup [.agg [.int .u32 1, .int .u32 2, vi 0, vi 2, vi (fineO a).baud, vi (fineO a).silent, vi (fineO a).win, vi (fineO a).size, vi (fineO a).wait], .bool true])) (
.ob (dDeal [.agg (fineO b).vs, .agg (fineO a).vs]) (
.ob (pDeal [.agg (fineO b).vs, .agg (fineO a).vs] = (.tup [.agg (dv b a 1), .bool true])) (
.ob (True) (
.ob (((V.beq (vi (dealL (fineO b) (fineO a)).size) (vi (dealL (fineO b) (fineO a)).size)) && true) = true) (
.ob (((V.beq (vi (dealL (fineO b) (fineO a)).size) (vi (dealL (fineO b) (fineO a)).size)) && true) = true) (
.ob (((V.beq (.agg (dv b a 1)) (.agg (dv b a 1))) && ((V.beq (.agg [vi 0, vi 2]) (.agg [vi 0, vi 2])) && true)) = true) (
.ob (((V.beq (.agg (dv b a 1)) (.agg (dv b a 1))) && ((V.beq (.agg [vi 0, vi 2]) (.agg [vi 0, vi 2])) && true)) = true) (
.ob (((V.beq (.agg (dv b a 1)) (.agg (dv b a 1))) && ((V.beq (.agg [vi 0, vi 2]) (.agg [vi 0, vi 2])) && true)) = true) (
.ob (((V.beq (.agg (dv b a 1)) (.agg (dv b a 1))) && true) = true) (
.ob (((V.beq (vi 1) (vi 1)) && true) = true) (
.ob (((V.beq (vi 1) (vi 1)) && true) = true) (
.ob (((V.beq (vi 1) (vi 1)) && true) = true) (
.ob (dPut [.agg [.int .u32 2, .int .u32 1, vi 0, vi 2, vi (fineO b).baud, vi (fineO b).silent, vi (fineO b).win, vi (fineO b).size, vi (fineO b).wait]]) (
.ob (pPut [.agg [.int .u32 2, .int .u32 1, vi 0, vi 2, vi (fineO b).baud, vi (fineO b).silent, vi (fineO b).win, vi (fineO b).size, vi (fineO b).wait]] = (.tup [.str (sB b), .bool true])) (
.ob (4 = 4 ∧ 0 ≤ (0 : Int) ∧ (0 : Int) < ((1 : Nat) : Int)) (
.ob (9 = 9 ∧ 0 ≤ (0 : Int) ∧ (0 : Int) < ((1 : Nat) : Int)) (
.ob (True) (
.ob (9 = 9 ∧ 0 ≤ (0 : Int) ∧ (0 : Int) < ((1 : Nat) : Int)) (
.ob (IntKind.i64 = IntKind.i64 ∧ (250 : Int) ≠ 0) (
.ob (binV .rem (vi (wrapK .i64 (((count : Int).tmod 250) + 250))) (vi 250) = some (vi 1)) (
.ob (IntKind.i64 = IntKind.i64 ∧ (250 : Int) ≠ 0) (
.ob (1 = 1 ∧ 0 ≤ (9 : Int) ∧ (9 : Int) < ((25 : Nat) : Int)) (
.ob (9 = 9 ∧ 0 ≤ (0 : Int) ∧ (0 : Int) < ((1 : Nat) : Int)) (
.ob (binV .neq (.str (sD b)) (.str (sB b)) = some (.bool false)) (
.ob (9 = 9 ∧ 0 ≤ (0 : Int) ∧ (0 : Int) < ((1 : Nat) : Int)) (
.ob (((V.beq (.str (sB b)) (.str (sB b))) && ((V.beq (.bool false) (.bool false)) && ((V.beq (.agg [vi 127, vi 255]) (.agg [vi 127, vi 255])) && true))) = true) (
.ob (((V.beq (vi 3) (vi 3)) && true) = true) (
.ob (((V.beq (.agg [vi 127, vi 255, .bool false, vi 3, vi 3, vi 0, vi 0, .bool true, .str (sB b)]) (.agg [vi 127, vi 255, .bool false, vi 3, vi 3, vi 0, vi 0, .bool true, .str (sB b)])) && true) = true) (
.ob (((eqV (.agg [.i, .i, .b, .i, .i, .i, .i, .b, .s]) (.agg [vi 127, vi 255, .bool false, vi 3, vi 3, vi 0, vi 0, .bool true, .str (sB b)]) (.agg [vi 127, vi 255, .bool false, vi 3, vi 3, vi 0, vi 0, .bool true, .str (sB b)])).map fun b => V.bool (if true then !b else b)) = some (.bool false)) (
.ob (((V.beq (.agg [vi 127, vi 255]) (.agg [vi 127, vi 255])) && true) = true) (
.ob (True) (
.ob (dGet [.str (sB b)]) (
.ob (pGet [.str (sB b)] = (.tup [.agg [.int .u32 2, .int .u32 1, vi 0, vi 2, vi (fineO b).baud, vi (fineO b).silent, vi (fineO b).win, vi (fineO b).size, vi (fineO b).wait], .bool true])) (
.ob (dDeal [.agg (fineO a).vs, .agg (fineO b).vs]) (
.ob (pDeal [.agg (fineO a).vs, .agg (fineO b).vs] = (.tup [.agg (dv a b 0), .bool true])) (
.ob (True) (
.ob (((V.beq (vi (dealL (fineO a) (fineO b)).size) (vi (dealL (fineO a) (fineO b)).size)) && true) = true) (
.ob (((V.beq (vi (dealL (fineO a) (fineO b)).size) (vi (dealL (fineO a) (fineO b)).size)) && true) = true) (
.ob (((V.beq (.agg (dv a b 0)) (.agg (dv a b 0))) && ((V.beq (.agg [vi 0, vi 2]) (.agg [vi 0, vi 2])) && true)) = true) (
.ob (((V.beq (.agg (dv a b 0)) (.agg (dv a b 0))) && ((V.beq (.agg [vi 0, vi 2]) (.agg [vi 0, vi 2])) && true)) = true) (
.ob (((V.beq (.agg (dv a b 0)) (.agg (dv a b 0))) && ((V.beq (.agg [vi 0, vi 2]) (.agg [vi 0, vi 2])) && true)) = true) (
.ob (((V.beq (.agg (dv a b 0)) (.agg (dv a b 0))) && true) = true) (
.ob (((V.beq (vi 0) (vi 0)) && true) = true) (
.ob (((V.beq (vi 0) (vi 0)) && true) = true) (
.ob (((V.beq (vi 0) (vi 0)) && true) = true) (
.ob (4 = 4 ∧ 0 ≤ (0 : Int) ∧ (0 : Int) < ((1 : Nat) : Int)) (
.ob (True) (
.leaf (.bool true))))))))))))))))))))))))))))))))))))))))))))))))))))))))))))))))))))
set_option maxRecDepth 1000000 in
theorem treeLR1_0e_eq (a : Gw.Offer) (b : Gw.Offer) (bv : V) (R : List V) (ss : List Str) (qv : V) (count : Int) : funT (mkXT (noPX) (oxLR1_0e a b bv R ss qv count)) (mkXP (noPX)) (mkX (noPX) (oxLR1_0e a b bv R ss qv count)) D (fun g => match g with | 44 => (fun k => match k with | 52 => some fun t h => (match h.n with | 112 => (.bool false, h) | _ => (.bool false, h)) | _ => none) | _ => noOrc) (fun k => match k with | 8 => [19, 57, 62, 68, 79, 85, 90, 97, 104, 130, 145, 151, 158, 163, 168, 173, 178] | 12 => [10, 15, 20, 25, 30, 31, 37, 41, 50, 81, 90, 98] | 16 => [15, 22, 31, 52, 74, 80, 86, 96] | 22 => [16, 25, 30, 36, 39, 44, 47, 57, 67, 82, 86, 99] | 24 => [10, 20] | 31 => [10, 33, 34, 52, 66, 67, 71] | 34 => [4, 9] | 35 => [8, 25, 32] | 37 => [28, 30] | 38 => [9] | 40 => [7, 20] | 44 => [8, 15, 26, 37, 41, 46, 52] | 48 => [14, 20, 44, 49, 58] | 49 => [13, 26, 34, 39, 47] | 71 => [10] | 76 => [11, 16, 20, 25, 30, 34, 39] | 77 => [8, 14, 19, 24, 34, 44] | 104 => [6, 9, 20] | 129 => [8, 19, 30, 34, 38] | 130 => [8, 13, 18, 21] | _ => []) 12 (fun k => match k with | 116 => some fun t h => (vi 1, h) | 130 => some fun t h => (.bool false, h) | _ => none) [19, 57, 62, 68, 79, 85, 90, 97, 104, 130, 145, 151, 158, 163, 168, 173, 178] (ltK a b bv R ss qv count 0 1 2) (dOf 8) [.agg a.vs, .agg b.vs, bv, vi count] ((tabH kT0 kT1 kT2 4).put 3 (some (.cells true R))) (fun v _ => v) = treeLR1_0e a b bv R ss qv count := by kernel_rfl
theorem satLR1_0e (a : Gw.Offer) (b : Gw.Offer) (bv : V) (R : List V) (ss : List Str) (qv : V) (count : Int) (hwa : loL (fineO a).wait = 1) (hwb : loL (fineO b).wait = 0) (hbv : mskV (fnO 15 [none]) bv = bv) (hR : mskVs (fnO 15 [none]) R = R) (he : (count.tmod 250 + 250).tmod 250 = 1) : (treeLR1_0e a b bv R ss qv count).sat fun v => v = .bool true :=
 sat_ob trivial (
sat_ob (by simp only [V.beq_refl, Bool.and_true]) (
sat_ob trivial (
sat_ob ⟨⟨(mayO_fine a), (mayO_fine b)⟩, by show pairRows (fineO a) (fineO b) 7 = _; unfold pairRows; rw [hwa, hwb]; rfl⟩ (
sat_ob (by rw [hbv, hR]; kernel_rfl) (
sat_ob (Nat.zero_le _) (
sat_ob trivial (
sat_ob (by decide) (
sat_ob (okSet 1 2 0 2 a (by decide) (by decide) (by decide) (by decide)) (
sat_ob (by kernel_rfl) (
sat_ob (by decide) (
sat_ob (by decide) (
sat_ob (by simp only [V.beq_refl, Bool.and_true]) (
sat_ob (by simp only [V.beq_refl, Bool.and_true]) (
sat_ob (by simp only [V.beq_refl, Bool.and_true]) (
sat_ob (by simp [eqV, eqCells]) (
sat_ob (by simp only [V.beq_refl, Bool.and_true]) (
sat_ob trivial (
sat_ob ⟨⟨1, 2, 0, 2, fineO a⟩, (okSet 1 2 0 2 a (by decide) (by decide) (by decide) (by decide)), sA_eq a⟩ (
sat_ob (by rw [sA_eq]; exact get_put ⟨1, 2, 0, 2, fineO a⟩ (okSet 1 2 0 2 a (by decide) (by decide) (by decide) (by decide))) (
sat_ob ⟨(mayO_fine b), (mayO_fine a)⟩ (
sat_ob (by show V.tup [.agg [vi _, vi _, vi _, vi _, vi (loL (fineO a).wait)], .bool true] = _; rw [hwa]; rfl) (
sat_ob trivial (
sat_ob (by simp only [V.beq_refl, Bool.and_true]) (
sat_ob (by simp only [V.beq_refl, Bool.and_true]) (
sat_ob (by simp only [V.beq_refl, Bool.and_true]) (
sat_ob (by simp only [V.beq_refl, Bool.and_true]) (
sat_ob (by simp only [V.beq_refl, Bool.and_true]) (
sat_ob (by simp only [V.beq_refl, Bool.and_true]) (
sat_ob (by simp only [V.beq_refl, Bool.and_true]) (
sat_ob (by simp only [V.beq_refl, Bool.and_true]) (
sat_ob (by simp only [V.beq_refl, Bool.and_true]) (
sat_ob (okSet 2 1 0 2 b (by decide) (by decide) (by decide) (by decide)) (
sat_ob (by kernel_rfl) (
sat_ob (by decide) (
sat_ob (by decide) (
sat_ob trivial (
sat_ob (by decide) (
sat_ob (by decide) (
sat_ob (rm1 he) (
sat_ob (by decide) (
sat_ob (by decide) (
sat_ob (by decide) (
sat_ob (by rw [sD_eq]; simp [binV]) (
sat_ob (by decide) (
sat_ob (by simp only [V.beq_refl, Bool.and_true]) (
sat_ob (by simp only [V.beq_refl, Bool.and_true]) (
sat_ob (by simp only [V.beq_refl, Bool.and_true]) (
sat_ob (by simp [eqV, eqCells]) (
sat_ob (by simp only [V.beq_refl, Bool.and_true]) (
sat_ob trivial (
sat_ob ⟨⟨2, 1, 0, 2, fineO b⟩, (okSet 2 1 0 2 b (by decide) (by decide) (by decide) (by decide)), sB_eq b⟩ (
sat_ob (by rw [sB_eq]; exact get_put ⟨2, 1, 0, 2, fineO b⟩ (okSet 2 1 0 2 b (by decide) (by decide) (by decide) (by decide))) (
sat_ob ⟨(mayO_fine a), (mayO_fine b)⟩ (
sat_ob (by show V.tup [.agg [vi _, vi _, vi _, vi _, vi (loL (fineO b).wait)], .bool true] = _; rw [hwb]; rfl) (
sat_ob trivial (
sat_ob (by simp only [V.beq_refl, Bool.and_true]) (
sat_ob (by simp only [V.beq_refl, Bool.and_true]) (
sat_ob (by simp only [V.beq_refl, Bool.and_true]) (
sat_ob (by simp only [V.beq_refl, Bool.and_true]) (
sat_ob (by simp only [V.beq_refl, Bool.and_true]) (
sat_ob (by simp only [V.beq_refl, Bool.and_true]) (
sat_ob (by simp only [V.beq_refl, Bool.and_true]) (
sat_ob (by simp only [V.beq_refl, Bool.and_true]) (
sat_ob (by simp only [V.beq_refl, Bool.and_true]) (
sat_ob (by decide) (
sat_ob trivial (
sat_leaf (rfl))))))))))))))))))))))))))))))))))))))))))))))))))))))))))))))))))))
set_option maxRecDepth 1000000 in
theorem runLR1_0e (a : Gw.Offer) (b : Gw.Offer) (bv : V) (R : List V) (ss : List Str) (qv : V) (count : Int) (hwa : loL (fineO a).wait = 1) (hwb : loL (fineO b).wait = 0) (hbv : mskV (fnO 15 [none]) bv = bv) (hR : mskVs (fnO 15 [none]) R = R) (he : (count.tmod 250 + 250).tmod 250 = 1) (hl : ∀ hint, Lt1 Tryz.prog hint 4 (loopRK a b bv R ss qv count 0 1 2).lt lpRK) : Run Tryz.prog 8 [.agg a.vs, .agg b.vs, bv, vi count] ((tabH kT0 kT1 kT2 4).put 3 (some (.cells true R))) fun v _ => v = .bool true := by
  refine run_loops mixed (show TabX Tryz.prog noPX (oxLR1_0e a b bv R ss qv count) from ((((((TabX.nil.addO ans_begun).addT (ans_fine noV)).addT (ans_deal (fun n => match n with | 135 => some (.tup [.agg (dv b a 1), .bool true]) | 302 => some (.tup [.agg (dv a b 0), .bool true]) | _ => none))).addT (ans_put (fun n => match n with | 35 => some (.tup [.str (sA a), .bool true]) | 175 => some (.tup [.str (sB b), .bool true]) | _ => none))).addT (ans_get (fun n => match n with | 122 => some (.tup [.agg [.int .u32 1, .int .u32 2, vi 0, vi 2, vi (fineO a).baud, vi (fineO a).silent, vi (fineO a).win, vi (fineO a).size, vi (fineO a).wait], .bool true]) | 289 => some (.tup [.agg [.int .u32 2, .int .u32 1, vi 0, vi 2, vi (fineO b).baud, vi (fineO b).silent, vi (fineO b).win, vi (fineO b).size, vi (fineO b).wait], .bool true]) | _ => none))).addT (ans_pair (fun n => match n with | 7 => some ([[.int .u32 1, vi 0, vi (fineO a).baud, vi (fineO a).silent, vi (fineO a).win, vi (fineO a).size, vi (fineO a).wait, vi 2, .int .u32 2, vi 0, vi 1, vi (dealL (fineO a) (fineO b)).baud, vi 200, vi (dealL (fineO a) (fineO b)).win, vi (dealL (fineO a) (fineO b)).size, vi 0, .ptr 8 0, vi 1, vi 0, vi 0, vi 0, vi 0, vi 0, vi 0, .bool false, .bool false, .bool false, .nils], [vi 1, vi (if (64 : Int) < (dealL (fineO a) (fineO b)).size then 64 else (dealL (fineO a) (fineO b)).size), .ptr 9 0, .ptr 10 0, .bool true], [vi (if (7 : Int) < (if (1 : Int) > (dealL (fineO a) (fineO b)).win then 1 else (dealL (fineO a) (fineO b)).win) then 7 else (if (1 : Int) > (dealL (fineO a) (fineO b)).win then 1 else (dealL (fineO a) (fineO b)).win)), .nils, vi 0, vi 0], [vi 0, .bool false], [.int .u32 2, vi 1, vi (fineO b).baud, vi (fineO b).silent, vi (fineO b).win, vi (fineO b).size, vi (fineO b).wait, vi 2, .int .u32 1, vi 0, vi 1, vi (dealL (fineO b) (fineO a)).baud, vi 200, vi (dealL (fineO b) (fineO a)).win, vi (dealL (fineO b) (fineO a)).size, vi 1, .ptr 12 0, vi 0, vi 0, vi 0, vi 0, vi 0, vi 0, vi 2, .bool false, .bool false, .bool false, .nils], [vi 2, vi (if (64 : Int) < (dealL (fineO b) (fineO a)).size then 64 else (dealL (fineO b) (fineO a)).size), .ptr 13 0, .ptr 14 0, .bool false], [vi (if (7 : Int) < (if (1 : Int) > (dealL (fineO b) (fineO a)).win then 1 else (dealL (fineO b) (fineO a)).win) then 7 else (if (1 : Int) > (dealL (fineO b) (fineO a)).win then 1 else (dealL (fineO b) (fineO a)).win)), .nils, vi 0, vi 0], [vi 0, .bool false]]) | _ => none)))) tabD (dIs (by kernel_rfl)) (lt := ltK a b bv R ss qv count 0 1 2) (fun hint p hp => ?_) (treeLR1_0e_eq a b bv R ss qv count) (satLR1_0e a b bv R ss qv count hwa hwb hbv hR he)
  rw [loopsRK] at hp
  simp only [List.mem_cons, List.not_mem_nil, or_false] at hp
  subst hp
  exact hl hint
def oxLR1_0n (a : Gw.Offer) (b : Gw.Offer) (bv : V) (R : List V) (ss : List Str) (qv : V) (count : Int) (c : Int) : OTab := (consT 11 (gNew kT0 kT1 kT2 dPair pPair prPair (fun n => match n with | 7 => some ([[.int .u32 1, vi 0, vi (fineO a).baud, vi (fineO a).silent, vi (fineO a).win, vi (fineO a).size, vi (fineO a).wait, vi 2, .int .u32 2, vi 0, vi 1, vi (dealL (fineO a) (fineO b)).baud, vi 200, vi (dealL (fineO a) (fineO b)).win, vi (dealL (fineO a) (fineO b)).size, vi 0, .ptr 8 0, vi 1, vi 0, vi 0, vi 0, vi 0, vi 0, vi 0, .bool false, .bool false, .bool false, .nils], [vi 1, vi (if (64 : Int) < (dealL (fineO a) (fineO b)).size then 64 else (dealL (fineO a) (fineO b)).size), .ptr 9 0, .ptr 10 0, .bool true], [vi (if (7 : Int) < (if (1 : Int) > (dealL (fineO a) (fineO b)).win then 1 else (dealL (fineO a) (fineO b)).win) then 7 else (if (1 : Int) > (dealL (fineO a) (fineO b)).win then 1 else (dealL (fineO a) (fineO b)).win)), .nils, vi 0, vi 0], [vi 0, .bool false], [.int .u32 2, vi 1, vi (fineO b).baud, vi (fineO b).silent, vi (fineO b).win, vi (fineO b).size, vi (fineO b).wait, vi 2, .int .u32 1, vi 0, vi 1, vi (dealL (fineO b) (fineO a)).baud, vi 200, vi (dealL (fineO b) (fineO a)).win, vi (dealL (fineO b) (fineO a)).size, vi 1, .ptr 12 0, vi 0, vi 0, vi 0, vi 0, vi 0, vi 0, vi 2, .bool false, .bool false, .bool false, .nils], [vi 2, vi (if (64 : Int) < (dealL (fineO b) (fineO a)).size then 64 else (dealL (fineO b) (fineO a)).size), .ptr 13 0, .ptr 14 0, .bool false], [vi (if (7 : Int) < (if (1 : Int) > (dealL (fineO b) (fineO a)).win then 1 else (dealL (fineO b) (fineO a)).win) then 7 else (if (1 : Int) > (dealL (fineO b) (fineO a)).win then 1 else (dealL (fineO b) (fineO a)).win)), .nils, vi 0, vi 0], [vi 0, .bool false]]) | _ => none)) (consT 46 (gD dGet pGet (fun n => match n with | 122 => some (.tup [.agg [.int .u32 1, .int .u32 2, vi 0, vi 2, vi (fineO a).baud, vi (fineO a).silent, vi (fineO a).win, vi (fineO a).size, vi (fineO a).wait], .bool true]) | 289 => some (.tup [.agg [.int .u32 2, .int .u32 1, vi 0, vi c, vi (fineO b).baud, vi (fineO b).silent, vi (fineO b).win, vi (fineO b).size, vi (fineO b).wait], .bool true]) | 389 => some (.tup [.agg [.int .u32 2, .int .u32 1, vi 0, vi 2, vi (fineO b).baud, vi (fineO b).silent, vi (fineO b).win, vi (fineO b).size, vi (fineO b).wait], .bool true]) | _ => none)) (consT 70 (gD dPut pPut (fun n => match n with | 35 => some (.tup [.str (sA a), .bool true]) | 175 => some (.tup [.str (sB b), .bool true]) | _ => none)) (consT 47 (gDT kT0 kT1 kT2 dDeal pDeal (fun n => match n with | 135 => some (.tup [.agg (dv b a 1), .bool true]) | 302 => some (.tup [.agg (dv a b 0), .bool true]) | 402 => some (.tup [.agg (dv a b 0), .bool true]) | _ => none)) (consT 10 (gD dOff pFine noV) (consO 9 (gTrue kT0 kT1 kT2) noOX))))))
def treeLR1_0n (a : Gw.Offer) (b : Gw.Offer) (bv : V) (R : List V) (ss : List Str) (qv : V) (count : Int) (c : Int) : DT V :=
  .ob (dOff [.agg a.vs]) (
.ob (((V.beq (.agg b.vs) (.agg b.vs)) && true) = true) (
.ob (dOff [.agg b.vs]) (
.ob (dPair [.agg (fineO a).vs, .agg (fineO b).vs] ∧ pPair [.agg (fineO a).vs, .agg (fineO b).vs] 7 = [[.int .u32 1, vi 0, vi (fineO a).baud, vi (fineO a).silent, vi (fineO a).win, vi (fineO a).size, vi (fineO a).wait, vi 2, .int .u32 2, vi 0, vi 1, vi (dealL (fineO a) (fineO b)).baud, vi 200, vi (dealL (fineO a) (fineO b)).win, vi (dealL (fineO a) (fineO b)).size, vi 0, .ptr 8 0, vi 1, vi 0, vi 0, vi 0, vi 0, vi 0, vi 0, .bool false, .bool false, .bool false, .nils], [vi 1, vi (if (64 : Int) < (dealL (fineO a) (fineO b)).size then 64 else (dealL (fineO a) (fineO b)).size), .ptr 9 0, .ptr 10 0, .bool true], [vi (if (7 : Int) < (if (1 : Int) > (dealL (fineO a) (fineO b)).win then 1 else (dealL (fineO a) (fineO b)).win) then 7 else (if (1 : Int) > (dealL (fineO a) (fineO b)).win then 1 else (dealL (fineO a) (fineO b)).win)), .nils, vi 0, vi 0], [vi 0, .bool false], [.int .u32 2, vi 1, vi (fineO b).baud, vi (fineO b).silent, vi (fineO b).win, vi (fineO b).size, vi (fineO b).wait, vi 2, .int .u32 1, vi 0, vi 1, vi (dealL (fineO b) (fineO a)).baud, vi 200, vi (dealL (fineO b) (fineO a)).win, vi (dealL (fineO b) (fineO a)).size, vi 1, .ptr 12 0, vi 0, vi 0, vi 0, vi 0, vi 0, vi 0, vi 2, .bool false, .bool false, .bool false, .nils], [vi 2, vi (if (64 : Int) < (dealL (fineO b) (fineO a)).size then 64 else (dealL (fineO b) (fineO a)).size), .ptr 13 0, .ptr 14 0, .bool false], [vi (if (7 : Int) < (if (1 : Int) > (dealL (fineO b) (fineO a)).win then 1 else (dealL (fineO b) (fineO a)).win) then 7 else (if (1 : Int) > (dealL (fineO b) (fineO a)).win then 1 else (dealL (fineO b) (fineO a)).win)), .nils, vi 0, vi 0], [vi 0, .bool false]]) (
.ob ((SNRK a b (mskV (fnO 15 [none]) bv) (mskVs (fnO 15 [none]) R) ss qv count 0 1 2 (vi 0) (.nils) none : Snap) = (loopRK a b bv R ss qv count 0 1 2).S (.c0)) (
.ob (invRK a b bv R ss qv count 0 1 2 .c0) (
.ob (True) (
.ob (IntKind.i64 = IntKind.i64 ∧ (250 : Int) ≠ 0) (
.ob (dPut [.agg [.int .u32 1, .int .u32 2, vi 0, vi 2, vi (fineO a).baud, vi (fineO a).silent, vi (fineO a).win, vi (fineO a).size, vi (fineO a).wait]]) (
.ob (pPut [.agg [.int .u32 1, .int .u32 2, vi 0, vi 2, vi (fineO a).baud, vi (fineO a).silent, vi (fineO a).win, vi (fineO a).size, vi (fineO a).wait]] = (.tup [.str (sA a), .bool true])) (
.ob (9 = 9 ∧ 0 ≤ (0 : Int) ∧ (0 : Int) < ((1 : Nat) : Int)) (
.ob (9 = 9 ∧ 0 ≤ (0 : Int) ∧ (0 : Int) < ((1 : Nat) : Int)) (
.ob (((V.beq (.str (sA a)) (.str (sA a))) && ((V.beq (.bool true) (.bool true)) && ((V.beq (.agg [vi 127, vi 255]) (.agg [vi 127, vi 255])) && true))) = true) (
.ob (((V.beq (vi 2) (vi 2)) && true) = true) (
.ob (((V.beq (.agg [vi 127, vi 255, .bool true, vi 3, vi 2, vi 0, vi 0, .bool true, .str (sA a)]) (.agg [vi 127, vi 255, .bool true, vi 3, vi 2, vi 0, vi 0, .bool true, .str (sA a)])) && true) = true) (
.ob (((eqV (.agg [.i, .i, .b, .i, .i, .i, .i, .b, .s]) (.agg [vi 127, vi 255, .bool true, vi 3, vi 2, vi 0, vi 0, .bool true, .str (sA a)]) (.agg [vi 127, vi 255, .bool true, vi 3, vi 2, vi 0, vi 0, .bool true, .str (sA a)])).map fun b => V.bool (if true then !b else b)) = some (.bool false)) (
.ob (((V.beq (.agg [vi 127, vi 255]) (.agg [vi 127, vi 255])) && true) = true) (
.ob (True) (
.ob (dGet [.str (sA a)]) (
.ob (pGet [.str (sA a)] = (.tup [.agg [.int .u32 1, .int .u32 2, vi 0, vi 2, vi (fineO a).baud, vi (fineO a).silent, vi (fineO a).win, vi (fineO a).size, vi (fineO a).wait], .bool true])) (
.ob (dDeal [.agg (fineO b).vs, .agg (fineO a).vs]) (
.ob (pDeal [.agg (fineO b).vs, .agg (fineO a).vs] = (.tup [.agg (dv b a 1), .bool true])) (
.ob (True) (
.ob (((V.beq (vi (dealL (fineO b) (fineO a)).size) (vi (dealL (fineO b) (fineO a)).size)) && true) = true) (
.ob (((V.beq (vi (dealL (fineO b) (fineO a)).size) (vi (dealL (fineO b) (fineO a)).size)) && true) = true) (
.ob (((V.beq (.agg (dv b a 1)) (.agg (dv b a 1))) && ((V.beq (.agg [vi 0, vi 2]) (.agg [vi 0, vi 2])) && true)) = true) (
.ob (((V.beq (.agg (dv b a 1)) (.agg (dv b a 1))) && ((V.beq (.agg [vi 0, vi 2]) (.agg [vi 0, vi 2])) && true)) = true) (
.ob (((V.beq (.agg (dv b a 1)) (.agg (dv b a 1))) && ((V.beq (.agg [vi 0, vi 2]) (.agg [vi 0, vi 2])) && true)) = true) (
.ob (((V.beq (.agg (dv b a 1)) (.agg (dv b a 1))) && true) = true) (
.ob (((V.beq (vi 1) (vi 1)) && true) = true) (
.ob (((V.beq (vi 1) (vi 1)) && true) = true) (
.ob (((V.beq (vi 1) (vi 1)) && true) = true) (
.ob (dPut [.agg [.int .u32 2, .int .u32 1, vi 0, vi 2, vi (fineO b).baud, vi (fineO b).silent, vi (fineO b).win, vi (fineO b).size, vi (fineO b).wait]]) (
.ob (pPut [.agg [.int .u32 2, .int .u32 1, vi 0, vi 2, vi (fineO b).baud, vi (fineO b).silent, vi (fineO b).win, vi (fineO b).size, vi (fineO b).wait]] = (.tup [.str (sB b), .bool true])) (
.ob (4 = 4 ∧ 0 ≤ (0 : Int) ∧ (0 : Int) < ((1 : Nat) : Int)) (
.ob (9 = 9 ∧ 0 ≤ (0 : Int) ∧ (0 : Int) < ((1 : Nat) : Int)) (
.ob (True) (
.ob (9 = 9 ∧ 0 ≤ (0 : Int) ∧ (0 : Int) < ((1 : Nat) : Int)) (
.ob (IntKind.i64 = IntKind.i64 ∧ (250 : Int) ≠ 0) (
.ob (IntKind.i64 = IntKind.i64 ∧ (250 : Int) ≠ 0) (
.ob (binV .rem (vi (wrapK .i64 ((((wrapK .i64 (((count : Int).tmod 250) + 250)) : Int).tmod 250) + 1))) (vi 250) = some (vi c)) (
.ob ((some (V.int .u8 (wrapK .u8 c)) : Option V) = some (.int .u8 c)) (
.ob (1 = 1 ∧ 0 ≤ (9 : Int) ∧ (9 : Int) < ((25 : Nat) : Int)) (
.ob (9 = 9 ∧ 0 ≤ (0 : Int) ∧ (0 : Int) < ((1 : Nat) : Int)) (
.ob (binV .neq (.str (sC c b)) (.str (sB b)) = some (.bool true)) (
.ob (((V.beq (.str (sC c b)) (.str (sC c b))) && ((V.beq (.bool false) (.bool false)) && ((V.beq (.agg [vi 127, vi 255]) (.agg [vi 127, vi 255])) && true))) = true) (
.ob (((V.beq (vi 3) (vi 3)) && true) = true) (
.ob (((V.beq (.agg [vi 127, vi 255, .bool false, vi 3, vi 3, vi 0, vi 0, .bool true, .str (sC c b)]) (.agg [vi 127, vi 255, .bool false, vi 3, vi 3, vi 0, vi 0, .bool true, .str (sC c b)])) && true) = true) (
.ob (((eqV (.agg [.i, .i, .b, .i, .i, .i, .i, .b, .s]) (.agg [vi 127, vi 255, .bool false, vi 3, vi 3, vi 0, vi 0, .bool true, .str (sC c b)]) (.agg [vi 127, vi 255, .bool false, vi 3, vi 3, vi 0, vi 0, .bool true, .str (sC c b)])).map fun b => V.bool (if true then !b else b)) = some (.bool false)) (
.ob (((V.beq (.agg [vi 127, vi 255]) (.agg [vi 127, vi 255])) && true) = true) (
.ob (True) (
.ob (dGet [.str (sC c b)]) (
.ob (pGet [.str (sC c b)] = (.tup [.agg [.int .u32 2, .int .u32 1, vi 0, vi c, vi (fineO b).baud, vi (fineO b).silent, vi (fineO b).win, vi (fineO b).size, vi (fineO b).wait], .bool true])) (
.ob (dDeal [.agg (fineO a).vs, .agg (fineO b).vs]) (
.ob (pDeal [.agg (fineO a).vs, .agg (fineO b).vs] = (.tup [.agg (dv a b 0), .bool true])) (
.ob (((eqV (.agg [.i, .i]) (.agg [vi 0, vi c]) (.agg [vi 0, vi 2])).map fun b => V.bool (if false then !b else b)) = some (.bool false)) (
.ob (9 = 9 ∧ 0 ≤ (0 : Int) ∧ (0 : Int) < ((1 : Nat) : Int)) (
.ob (((V.beq (.str (sB b)) (.str (sB b))) && ((V.beq (.bool false) (.bool false)) && ((V.beq (.agg [vi 127, vi 255]) (.agg [vi 127, vi 255])) && true))) = true) (
.ob (((V.beq (vi 3) (vi 3)) && true) = true) (
.ob (((V.beq (.agg [vi 127, vi 255, .bool false, vi 3, vi 3, vi 0, vi 0, .bool true, .str (sB b)]) (.agg [vi 127, vi 255, .bool false, vi 3, vi 3, vi 0, vi 0, .bool true, .str (sB b)])) && true) = true) (
.ob (((eqV (.agg [.i, .i, .b, .i, .i, .i, .i, .b, .s]) (.agg [vi 127, vi 255, .bool false, vi 3, vi 3, vi 0, vi 0, .bool true, .str (sB b)]) (.agg [vi 127, vi 255, .bool false, vi 3, vi 3, vi 0, vi 0, .bool true, .str (sB b)])).map fun b => V.bool (if true then !b else b)) = some (.bool false)) (
.ob (((V.beq (.agg [vi 127, vi 255]) (.agg [vi 127, vi 255])) && true) = true) (
.ob (True) (
.ob (dGet [.str (sB b)]) (
.ob (pGet [.str (sB b)] = (.tup [.agg [.int .u32 2, .int .u32 1, vi 0, vi 2, vi (fineO b).baud, vi (fineO b).silent, vi (fineO b).win, vi (fineO b).size, vi (fineO b).wait], .bool true])) (
.ob (dDeal [.agg (fineO a).vs, .agg (fineO b).vs]) (
.ob (pDeal [.agg (fineO a).vs, .agg (fineO b).vs] = (.tup [.agg (dv a b 0), .bool true])) (
.ob (((eqV (.agg [.i, .i]) (.agg [vi 0, vi 2]) (.agg [vi 0, vi 2])).map fun b => V.bool (if false then !b else b)) = some (.bool true)) (
.ob (((V.beq (vi (dealL (fineO a) (fineO b)).size) (vi (dealL (fineO a) (fineO b)).size)) && true) = true) (
.ob (((V.beq (vi (dealL (fineO a) (fineO b)).size) (vi (dealL (fineO a) (fineO b)).size)) && true) = true) (
.ob (((V.beq (.agg (dv a b 0)) (.agg (dv a b 0))) && ((V.beq (.agg [vi 0, vi 2]) (.agg [vi 0, vi 2])) && true)) = true) (
.ob (((V.beq (.agg (dv a b 0)) (.agg (dv a b 0))) && ((V.beq (.agg [vi 0, vi 2]) (.agg [vi 0, vi 2])) && true)) = true) (
.ob (((V.beq (.agg (dv a b 0)) (.agg (dv a b 0))) && ((V.beq (.agg [vi 0, vi 2]) (.agg [vi 0, vi 2])) && true)) = true) (
.ob (((V.beq (.agg (dv a b 0)) (.agg (dv a b 0))) && true) = true) (
.ob (((V.beq (vi 0) (vi 0)) && true) = true) (
.ob (((V.beq (vi 0) (vi 0)) && true) = true) (
.ob (((V.beq (vi 0) (vi 0)) && true) = true) (
.ob (4 = 4 ∧ 0 ≤ (0 : Int) ∧ (0 : Int) < ((1 : Nat) : Int)) (
.ob (True) (
.leaf (.bool true))))))))))))))))))))))))))))))))))))))))))))))))))))))))))))))))))))))))))))))))
set_option maxRecDepth 1000000 in
theorem treeLR1_0n_eq (a : Gw.Offer) (b : Gw.Offer) (bv : V) (R : List V) (ss : List Str) (qv : V) (count : Int) (c : Int) : funT (mkXT (noPX) (oxLR1_0n a b bv R ss qv count c)) (mkXP (noPX)) (mkX (noPX) (oxLR1_0n a b bv R ss qv count c)) D (fun g => match g with | 44 => (fun k => match k with | 52 => some fun t h => (match h.n with | 112 => (.bool false, h) | 279 => (.bool false, h) | _ => (.bool false, h)) | _ => none) | 48 => (fun k => match k with | 58 => some fun t h => (match h.n with | 305 => (.bool false, h) | _ => (.bool true, h)) | _ => none) | _ => noOrc) (fun k => match k with | 8 => [19, 57, 62, 68, 79, 85, 90, 97, 104, 130, 136, 145, 151, 158, 163, 168, 173, 178] | 12 => [10, 15, 20, 25, 30, 31, 37, 41, 50, 81, 90, 98] | 16 => [15, 22, 31, 52, 74, 80, 86, 96] | 22 => [16, 25, 30, 36, 39, 44, 47, 57, 67, 82, 86, 99] | 24 => [10, 20] | 31 => [10, 33, 34, 52, 66, 67, 71] | 34 => [4, 9] | 35 => [8, 25, 32] | 37 => [28, 30] | 38 => [9] | 40 => [7, 20] | 44 => [8, 15, 26, 37, 41, 46, 52] | 48 => [14, 20, 44, 49, 58] | 49 => [13, 26, 34, 39, 47] | 71 => [10] | 76 => [11, 16, 20, 25, 30, 34, 39] | 77 => [8, 14, 19, 24, 34, 44] | 104 => [6, 9, 20] | 129 => [8, 19, 30, 34, 38] | 130 => [8, 13, 18, 21] | _ => []) 12 (fun k => match k with | 118 => some fun t h => (vi c, h) | 119 => some fun t h => (.int .u8 c, h) | 130 => some fun t h => (.bool true, h) | _ => none) [19, 57, 62, 68, 79, 85, 90, 97, 104, 130, 136, 145, 151, 158, 163, 168, 173, 178] (ltK a b bv R ss qv count 0 1 2) (dOf 8) [.agg a.vs, .agg b.vs, bv, vi count] ((tabH kT0 kT1 kT2 4).put 3 (some (.cells true R))) (fun v _ => v) = treeLR1_0n a b bv R ss qv count c := by kernel_rfl
theorem satLR1_0n (a : Gw.Offer) (b : Gw.Offer) (bv : V) (R : List V) (ss : List Str) (qv : V) (count : Int) (c : Int) (hwa : loL (fineO a).wait = 1) (hwb : loL (fineO b).wait = 0) (hbv : mskV (fnO 15 [none]) bv = bv) (hR : mskVs (fnO 15 [none]) R = R) (hn : ((count.tmod 250 + 250).tmod 250 + 1).tmod 250 = c) (hc : 0 ≤ c ∧ c < 250) (hc2 : c ≠ 2) : (treeLR1_0n a b bv R ss qv count c).sat fun v => v = .bool true :=
 sat_ob trivial (
sat_ob (by simp only [V.beq_refl, Bool.and_true]) (
sat_ob trivial (
sat_ob ⟨⟨(mayO_fine a), (mayO_fine b)⟩, by show pairRows (fineO a) (fineO b) 7 = _; unfold pairRows; rw [hwa, hwb]; rfl⟩ (
sat_ob (by rw [hbv, hR]; kernel_rfl) (
sat_ob (Nat.zero_le _) (
sat_ob trivial (
sat_ob (by decide) (
sat_ob (okSet 1 2 0 2 a (by decide) (by decide) (by decide) (by decide)) (
sat_ob (by kernel_rfl) (
sat_ob (by decide) (
sat_ob (by decide) (
sat_ob (by simp only [V.beq_refl, Bool.and_true]) (
sat_ob (by simp only [V.beq_refl, Bool.and_true]) (
sat_ob (by simp only [V.beq_refl, Bool.and_true]) (
sat_ob (by simp [eqV, eqCells]) (
sat_ob (by simp only [V.beq_refl, Bool.and_true]) (
sat_ob trivial (
sat_ob ⟨⟨1, 2, 0, 2, fineO a⟩, (okSet 1 2 0 2 a (by decide) (by decide) (by decide) (by decide)), sA_eq a⟩ (
sat_ob (by rw [sA_eq]; exact get_put ⟨1, 2, 0, 2, fineO a⟩ (okSet 1 2 0 2 a (by decide) (by decide) (by decide) (by decide))) (
sat_ob ⟨(mayO_fine b), (mayO_fine a)⟩ (
sat_ob (by show V.tup [.agg [vi _, vi _, vi _, vi _, vi (loL (fineO a).wait)], .bool true] = _; rw [hwa]; rfl) (
sat_ob trivial (
sat_ob (by simp only [V.beq_refl, Bool.and_true]) (
sat_ob (by simp only [V.beq_refl, Bool.and_true]) (
sat_ob (by simp only [V.beq_refl, Bool.and_true]) (
sat_ob (by simp only [V.beq_refl, Bool.and_true]) (
sat_ob (by simp only [V.beq_refl, Bool.and_true]) (
sat_ob (by simp only [V.beq_refl, Bool.and_true]) (
sat_ob (by simp only [V.beq_refl, Bool.and_true]) (
sat_ob (by simp only [V.beq_refl, Bool.and_true]) (
sat_ob (by simp only [V.beq_refl, Bool.and_true]) (
sat_ob (okSet 2 1 0 2 b (by decide) (by decide) (by decide) (by decide)) (
sat_ob (by kernel_rfl) (
sat_ob (by decide) (
sat_ob (by decide) (
sat_ob trivial (
sat_ob (by decide) (
sat_ob (by decide) (
sat_ob (by decide) (
sat_ob (rm2 hn) (
sat_ob (by rw [w8 (by omega)]) (
sat_ob (by decide) (
sat_ob (by decide) (
sat_ob (by simp [binV, sC_ne hc hc2]) (
sat_ob (by simp only [V.beq_refl, Bool.and_true]) (
sat_ob (by simp only [V.beq_refl, Bool.and_true]) (
sat_ob (by simp only [V.beq_refl, Bool.and_true]) (
sat_ob (by simp [eqV, eqCells]) (
sat_ob (by simp only [V.beq_refl, Bool.and_true]) (
sat_ob trivial (
sat_ob ⟨⟨2, 1, 0, c, fineO b⟩, (okSet 2 1 0 c b (by decide) (by decide) (by decide) hc), sC_eq c b⟩ (
sat_ob (by rw [sC_eq]; exact get_put ⟨2, 1, 0, c, fineO b⟩ (okSet 2 1 0 c b (by decide) (by decide) (by decide) hc)) (
sat_ob ⟨(mayO_fine a), (mayO_fine b)⟩ (
sat_ob (by show V.tup [.agg [vi _, vi _, vi _, vi _, vi (loL (fineO b).wait)], .bool true] = _; rw [hwb]; rfl) (
sat_ob (by simp [eqV, eqCells, hc2]) (
sat_ob (by decide) (
sat_ob (by simp only [V.beq_refl, Bool.and_true]) (
sat_ob (by simp only [V.beq_refl, Bool.and_true]) (
sat_ob (by simp only [V.beq_refl, Bool.and_true]) (
sat_ob (by simp [eqV, eqCells]) (
sat_ob (by simp only [V.beq_refl, Bool.and_true]) (
sat_ob trivial (
sat_ob ⟨⟨2, 1, 0, 2, fineO b⟩, (okSet 2 1 0 2 b (by decide) (by decide) (by decide) (by decide)), sB_eq b⟩ (
sat_ob (by rw [sB_eq]; exact get_put ⟨2, 1, 0, 2, fineO b⟩ (okSet 2 1 0 2 b (by decide) (by decide) (by decide) (by decide))) (
sat_ob ⟨(mayO_fine a), (mayO_fine b)⟩ (
sat_ob (by show V.tup [.agg [vi _, vi _, vi _, vi _, vi (loL (fineO b).wait)], .bool true] = _; rw [hwb]; rfl) (
sat_ob (by simp [eqV, eqCells]) (
sat_ob (by simp only [V.beq_refl, Bool.and_true]) (
sat_ob (by simp only [V.beq_refl, Bool.and_true]) (
sat_ob (by simp only [V.beq_refl, Bool.and_true]) (
sat_ob (by simp only [V.beq_refl, Bool.and_true]) (
sat_ob (by simp only [V.beq_refl, Bool.and_true]) (
sat_ob (by simp only [V.beq_refl, Bool.and_true]) (
sat_ob (by simp only [V.beq_refl, Bool.and_true]) (
sat_ob (by simp only [V.beq_refl, Bool.and_true]) (
sat_ob (by simp only [V.beq_refl, Bool.and_true]) (
sat_ob (by decide) (
sat_ob trivial (
sat_leaf (rfl))))))))))))))))))))))))))))))))))))))))))))))))))))))))))))))))))))))))))))))))
set_option maxRecDepth 1000000 in
theorem runLR1_0n (a : Gw.Offer) (b : Gw.Offer) (bv : V) (R : List V) (ss : List Str) (qv : V) (count : Int) (c : Int) (hwa : loL (fineO a).wait = 1) (hwb : loL (fineO b).wait = 0) (hbv : mskV (fnO 15 [none]) bv = bv) (hR : mskVs (fnO 15 [none]) R = R) (hn : ((count.tmod 250 + 250).tmod 250 + 1).tmod 250 = c) (hc : 0 ≤ c ∧ c < 250) (hc2 : c ≠ 2) (hl : ∀ hint, Lt1 Tryz.prog hint 4 (loopRK a b bv R ss qv count 0 1 2).lt lpRK) : Run Tryz.prog 8 [.agg a.vs, .agg b.vs, bv, vi count] ((tabH kT0 kT1 kT2 4).put 3 (some (.cells true R))) fun v _ => v = .bool true := by
  refine run_loops mixed (show TabX Tryz.prog noPX (oxLR1_0n a b bv R ss qv count c) from ((((((TabX.nil.addO ans_begun).addT (ans_fine noV)).addT (ans_deal (fun n => match n with | 135 => some (.tup [.agg (dv b a 1), .bool true]) | 302 => some (.tup [.agg (dv a b 0), .bool true]) | 402 => some (.tup [.agg (dv a b 0), .bool true]) | _ => none))).addT (ans_put (fun n => match n with | 35 => some (.tup [.str (sA a), .bool true]) | 175 => some (.tup [.str (sB b), .bool true]) | _ => none))).addT (ans_get (fun n => match n with | 122 => some (.tup [.agg [.int .u32 1, .int .u32 2, vi 0, vi 2, vi (fineO a).baud, vi (fineO a).silent, vi (fineO a).win, vi (fineO a).size, vi (fineO a).wait], .bool true]) | 289 => some (.tup [.agg [.int .u32 2, .int .u32 1, vi 0, vi c, vi (fineO b).baud, vi (fineO b).silent, vi (fineO b).win, vi (fineO b).size, vi (fineO b).wait], .bool true]) | 389 => some (.tup [.agg [.int .u32 2, .int .u32 1, vi 0, vi 2, vi (fineO b).baud, vi (fineO b).silent, vi (fineO b).win, vi (fineO b).size, vi (fineO b).wait], .bool true]) | _ => none))).addT (ans_pair (fun n => match n with | 7 => some ([[.int .u32 1, vi 0, vi (fineO a).baud, vi (fineO a).silent, vi (fineO a).win, vi (fineO a).size, vi (fineO a).wait, vi 2, .int .u32 2, vi 0, vi 1, vi (dealL (fineO a) (fineO b)).baud, vi 200, vi (dealL (fineO a) (fineO b)).win, vi (dealL (fineO a) (fineO b)).size, vi 0, .ptr 8 0, vi 1, vi 0, vi 0, vi 0, vi 0, vi 0, vi 0, .bool false, .bool false, .bool false, .nils], [vi 1, vi (if (64 : Int) < (dealL (fineO a) (fineO b)).size then 64 else (dealL (fineO a) (fineO b)).size), .ptr 9 0, .ptr 10 0, .bool true], [vi (if (7 : Int) < (if (1 : Int) > (dealL (fineO a) (fineO b)).win then 1 else (dealL (fineO a) (fineO b)).win) then 7 else (if (1 : Int) > (dealL (fineO a) (fineO b)).win then 1 else (dealL (fineO a) (fineO b)).win)), .nils, vi 0, vi 0], [vi 0, .bool false], [.int .u32 2, vi 1, vi (fineO b).baud, vi (fineO b).silent, vi (fineO b).win, vi (fineO b).size, vi (fineO b).wait, vi 2, .int .u32 1, vi 0, vi 1, vi (dealL (fineO b) (fineO a)).baud, vi 200, vi (dealL (fineO b) (fineO a)).win, vi (dealL (fineO b) (fineO a)).size, vi 1, .ptr 12 0, vi 0, vi 0, vi 0, vi 0, vi 0, vi 0, vi 2, .bool false, .bool false, .bool false, .nils], [vi 2, vi (if (64 : Int) < (dealL (fineO b) (fineO a)).size then 64 else (dealL (fineO b) (fineO a)).size), .ptr 13 0, .ptr 14 0, .bool false], [vi (if (7 : Int) < (if (1 : Int) > (dealL (fineO b) (fineO a)).win then 1 else (dealL (fineO b) (fineO a)).win) then 7 else (if (1 : Int) > (dealL (fineO b) (fineO a)).win then 1 else (dealL (fineO b) (fineO a)).win)), .nils, vi 0, vi 0], [vi 0, .bool false]]) | _ => none)))) tabD (dIs (by kernel_rfl)) (lt := ltK a b bv R ss qv count 0 1 2) (fun hint p hp => ?_) (treeLR1_0n_eq a b bv R ss qv count c) (satLR1_0n a b bv R ss qv count c hwa hwb hbv hR hn hc hc2)
  rw [loopsRK] at hp
  simp only [List.mem_cons, List.not_mem_nil, or_false] at hp
  subst hp
  exact hl hint
def oxLR1_1e (a : Gw.Offer) (b : Gw.Offer) (bv : V) (R : List V) (ss : List Str) (qv : V) (count : Int) : OTab := (consT 11 (gNew kT0 kT1 kT2 dPair pPair prPair (fun n => match n with | 7 => some ([[.int .u32 1, vi 0, vi (fineO a).baud, vi (fineO a).silent, vi (fineO a).win, vi (fineO a).size, vi (fineO a).wait, vi 2, .int .u32 2, vi 0, vi 1, vi (dealL (fineO a) (fineO b)).baud, vi 200, vi (dealL (fineO a) (fineO b)).win, vi (dealL (fineO a) (fineO b)).size, vi 1, .ptr 8 0, vi 1, vi 0, vi 0, vi 0, vi 0, vi 1, vi 0, .bool false, .bool false, .bool false, .nils], [vi 1, vi (if (64 : Int) < (dealL (fineO a) (fineO b)).size then 64 else (dealL (fineO a) (fineO b)).size), .ptr 9 0, .ptr 10 0, .bool true], [vi (if (7 : Int) < (if (1 : Int) > (dealL (fineO a) (fineO b)).win then 1 else (dealL (fineO a) (fineO b)).win) then 7 else (if (1 : Int) > (dealL (fineO a) (fineO b)).win then 1 else (dealL (fineO a) (fineO b)).win)), .nils, vi 0, vi 0], [vi 0, .bool false], [.int .u32 2, vi 1, vi (fineO b).baud, vi (fineO b).silent, vi (fineO b).win, vi (fineO b).size, vi (fineO b).wait, vi 2, .int .u32 1, vi 0, vi 1, vi (dealL (fineO b) (fineO a)).baud, vi 200, vi (dealL (fineO b) (fineO a)).win, vi (dealL (fineO b) (fineO a)).size, vi 1, .ptr 12 0, vi 0, vi 0, vi 0, vi 0, vi 0, vi 0, vi 2, .bool false, .bool false, .bool false, .nils], [vi 2, vi (if (64 : Int) < (dealL (fineO b) (fineO a)).size then 64 else (dealL (fineO b) (fineO a)).size), .ptr 13 0, .ptr 14 0, .bool false], [vi (if (7 : Int) < (if (1 : Int) > (dealL (fineO b) (fineO a)).win then 1 else (dealL (fineO b) (fineO a)).win) then 7 else (if (1 : Int) > (dealL (fineO b) (fineO a)).win then 1 else (dealL (fineO b) (fineO a)).win)), .nils, vi 0, vi 0], [vi 0, .bool false]]) | _ => none)) (consT 46 (gD dGet pGet (fun n => match n with | 122 => some (.tup [.agg [.int .u32 1, .int .u32 2, vi 0, vi 2, vi (fineO a).baud, vi (fineO a).silent, vi (fineO a).win, vi (fineO a).size, vi (fineO a).wait], .bool true]) | 289 => some (.tup [.agg [.int .u32 2, .int .u32 1, vi 0, vi 2, vi (fineO b).baud, vi (fineO b).silent, vi (fineO b).win, vi (fineO b).size, vi (fineO b).wait], .bool true]) | _ => none)) (consT 70 (gD dPut pPut (fun n => match n with | 35 => some (.tup [.str (sA a), .bool true]) | 175 => some (.tup [.str (sB b), .bool true]) | _ => none)) (consT 47 (gDT kT0 kT1 kT2 dDeal pDeal (fun n => match n with | 135 => some (.tup [.agg (dv b a 1), .bool true]) | 302 => some (.tup [.agg (dv a b 1), .bool true]) | _ => none)) (consT 10 (gD dOff pFine noV) (consO 9 (gTrue kT0 kT1 kT2) noOX))))))
def treeLR1_1e (a : Gw.Offer) (b : Gw.Offer) (bv : V) (R : List V) (ss : List Str) (qv : V) (count : Int) : DT V :=
  .ob (dOff [.agg a.vs]) (
.ob (((V.beq (.agg b.vs) (.agg b.vs)) && true) = true) (
.ob (dOff [.agg b.vs]) (
.ob (dPair [.agg (fineO a).vs, .agg (fineO b).vs] ∧ pPair [.agg (fineO a).vs, .agg (fineO b).vs] 7 = [[.int .u32 1, vi 0, vi (fineO a).baud, vi (fineO a).silent, vi (fineO a).win, vi (fineO a).size, vi (fineO a).wait, vi 2, .int .u32 2, vi 0, vi 1, vi (dealL (fineO a) (fineO b)).baud, vi 200, vi (dealL (fineO a) (fineO b)).win, vi (dealL (fineO a) (fineO b)).size, vi 1, .ptr 8 0, vi 1, vi 0, vi 0, vi 0, vi 0, vi 1, vi 0, .bool false, .bool false, .bool false, .nils], [vi 1, vi (if (64 : Int) < (dealL (fineO a) (fineO b)).size then 64 else (dealL (fineO a) (fineO b)).size), .ptr 9 0, .ptr 10 0, .bool true], [vi (if (7 : Int) < (if (1 : Int) > (dealL (fineO a) (fineO b)).win then 1 else (dealL (fineO a) (fineO b)).win) then 7 else (if (1 : Int) > (dealL (fineO a) (fineO b)).win then 1 else (dealL (fineO a) (fineO b)).win)), .nils, vi 0, vi 0], [vi 0, .bool false], [.int .u32 2, vi 1, vi (fineO b).baud, vi (fineO b).silent, vi (fineO b).win, vi (fineO b).size, vi (fineO b).wait, vi 2, .int .u32 1, vi 0, vi 1, vi (dealL (fineO b) (fineO a)).baud, vi 200, vi (dealL (fineO b) (fineO a)).win, vi (dealL (fineO b) (fineO a)).size, vi 1, .ptr 12 0, vi 0, vi 0, vi 0, vi 0, vi 0, vi 0, vi 2, .bool false, .bool false, .bool false, .nils], [vi 2, vi (if (64 : Int) < (dealL (fineO b) (fineO a)).size then 64 else (dealL (fineO b) (fineO a)).size), .ptr 13 0, .ptr 14 0, .bool false], [vi (if (7 : Int) < (if (1 : Int) > (dealL (fineO b) (fineO a)).win then 1 else (dealL (fineO b) (fineO a)).win) then 7 else (if (1 : Int) > (dealL (fineO b) (fineO a)).win then 1 else (dealL (fineO b) (fineO a)).win)), .nils, vi 0, vi 0], [vi 0, .bool false]]) (
.ob ((SNRK a b (mskV (fnO 15 [none]) bv) (mskVs (fnO 15 [none]) R) ss qv count 1 1 2 (vi 0) (.nils) none : Snap) = (loopRK a b bv R ss qv count 1 1 2).S (.c0)) (
.ob (invRK a b bv R ss qv count 1 1 2 .c0) (
.ob (True) (
.ob (IntKind.i64 = IntKind.i64 ∧ (250 : Int) ≠ 0) (
.ob (dPut [.agg [.int .u32 1, .int .u32 2, vi 0, vi 2, vi (fineO a).baud, vi (fineO a).silent, vi (fineO a).win, vi (fineO a).size, vi (fineO a).wait]]) (
.ob (pPut [.agg [.int .u32 1, .int .u32 2, vi 0, vi 2, vi (fineO a).baud, vi (fineO a).silent, vi (fineO a).win, vi (fineO a).size, vi (fineO a).wait]] = (.tup [.str (sA a), .bool true])) (
.ob (9 = 9 ∧ 0 ≤ (0 : Int) ∧ (0 : Int) < ((1 : Nat) : Int)) (
.ob (9 = 9 ∧ 0 ≤ (0 : Int) ∧ (0 : Int) < ((1 : Nat) : Int)) (
.ob (((V.beq (.str (sA a)) (.str (sA a))) && ((V.beq (.bool true) (.bool true)) && ((V.beq (.agg [vi 127, vi 255]) (.agg [vi 127, vi 255])) && true))) = true) (
.ob (((V.beq (vi 2) (vi 2)) && true) = true) (
.ob (((V.beq (.agg [vi 127, vi 255, .bool true, vi 3, vi 2, vi 0, vi 0, .bool true, .str (sA a)]) (.agg [vi 127, vi 255, .bool true, vi 3, vi 2, vi 0, vi 0, .bool true, .str (sA a)])) && true) = true) (
.ob (((eqV (.agg [.i, .i, .b, .i, .i, .i, .i, .b, .s]) (.agg [vi 127, vi 255, .bool true, vi 3, vi 2, vi 0, vi 0, .bool true, .str (sA a)]) (.agg [vi 127, vi 255, .bool true, vi 3, vi 2, vi 0, vi 0, .bool true, .str (sA a)])).map fun b => V.bool (if true then !b else b)) = some (.bool false)) (
.ob (((V.beq (.agg [vi 127, vi 255]) (.agg [vi 127, vi 255])) && true) = true) (
.ob (True) (
.ob (dGet [.str (sA a)]) (
.ob (pGet [.str (sA a)] = (.tup [.agg [.int .u32 1, .int .u32 2, vi 0, vi 2, vi (fineO a).baud, vi (fineO a).silent, vi (fineO a).win, vi (fineO a).size, vi (fineO a).wait], .bool true])) (
.ob (dDeal [.agg (fineO b).vs, .agg (fineO a).vs]) (
.ob (pDeal [.agg (fineO b).vs, .agg (fineO a).vs] = (.tup [.agg (dv b a 1), .bool true])) (
.ob (True) (
.ob (((V.beq (vi (dealL (fineO b) (fineO a)).size) (vi (dealL (fineO b) (fineO a)).size)) && true) = true) (
.ob (((V.beq (vi (dealL (fineO b) (fineO a)).size) (vi (dealL (fineO b) (fineO a)).size)) && true) = true) (
.ob (((V.beq (.agg (dv b a 1)) (.agg (dv b a 1))) && ((V.beq (.agg [vi 0, vi 2]) (.agg [vi 0, vi 2])) && true)) = true) (
.ob (((V.beq (.agg (dv b a 1)) (.agg (dv b a 1))) && ((V.beq (.agg [vi 0, vi 2]) (.agg [vi 0, vi 2])) && true)) = true) (
.ob (((V.beq (.agg (dv b a 1)) (.agg (dv b a 1))) && ((V.beq (.agg [vi 0, vi 2]) (.agg [vi 0, vi 2])) && true)) = true) (
.ob (((V.beq (.agg (dv b a 1)) (.agg (dv b a 1))) && true) = true) (
.ob (((V.beq (vi 1) (vi 1)) && true) = true) (
.ob (((V.beq (vi 1) (vi 1)) && true) = true) (
.ob (((V.beq (vi 1) (vi 1)) && true) = true) (
.ob (dPut [.agg [.int .u32 2, .int .u32 1, vi 0, vi 2, vi (fineO b).baud, vi (fineO b).silent, vi (fineO b).win, vi (fineO b).size, vi (fineO b).wait]]) (
.ob (pPut [.agg [.int .u32 2, .int .u32 1, vi 0, vi 2, vi (fineO b).baud, vi (fineO b).silent, vi (fineO b).win, vi (fineO b).size, vi (fineO b).wait]] = (.tup [.str (sB b), .bool true])) (
.ob (4 = 4 ∧ 0 ≤ (0 : Int) ∧ (0 : Int) < ((1 : Nat) : Int)) (
.ob (9 = 9 ∧ 0 ≤ (0 : Int) ∧ (0 : Int) < ((1 : Nat) : Int)) (
.ob (True) (
.ob (9 = 9 ∧ 0 ≤ (0 : Int) ∧ (0 : Int) < ((1 : Nat) : Int)) (
.ob (IntKind.i64 = IntKind.i64 ∧ (250 : Int) ≠ 0) (
.ob (binV .rem (vi (wrapK .i64 (((count : Int).tmod 250) + 250))) (vi 250) = some (vi 1)) (
.ob (IntKind.i64 = IntKind.i64 ∧ (250 : Int) ≠ 0) (
.ob (1 = 1 ∧ 0 ≤ (9 : Int) ∧ (9 : Int) < ((25 : Nat) : Int)) (
.ob (9 = 9 ∧ 0 ≤ (0 : Int) ∧ (0 : Int) < ((1 : Nat) : Int)) (
.ob (binV .neq (.str (sD b)) (.str (sB b)) = some (.bool false)) (
.ob (9 = 9 ∧ 0 ≤ (0 : Int) ∧ (0 : Int) < ((1 : Nat) : Int)) (
.ob (((V.beq (.str (sB b)) (.str (sB b))) && ((V.beq (.bool false) (.bool false)) && ((V.beq (.agg [vi 127, vi 255]) (.agg [vi 127, vi 255])) && true))) = true) (
.ob (((V.beq (vi 3) (vi 3)) && true) = true) (
.ob (((V.beq (.agg [vi 127, vi 255, .bool false, vi 3, vi 3, vi 0, vi 0, .bool true, .str (sB b)]) (.agg [vi 127, vi 255, .bool false, vi 3, vi 3, vi 0, vi 0, .bool true, .str (sB b)])) && true) = true) (
.ob (((eqV (.agg [.i, .i, .b, .i, .i, .i, .i, .b, .s]) (.agg [vi 127, vi 255, .bool false, vi 3, vi 3, vi 0, vi 0, .bool true, .str (sB b)]) (.agg [vi 127, vi 255, .bool false, vi 3, vi 3, vi 0, vi 0, .bool true, .str (sB b)])).map fun b => V.bool (if true then !b else b)) = some (.bool false)) (
.ob (((V.beq (.agg [vi 127, vi 255]) (.agg [vi 127, vi 255])) && true) = true) (
.ob (True) (
.ob (dGet [.str (sB b)]) (
.ob (pGet [.str (sB b)] = (.tup [.agg [.int .u32 2, .int .u32 1, vi 0, vi 2, vi (fineO b).baud, vi (fineO b).silent, vi (fineO b).win, vi (fineO b).size, vi (fineO b).wait], .bool true])) (
.ob (dDeal [.agg (fineO a).vs, .agg (fineO b).vs]) (
.ob (pDeal [.agg (fineO a).vs, .agg (fineO b).vs] = (.tup [.agg (dv a b 1), .bool true])) (
.ob (True) (
.ob (((V.beq (vi (dealL (fineO a) (fineO b)).size) (vi (dealL (fineO a) (fineO b)).size)) && true) = true) (
.ob (((V.beq (vi (dealL (fineO a) (fineO b)).size) (vi (dealL (fineO a) (fineO b)).size)) && true) = true) (
.ob (((V.beq (.agg (dv a b 1)) (.agg (dv a b 1))) && ((V.beq (.agg [vi 0, vi 2]) (.agg [vi 0, vi 2])) && true)) = true) (
.ob (((V.beq (.agg (dv a b 1)) (.agg (dv a b 1))) && ((V.beq (.agg [vi 0, vi 2]) (.agg [vi 0, vi 2])) && true)) = true) (
.ob (((V.beq (.agg (dv a b 1)) (.agg (dv a b 1))) && ((V.beq (.agg [vi 0, vi 2]) (.agg [vi 0, vi 2])) && true)) = true) (
.ob (((V.beq (.agg (dv a b 1)) (.agg (dv a b 1))) && true) = true) (
.ob (((V.beq (vi 1) (vi 1)) && true) = true) (
.ob (((V.beq (vi 1) (vi 1)) && true) = true) (
.ob (((V.beq (vi 1) (vi 1)) && true) = true) (
.ob (4 = 4 ∧ 0 ≤ (0 : Int) ∧ (0 : Int) < ((1 : Nat) : Int)) (
.ob (True) (
.leaf (.bool true))))))))))))))))))))))))))))))))))))))))))))))))))))))))))))))))))))
set_option maxRecDepth 1000000 in
theorem treeLR1_1e_eq (a : Gw.Offer) (b : Gw.Offer) (bv : V) (R : List V) (ss : List Str) (qv : V) (count : Int) : funT (mkXT (noPX) (oxLR1_1e a b bv R ss qv count)) (mkXP (noPX)) (mkX (noPX) (oxLR1_1e a b bv R ss qv count)) D (fun g => match g with | 44 => (fun k => match k with | 52 => some fun t h => (match h.n with | 112 => (.bool false, h) | _ => (.bool false, h)) | _ => none) | _ => noOrc) (fun k => match k with | 8 => [19, 57, 62, 68, 79, 85, 90, 97, 104, 130, 145, 151, 158, 163, 168, 173, 178] | 12 => [10, 15, 20, 25, 30, 31, 37, 41, 50, 81, 90, 98] | 16 => [15, 22, 31, 52, 74, 80, 86, 96] | 22 => [16, 25, 30, 36, 39, 44, 47, 57, 67, 82, 86, 99] | 24 => [10, 20] | 31 => [10, 33, 34, 52, 66, 67, 71] | 34 => [4, 9] | 35 => [8, 25, 32] | 37 => [28, 30] | 38 => [9] | 40 => [7, 20] | 44 => [8, 15, 26, 37, 41, 46, 52] | 48 => [14, 20, 44, 49, 58] | 49 => [13, 26, 34, 39, 47] | 71 => [10] | 76 => [11, 16, 20, 25, 30, 34, 39] | 77 => [8, 14, 19, 24, 34, 44] | 104 => [6, 9, 20] | 129 => [8, 19, 30, 34, 38] | 130 => [8, 13, 18, 21] | _ => []) 12 (fun k => match k with | 116 => some fun t h => (vi 1, h) | 130 => some fun t h => (.bool false, h) | _ => none) [19, 57, 62, 68, 79, 85, 90, 97, 104, 130, 145, 151, 158, 163, 168, 173, 178] (ltK a b bv R ss qv count 1 1 2) (dOf 8) [.agg a.vs, .agg b.vs, bv, vi count] ((tabH kT0 kT1 kT2 4).put 3 (some (.cells true R))) (fun v _ => v) = treeLR1_1e a b bv R ss qv count := by kernel_rfl
theorem satLR1_1e (a : Gw.Offer) (b : Gw.Offer) (bv : V) (R : List V) (ss : List Str) (qv : V) (count : Int) (hwa : loL (fineO a).wait = 1) (hwb : loL (fineO b).wait = 1) (hbv : mskV (fnO 15 [none]) bv = bv) (hR : mskVs (fnO 15 [none]) R = R) (he : (count.tmod 250 + 250).tmod 250 = 1) : (treeLR1_1e a b bv R ss qv count).sat fun v => v = .bool true :=
 sat_ob trivial (
sat_ob (by simp only [V.beq_refl, Bool.and_true]) (
sat_ob trivial (
sat_ob ⟨⟨(mayO_fine a), (mayO_fine b)⟩, by show pairRows (fineO a) (fineO b) 7 = _; unfold pairRows; rw [hwa, hwb]; rfl⟩ (
sat_ob (by rw [hbv, hR]; kernel_rfl) (
sat_ob (Nat.zero_le _) (
sat_ob trivial (
sat_ob (by decide) (
sat_ob (okSet 1 2 0 2 a (by decide) (by decide) (by decide) (by decide)) (
sat_ob (by kernel_rfl) (
sat_ob (by decide) (
sat_ob (by decide) (
sat_ob (by simp only [V.beq_refl, Bool.and_true]) (
sat_ob (by simp only [V.beq_refl, Bool.and_true]) (
sat_ob (by simp only [V.beq_refl, Bool.and_true]) (
sat_ob (by simp [eqV, eqCells]) (
sat_ob (by simp only [V.beq_refl, Bool.and_true]) (
sat_ob trivial (
sat_ob ⟨⟨1, 2, 0, 2, fineO a⟩, (okSet 1 2 0 2 a (by decide) (by decide) (by decide) (by decide)), sA_eq a⟩ (
sat_ob (by rw [sA_eq]; exact get_put ⟨1, 2, 0, 2, fineO a⟩ (okSet 1 2 0 2 a (by decide) (by decide) (by decide) (by decide))) (
sat_ob ⟨(mayO_fine b), (mayO_fine a)⟩ (
sat_ob (by show V.tup [.agg [vi _, vi _, vi _, vi _, vi (loL (fineO a).wait)], .bool true] = _; rw [hwa]; rfl) (
sat_ob trivial (
sat_ob (by simp only [V.beq_refl, Bool.and_true]) (
sat_ob (by simp only [V.beq_refl, Bool.and_true]) (
sat_ob (by simp only [V.beq_refl, Bool.and_true]) (
sat_ob (by simp only [V.beq_refl, Bool.and_true]) (
sat_ob (by simp only [V.beq_refl, Bool.and_true]) (
sat_ob (by simp only [V.beq_refl, Bool.and_true]) (
sat_ob (by simp only [V.beq_refl, Bool.and_true]) (
sat_ob (by simp only [V.beq_refl, Bool.and_true]) (
sat_ob (by simp only [V.beq_refl, Bool.and_true]) (
sat_ob (okSet 2 1 0 2 b (by decide) (by decide) (by decide) (by decide)) (
sat_ob (by kernel_rfl) (
sat_ob (by decide) (
sat_ob (by decide) (
sat_ob trivial (
sat_ob (by decide) (
sat_ob (by decide) (
sat_ob (rm1 he) (
sat_ob (by decide) (
sat_ob (by decide) (
sat_ob (by decide) (
sat_ob (by rw [sD_eq]; simp [binV]) (
sat_ob (by decide) (
sat_ob (by simp only [V.beq_refl, Bool.and_true]) (
sat_ob (by simp only [V.beq_refl, Bool.and_true]) (
sat_ob (by simp only [V.beq_refl, Bool.and_true]) (
sat_ob (by simp [eqV, eqCells]) (
sat_ob (by simp only [V.beq_refl, Bool.and_true]) (
sat_ob trivial (
sat_ob ⟨⟨2, 1, 0, 2, fineO b⟩, (okSet 2 1 0 2 b (by decide) (by decide) (by decide) (by decide)), sB_eq b⟩ (
sat_ob (by rw [sB_eq]; exact get_put ⟨2, 1, 0, 2, fineO b⟩ (okSet 2 1 0 2 b (by decide) (by decide) (by decide) (by decide))) (
sat_ob ⟨(mayO_fine a), (mayO_fine b)⟩ (
sat_ob (by show V.tup [.agg [vi _, vi _, vi _, vi _, vi (loL (fineO b).wait)], .bool true] = _; rw [hwb]; rfl) (
sat_ob trivial (
sat_ob (by simp only [V.beq_refl, Bool.and_true]) (
sat_ob (by simp only [V.beq_refl, Bool.and_true]) (
sat_ob (by simp only [V.beq_refl, Bool.and_true]) (
sat_ob (by simp only [V.beq_refl, Bool.and_true]) (
sat_ob (by simp only [V.beq_refl, Bool.and_true]) (
sat_ob (by simp only [V.beq_refl, Bool.and_true]) (
sat_ob (by simp only [V.beq_refl, Bool.and_true]) (
sat_ob (by simp only [V.beq_refl, Bool.and_true]) (
sat_ob (by simp only [V.beq_refl, Bool.and_true]) (
sat_ob (by decide) (
sat_ob trivial (
sat_leaf (rfl))))))))))))))))))))))))))))))))))))))))))))))))))))))))))))))))))))
set_option maxRecDepth 1000000 in
theorem runLR1_1e (a : Gw.Offer) (b : Gw.Offer) (bv : V) (R : List V) (ss : List Str) (qv : V) (count : Int) (hwa : loL (fineO a).wait = 1) (hwb : loL (fineO b).wait = 1) (hbv : mskV (fnO 15 [none]) bv = bv) (hR : mskVs (fnO 15 [none]) R = R) (he : (count.tmod 250 + 250).tmod 250 = 1) (hl : ∀ hint, Lt1 Tryz.prog hint 4 (loopRK a b bv R ss qv count 1 1 2).lt lpRK) : Run Tryz.prog 8 [.agg a.vs, .agg b.vs, bv, vi count] ((tabH kT0 kT1 kT2 4).put 3 (some (.cells true R))) fun v _ => v = .bool true := by
  refine run_loops mixed (show TabX Tryz.prog noPX (oxLR1_1e a b bv R ss qv count) from ((((((TabX.nil.addO ans_begun).addT (ans_fine noV)).addT (ans_deal (fun n => match n with | 135 => some (.tup [.agg (dv b a 1), .bool true]) | 302 => some (.tup [.agg (dv a b 1), .bool true]) | _ => none))).addT (ans_put (fun n => match n with | 35 => some (.tup [.str (sA a), .bool true]) | 175 => some (.tup [.str (sB b), .bool true]) | _ => none))).addT (ans_get (fun n => match n with | 122 => some (.tup [.agg [.int .u32 1, .int .u32 2, vi 0, vi 2, vi (fineO a).baud, vi (fineO a).silent, vi (fineO a).win, vi (fineO a).size, vi (fineO a).wait], .bool true]) | 289 => some (.tup [.agg [.int .u32 2, .int .u32 1, vi 0, vi 2, vi (fineO b).baud, vi (fineO b).silent, vi (fineO b).win, vi (fineO b).size, vi (fineO b).wait], .bool true]) | _ => none))).addT (ans_pair (fun n => match n with | 7 => some ([[.int .u32 1, vi 0, vi (fineO a).baud, vi (fineO a).silent, vi (fineO a).win, vi (fineO a).size, vi (fineO a).wait, vi 2, .int .u32 2, vi 0, vi 1, vi (dealL (fineO a) (fineO b)).baud, vi 200, vi (dealL (fineO a) (fineO b)).win, vi (dealL (fineO a) (fineO b)).size, vi 1, .ptr 8 0, vi 1, vi 0, vi 0, vi 0, vi 0, vi 1, vi 0, .bool false, .bool false, .bool false, .nils], [vi 1, vi (if (64 : Int) < (dealL (fineO a) (fineO b)).size then 64 else (dealL (fineO a) (fineO b)).size), .ptr 9 0, .ptr 10 0, .bool true], [vi (if (7 : Int) < (if (1 : Int) > (dealL (fineO a) (fineO b)).win then 1 else (dealL (fineO a) (fineO b)).win) then 7 else (if (1 : Int) > (dealL (fineO a) (fineO b)).win then 1 else (dealL (fineO a) (fineO b)).win)), .nils, vi 0, vi 0], [vi 0, .bool false], [.int .u32 2, vi 1, vi (fineO b).baud, vi (fineO b).silent, vi (fineO b).win, vi (fineO b).size, vi (fineO b).wait, vi 2, .int .u32 1, vi 0, vi 1, vi (dealL (fineO b) (fineO a)).baud, vi 200, vi (dealL (fineO b) (fineO a)).win, vi (dealL (fineO b) (fineO a)).size, vi 1, .ptr 12 0, vi 0, vi 0, vi 0, vi 0, vi 0, vi 0, vi 2, .bool false, .bool false, .bool false, .nils], [vi 2, vi (if (64 : Int) < (dealL (fineO b) (fineO a)).size then 64 else (dealL (fineO b) (fineO a)).size), .ptr 13 0, .ptr 14 0, .bool false], [vi (if (7 : Int) < (if (1 : Int) > (dealL (fineO b) (fineO a)).win then 1 else (dealL (fineO b) (fineO a)).win) then 7 else (if (1 : Int) > (dealL (fineO b) (fineO a)).win then 1 else (dealL (fineO b) (fineO a)).win)), .nils, vi 0, vi 0], [vi 0, .bool false]]) | _ => none)))) tabD (dIs (by kernel_rfl)) (lt := ltK a b bv R ss qv count 1 1 2) (fun hint p hp => ?_) (treeLR1_1e_eq a b bv R ss qv count) (satLR1_1e a b bv R ss qv count hwa hwb hbv hR he)
  rw [loopsRK] at hp
  simp only [List.mem_cons, List.not_mem_nil, or_false] at hp
  subst hp
  exact hl hint
def oxLR1_1n (a : Gw.Offer) (b : Gw.Offer) (bv : V) (R : List V) (ss : List Str) (qv : V) (count : Int) (c : Int) : OTab := (consT 11 (gNew kT0 kT1 kT2 dPair pPair prPair (fun n => match n with | 7 => some ([[.int .u32 1, vi 0, vi (fineO a).baud, vi (fineO a).silent, vi (fineO a).win, vi (fineO a).size, vi (fineO a).wait, vi 2, .int .u32 2, vi 0, vi 1, vi (dealL (fineO a) (fineO b)).baud, vi 200, vi (dealL (fineO a) (fineO b)).win, vi (dealL (fineO a) (fineO b)).size, vi 1, .ptr 8 0, vi 1, vi 0, vi 0, vi 0, vi 0, vi 1, vi 0, .bool false, .bool false, .bool false, .nils], [vi 1, vi (if (64 : Int) < (dealL (fineO a) (fineO b)).size then 64 else (dealL (fineO a) (fineO b)).size), .ptr 9 0, .ptr 10 0, .bool true], [vi (if (7 : Int) < (if (1 : Int) > (dealL (fineO a) (fineO b)).win then 1 else (dealL (fineO a) (fineO b)).win) then 7 else (if (1 : Int) > (dealL (fineO a) (fineO b)).win then 1 else (dealL (fineO a) (fineO b)).win)), .nils, vi 0, vi 0], [vi 0, .bool false], [.int .u32 2, vi 1, vi (fineO b).baud, vi (fineO b).silent, vi (fineO b).win, vi (fineO b).size, vi (fineO b).wait, vi 2, .int .u32 1, vi 0, vi 1, vi (dealL (fineO b) (fineO a)).baud, vi 200, vi (dealL (fineO b) (fineO a)).win, vi (dealL (fineO b) (fineO a)).size, vi 1, .ptr 12 0, vi 0, vi 0, vi 0, vi 0, vi 0, vi 0, vi 2, .bool false, .bool false, .bool false, .nils], [vi 2, vi (if (64 : Int) < (dealL (fineO b) (fineO a)).size then 64 else (dealL (fineO b) (fineO a)).size), .ptr 13 0, .ptr 14 0, .bool false], [vi (if (7 : Int) < (if (1 : Int) > (dealL (fineO b) (fineO a)).win then 1 else (dealL (fineO b) (fineO a)).win) then 7 else (if (1 : Int) > (dealL (fineO b) (fineO a)).win then 1 else (dealL (fineO b) (fineO a)).win)), .nils, vi 0, vi 0], [vi 0, .bool false]]) | _ => none)) (consT 46 (gD dGet pGet (fun n => match n with | 122 => some (.tup [.agg [.int .u32 1, .int .u32 2, vi 0, vi 2, vi (fineO a).baud, vi (fineO a).silent, vi (fineO a).win, vi (fineO a).size, vi (fineO a).wait], .bool true]) | 289 => some (.tup [.agg [.int .u32 2, .int .u32 1, vi 0, vi c, vi (fineO b).baud, vi (fineO b).silent, vi (fineO b).win, vi (fineO b).size, vi (fineO b).wait], .bool true]) | 389 => some (.tup [.agg [.int .u32 2, .int .u32 1, vi 0, vi 2, vi (fineO b).baud, vi (fineO b).silent, vi (fineO b).win, vi (fineO b).size, vi (fineO b).wait], .bool true]) | _ => none)) (consT 70 (gD dPut pPut (fun n => match n with | 35 => some (.tup [.str (sA a), .bool true]) | 175 => some (.tup [.str (sB b), .bool true]) | _ => none)) (consT 47 (gDT kT0 kT1 kT2 dDeal pDeal (fun n => match n with | 135 => some (.tup [.agg (dv b a 1), .bool true]) | 302 => some (.tup [.agg (dv a b 1), .bool true]) | 402 => some (.tup [.agg (dv a b 1), .bool true]) | _ => none)) (consT 10 (gD dOff pFine noV) (consO 9 (gTrue kT0 kT1 kT2) noOX))))))
def treeLR1_1n (a : Gw.Offer) (b : Gw.Offer) (bv : V) (R : List V) (ss : List Str) (qv : V) (count : Int) (c : Int) : DT V :=
  .ob (dOff [.agg a.vs]) (
.ob (((V.beq (.agg b.vs) (.agg b.vs)) && true) = true) (
.ob (dOff [.agg b.vs]) (
.ob (dPair [.agg (fineO a).vs, .agg (fineO b).vs] ∧ pPair [.agg (fineO a).vs, .agg (fineO b).vs] 7 = [[.int .u32 1, vi 0, vi (fineO a).baud, vi (fineO a).silent, vi (fineO a).win, vi (fineO a).size, vi (fineO a).wait, vi 2, .int .u32 2, vi 0, vi 1, vi (dealL (fineO a) (fineO b)).baud, vi 200, vi (dealL (fineO a) (fineO b)).win, vi (dealL (fineO a) (fineO b)).size, vi 1, .ptr 8 0, vi 1, vi 0, vi 0, vi 0, vi 0, vi 1, vi 0, .bool false, .bool false, .bool false, .nils], [vi 1, vi (if (64 : Int) < (dealL (fineO a) (fineO b)).size then 64 else (dealL (fineO a) (fineO b)).size), .ptr 9 0, .ptr 10 0, .bool true], [vi (if (7 : Int) < (if (1 : Int) > (dealL (fineO a) (fineO b)).win then 1 else (dealL (fineO a) (fineO b)).win) then 7 else (if (1 : Int) > (dealL (fineO a) (fineO b)).win then 1 else (dealL (fineO a) (fineO b)).win)), .nils, vi 0, vi 0], [vi 0, .bool false], [.int .u32 2, vi 1, vi (fineO b).baud, vi (fineO b).silent, vi (fineO b).win, vi (fineO b).size, vi (fineO b).wait, vi 2, .int .u32 1, vi 0, vi 1, vi (dealL (fineO b) (fineO a)).baud, vi 200, vi (dealL (fineO b) (fineO a)).win, vi (dealL (fineO b) (fineO a)).size, vi 1, .ptr 12 0, vi 0, vi 0, vi 0, vi 0, vi 0, vi 0, vi 2, .bool false, .bool false, .bool false, .nils], [vi 2, vi (if (64 : Int) < (dealL (fineO b) (fineO a)).size then 64 else (dealL (fineO b) (fineO a)).size), .ptr 13 0, .ptr 14 0, .bool false], [vi (if (7 : Int) < (if (1 : Int) > (dealL (fineO b) (fineO a)).win then 1 else (dealL (fineO b) (fineO a)).win) then 7 else (if (1 : Int) > (dealL (fineO b) (fineO a)).win then 1 else (dealL (fineO b) (fineO a)).win)), .nils, vi 0, vi 0], [vi 0, .bool false]]) (
.ob ((SNRK a b (mskV (fnO 15 [none]) bv) (mskVs (fnO 15 [none]) R) ss qv count 1 1 2 (vi 0) (.nils) none : Snap) = (loopRK a b bv R ss qv count 1 1 2).S (.c0)) (
.ob (invRK a b bv R ss qv count 1 1 2 .c0) (
.ob (True) (
.ob (IntKind.i64 = IntKind.i64 ∧ (250 : Int) ≠ 0) (
.ob (dPut [.agg [.int .u32 1, .int .u32 2, vi 0, vi 2, vi (fineO a).baud, vi (fineO a).silent, vi (fineO a).win, vi (fineO a).size, vi (fineO a).wait]]) (
.ob (pPut [.agg [.int .u32 1, .int .u32 2, vi 0, vi 2, vi (fineO a).baud, vi (fineO a).silent, vi (fineO a).win, vi (fineO a).size, vi (fineO a).wait]] = (.tup [.str (sA a), .bool true])) (
.ob (9 = 9 ∧ 0 ≤ (0 : Int) ∧ (0 : Int) < ((1 : Nat) : Int)) (
.ob (9 = 9 ∧ 0 ≤ (0 : Int) ∧ (0 : Int) < ((1 : Nat) : Int)) (
.ob (((V.beq (.str (sA a)) (.str (sA a))) && ((V.beq (.bool true) (.bool true)) && ((V.beq (.agg [vi 127, vi 255]) (.agg [vi 127, vi 255])) && true))) = true) (
.ob (((V.beq (vi 2) (vi 2)) && true) = true) (
.ob (((V.beq (.agg [vi 127, vi 255, .bool true, vi 3, vi 2, vi 0, vi 0, .bool true, .str (sA a)]) (.agg [vi 127, vi 255, .bool true, vi 3, vi 2, vi 0, vi 0, .bool true, .str (sA a)])) && true) = true) (
.ob (((eqV (.agg [.i, .i, .b, .i, .i, .i, .i, .b, .s]) (.agg [vi 127, vi 255, .bool true, vi 3, vi 2, vi 0, vi 0, .bool true, .str (sA a)]) (.agg [vi 127, vi 255, .bool true, vi 3, vi 2, vi 0, vi 0, .bool true, .str (sA a)])).map fun b => V.bool (if true then !b else b)) = some (.bool false)) (
.ob (((V.beq (.agg [vi 127, vi 255]) (.agg [vi 127, vi 255])) && true) = true) (
.ob (True) (
.ob (dGet [.str (sA a)]) (
.ob (pGet [.str (sA a)] = (.tup [.agg [.int .u32 1, .int .u32 2, vi 0, vi 2, vi (fineO a).baud, vi (fineO a).silent, vi (fineO a).win, vi (fineO a).size, vi (fineO a).wait], .bool true])) (
.ob (dDeal [.agg (fineO b).vs, .agg (fineO a).vs]) (
.ob (pDeal [.agg (fineO b).vs, .agg (fineO a).vs] = (.tup [.agg (dv b a 1), .bool true])) (
.ob (True) (
.ob (((V.beq (vi (dealL (fineO b) (fineO a)).size) (vi (dealL (fineO b) (fineO a)).size)) && true) = true) (
.ob (((V.beq (vi (dealL (fineO b) (fineO a)).size) (vi (dealL (fineO b) (fineO a)).size)) && true) = true) (
.ob (((V.beq (.agg (dv b a 1)) (.agg (dv b a 1))) && ((V.beq (.agg [vi 0, vi 2]) (.agg [vi 0, vi 2])) && true)) = true) (
.ob (((V.beq (.agg (dv b a 1)) (.agg (dv b a 1))) && ((V.beq (.agg [vi 0, vi 2]) (.agg [vi 0, vi 2])) && true)) = true) (
.ob (((V.beq (.agg (dv b a 1)) (.agg (dv b a 1))) && ((V.beq (.agg [vi 0, vi 2]) (.agg [vi 0, vi 2])) && true)) = true) (
.ob (((V.beq (.agg (dv b a 1)) (.agg (dv b a 1))) && true) = true) (
.ob (((V.beq (vi 1) (vi 1)) && true) = true) (
.ob (((V.beq (vi 1) (vi 1)) && true) = true) (
.ob (((V.beq (vi 1) (vi 1)) && true) = true) (
.ob (dPut [.agg [.int .u32 2, .int .u32 1, vi 0, vi 2, vi (fineO b).baud, vi (fineO b).silent, vi (fineO b).win, vi (fineO b).size, vi (fineO b).wait]]) (
.ob (pPut [.agg [.int .u32 2, .int .u32 1, vi 0, vi 2, vi (fineO b).baud, vi (fineO b).silent, vi (fineO b).win, vi (fineO b).size, vi (fineO b).wait]] = (.tup [.str (sB b), .bool true])) (
.ob (4 = 4 ∧ 0 ≤ (0 : Int) ∧ (0 : Int) < ((1 : Nat) : Int)) (
.ob (9 = 9 ∧ 0 ≤ (0 : Int) ∧ (0 : Int) < ((1 : Nat) : Int)) (
.ob (True) (
.ob (9 = 9 ∧ 0 ≤ (0 : Int) ∧ (0 : Int) < ((1 : Nat) : Int)) (
.ob (IntKind.i64 = IntKind.i64 ∧ (250 : Int) ≠ 0) (
.ob (IntKind.i64 = IntKind.i64 ∧ (250 : Int) ≠ 0) (
.ob (binV .rem (vi (wrapK .i64 ((((wrapK .i64 (((count : Int).tmod 250) + 250)) : Int).tmod 250) + 1))) (vi 250) = some (vi c)) (
.ob ((some (V.int .u8 (wrapK .u8 c)) : Option V) = some (.int .u8 c)) (
.ob (1 = 1 ∧ 0 ≤ (9 : Int) ∧ (9 : Int) < ((25 : Nat) : Int)) (
.ob (9 = 9 ∧ 0 ≤ (0 : Int) ∧ (0 : Int) < ((1 : Nat) : Int)) (
.ob (binV .neq (.str (sC c b)) (.str (sB b)) = some (.bool true)) (
.ob (((V.beq (.str (sC c b)) (.str (sC c b))) && ((V.beq (.bool false) (.bool false)) && ((V.beq (.agg [vi 127, vi 255]) (.agg [vi 127, vi 255])) && true))) = true) (
.ob (((V.beq (vi 3) (vi 3)) && true) = true) (
.ob (((V.beq (.agg [vi 127, vi 255, .bool false, vi 3, vi 3, vi 0, vi 0, .bool true, .str (sC c b)]) (.agg [vi 127, vi 255, .bool false, vi 3, vi 3, vi 0, vi 0, .bool true, .str (sC c b)])) && true) = true) (
.ob (((eqV (.agg [.i, .i, .b, .i, .i, .i, .i, .b, .s]) (.agg [vi 127, vi 255, .bool false, vi 3, vi 3, vi 0, vi 0, .bool true, .str (sC c b)]) (.agg [vi 127, vi 255, .bool false, vi 3, vi 3, vi 0, vi 0, .bool true, .str (sC c b)])).map fun b => V.bool (if true then !b else b)) = some (.bool false)) (
.ob (((V.beq (.agg [vi 127, vi 255]) (.agg [vi 127, vi 255])) && true) = true) (
.ob (True) (
.ob (dGet [.str (sC c b)]) (
.ob (pGet [.str (sC c b)] = (.tup [.agg [.int .u32 2, .int .u32 1, vi 0, vi c, vi (fineO b).baud, vi (fineO b).silent, vi (fineO b).win, vi (fineO b).size, vi (fineO b).wait], .bool true])) (
.ob (dDeal [.agg (fineO a).vs, .agg (fineO b).vs]) (
.ob (pDeal [.agg (fineO a).vs, .agg (fineO b).vs] = (.tup [.agg (dv a b 1), .bool true])) (
.ob (((eqV (.agg [.i, .i]) (.agg [vi 0, vi c]) (.agg [vi 0, vi 2])).map fun b => V.bool (if false then !b else b)) = some (.bool false)) (
.ob (9 = 9 ∧ 0 ≤ (0 : Int) ∧ (0 : Int) < ((1 : Nat) : Int)) (
.ob (((V.beq (.str (sB b)) (.str (sB b))) && ((V.beq (.bool false) (.bool false)) && ((V.beq (.agg [vi 127, vi 255]) (.agg [vi 127, vi 255])) && true))) = true) (
.ob (((V.beq (vi 3) (vi 3)) && true) = true) (
.ob (((V.beq (.agg [vi 127, vi 255, .bool false, vi 3, vi 3, vi 0, vi 0, .bool true, .str (sB b)]) (.agg [vi 127, vi 255, .bool false, vi 3, vi 3, vi 0, vi 0, .bool true, .str (sB b)])) && true) = true) (
.ob (((eqV (.agg [.i, .i, .b, .i, .i, .i, .i, .b, .s]) (.agg [vi 127, vi 255, .bool false, vi 3, vi 3, vi 0, vi 0, .bool true, .str (sB b)]) (.agg [vi 127, vi 255, .bool false, vi 3, vi 3, vi 0, vi 0, .bool true, .str (sB b)])).map fun b => V.bool (if true then !b else b)) = some (.bool false)) (
.ob (((V.beq (.agg [vi 127, vi 255]) (.agg [vi 127, vi 255])) && true) = true) (
.ob (True) (
.ob (dGet [.str (sB b)]) (
.ob (pGet [.str (sB b)] = (.tup [.agg [.int .u32 2, .int .u32 1, vi 0, vi 2, vi (fineO b).baud, vi (fineO b).silent, vi (fineO b).win, vi (fineO b).size, vi (fineO b).wait], .bool true])) (
.ob (dDeal [.agg (fineO a).vs, .agg (fineO b).vs]) (
.ob (pDeal [.agg (fineO a).vs, .agg (fineO b).vs] = (.tup [.agg (dv a b 1), .bool true])) (
.ob (((eqV (.agg [.i, .i]) (.agg [vi 0, vi 2]) (.agg [vi 0, vi 2])).map fun b => V.bool (if false then !b else b)) = some (.bool true)) (
.ob (((V.beq (vi (dealL (fineO a) (fineO b)).size) (vi (dealL (fineO a) (fineO b)).size)) && true) = true) (
.ob (((V.beq (vi (dealL (fineO a) (fineO b)).size) (vi (dealL (fineO a) (fineO b)).size)) && true) = true) (
.ob (((V.beq (.agg (dv a b 1)) (.agg (dv a b 1))) && ((V.beq (.agg [vi 0, vi 2]) (.agg [vi 0, vi 2])) && true)) = true) (
.ob (((V.beq (.agg (dv a b 1)) (.agg (dv a b 1))) && ((V.beq (.agg [vi 0, vi 2]) (.agg [vi 0, vi 2])) && true)) = true) (
.ob (((V.beq (.agg (dv a b 1)) (.agg (dv a b 1))) && ((V.beq (.agg [vi 0, vi 2]) (.agg [vi 0, vi 2])) && true)) = true) (
.ob (((V.beq (.agg (dv a b 1)) (.agg (dv a b 1))) && true) = true) (
.ob (((V.beq (vi 1) (vi 1)) && true) = true) (
.ob (((V.beq (vi 1) (vi 1)) && true) = true) (
.ob (((V.beq (vi 1) (vi 1)) && true) = true) (
.ob (4 = 4 ∧ 0 ≤ (0 : Int) ∧ (0 : Int) < ((1 : Nat) : Int)) (
.ob (True) (
.leaf (.bool true))))))))))))))))))))))))))))))))))))))))))))))))))))))))))))))))))))))))))))))))
set_option maxRecDepth 1000000 in
theorem treeLR1_1n_eq (a : Gw.Offer) (b : Gw.Offer) (bv : V) (R : List V) (ss : List Str) (qv : V) (count : Int) (c : Int) : funT (mkXT (noPX) (oxLR1_1n a b bv R ss qv count c)) (mkXP (noPX)) (mkX (noPX) (oxLR1_1n a b bv R ss qv count c)) D (fun g => match g with | 44 => (fun k => match k with | 52 => some fun t h => (match h.n with | 112 => (.bool false, h) | 279 => (.bool false, h) | _ => (.bool false, h)) | _ => none) | 48 => (fun k => match k with | 58 => some fun t h => (match h.n with | 305 => (.bool false, h) | _ => (.bool true, h)) | _ => none) | _ => noOrc) (fun k => match k with | 8 => [19, 57, 62, 68, 79, 85, 90, 97, 104, 130, 136, 145, 151, 158, 163, 168, 173, 178] | 12 => [10, 15, 20, 25, 30, 31, 37, 41, 50, 81, 90, 98] | 16 => [15, 22, 31, 52, 74, 80, 86, 96] | 22 => [16, 25, 30, 36, 39, 44, 47, 57, 67, 82, 86, 99] | 24 => [10, 20] | 31 => [10, 33, 34, 52, 66, 67, 71] | 34 => [4, 9] | 35 => [8, 25, 32] | 37 => [28, 30] | 38 => [9] | 40 => [7, 20] | 44 => [8, 15, 26, 37, 41, 46, 52] | 48 => [14, 20, 44, 49, 58] | 49 => [13, 26, 34, 39, 47] | 71 => [10] | 76 => [11, 16, 20, 25, 30, 34, 39] | 77 => [8, 14, 19, 24, 34, 44] | 104 => [6, 9, 20] | 129 => [8, 19, 30, 34, 38] | 130 => [8, 13, 18, 21] | _ => []) 12 (fun k => match k with | 118 => some fun t h => (vi c, h) | 119 => some fun t h => (.int .u8 c, h) | 130 => some fun t h => (.bool true, h) | _ => none) [19, 57, 62, 68, 79, 85, 90, 97, 104, 130, 136, 145, 151, 158, 163, 168, 173, 178] (ltK a b bv R ss qv count 1 1 2) (dOf 8) [.agg a.vs, .agg b.vs, bv, vi count] ((tabH kT0 kT1 kT2 4).put 3 (some (.cells true R))) (fun v _ => v) = treeLR1_1n a b bv R ss qv count c := by kernel_rfl
theorem satLR1_1n (a : Gw.Offer) (b : Gw.Offer) (bv : V) (R : List V) (ss : List Str) (qv : V) (count : Int) (c : Int) (hwa : loL (fineO a).wait = 1) (hwb : loL (fineO b).wait = 1) (hbv : mskV (fnO 15 [none]) bv = bv) (hR : mskVs (fnO 15 [none]) R = R) (hn : ((count.tmod 250 + 250).tmod 250 + 1).tmod 250 = c) (hc : 0 ≤ c ∧ c < 250) (hc2 : c ≠ 2) : (treeLR1_1n a b bv R ss qv count c).sat fun v => v = .bool true :=
 sat_ob trivial (
sat_ob (by simp only [V.beq_refl, Bool.and_true]) (
sat_ob trivial (
sat_ob ⟨⟨(mayO_fine a), (mayO_fine b)⟩, by show pairRows (fineO a) (fineO b) 7 = _; unfold pairRows; rw [hwa, hwb]; rfl⟩ (
sat_ob (by rw [hbv, hR]; kernel_rfl) (
sat_ob (Nat.zero_le _) (
sat_ob trivial (
sat_ob (by decide) (
sat_ob (okSet 1 2 0 2 a (by decide) (by decide) (by decide) (by decide)) (
sat_ob (by kernel_rfl) (
sat_ob (by decide) (
sat_ob (by decide) (
sat_ob (by simp only [V.beq_refl, Bool.and_true]) (
sat_ob (by simp only [V.beq_refl, Bool.and_true]) (
sat_ob (by simp only [V.beq_refl, Bool.and_true]) (
sat_ob (by simp [eqV, eqCells]) (
sat_ob (by simp only [V.beq_refl, Bool.and_true]) (
sat_ob trivial (
sat_ob ⟨⟨1, 2, 0, 2, fineO a⟩, (okSet 1 2 0 2 a (by decide) (by decide) (by decide) (by decide)), sA_eq a⟩ (
sat_ob (by rw [sA_eq]; exact get_put ⟨1, 2, 0, 2, fineO a⟩ (okSet 1 2 0 2 a (by decide) (by decide) (by decide) (by decide))) (
sat_ob ⟨(mayO_fine b), (mayO_fine a)⟩ (
sat_ob (by show V.tup [.agg [vi _, vi _, vi _, vi _, vi (loL (fineO a).wait)], .bool true] = _; rw [hwa]; rfl) (
sat_ob trivial (
sat_ob (by simp only [V.beq_refl, Bool.and_true]) (
sat_ob (by simp only [V.beq_refl, Bool.and_true]) (
sat_ob (by simp only [V.beq_refl, Bool.and_true]) (
sat_ob (by simp only [V.beq_refl, Bool.and_true]) (
sat_ob (by simp only [V.beq_refl, Bool.and_true]) (
sat_ob (by simp only [V.beq_refl, Bool.and_true]) (
sat_ob (by simp only [V.beq_refl, Bool.and_true]) (
sat_ob (by simp only [V.beq_refl, Bool.and_true]) (
sat_ob (by simp only [V.beq_refl, Bool.and_true]) (
sat_ob (okSet 2 1 0 2 b (by decide) (by decide) (by decide) (by decide)) (
sat_ob (by kernel_rfl) (
sat_ob (by decide) (
sat_ob (by decide) (
sat_ob trivial (
sat_ob (by decide) (
sat_ob (by decide) (
sat_ob (by decide) (
sat_ob (rm2 hn) (
sat_ob (by rw [w8 (by omega)]) (
sat_ob (by decide) (
sat_ob (by decide) (
sat_ob (by simp [binV, sC_ne hc hc2]) (
sat_ob (by simp only [V.beq_refl, Bool.and_true]) (
sat_ob (by simp only [V.beq_refl, Bool.and_true]) (
sat_ob (by simp only [V.beq_refl, Bool.and_true]) (
sat_ob (by simp [eqV, eqCells]) (
sat_ob (by simp only [V.beq_refl, Bool.and_true]) (
sat_ob trivial (
sat_ob ⟨⟨2, 1, 0, c, fineO b⟩, (okSet 2 1 0 c b (by decide) (by decide) (by decide) hc), sC_eq c b⟩ (
sat_ob (by rw [sC_eq]; exact get_put ⟨2, 1, 0, c, fineO b⟩ (okSet 2 1 0 c b (by decide) (by decide) (by decide) hc)) (
sat_ob ⟨(mayO_fine a), (mayO_fine b)⟩ (
sat_ob (by show V.tup [.agg [vi _, vi _, vi _, vi _, vi (loL (fineO b).wait)], .bool true] = _; rw [hwb]; rfl) (
sat_ob (by simp [eqV, eqCells, hc2]) (
sat_ob (by decide) (
sat_ob (by simp only [V.beq_refl, Bool.and_true]) (
sat_ob (by simp only [V.beq_refl, Bool.and_true]) (
sat_ob (by simp only [V.beq_refl, Bool.and_true]) (
sat_ob (by simp [eqV, eqCells]) (
sat_ob (by simp only [V.beq_refl, Bool.and_true]) (
sat_ob trivial (
sat_ob ⟨⟨2, 1, 0, 2, fineO b⟩, (okSet 2 1 0 2 b (by decide) (by decide) (by decide) (by decide)), sB_eq b⟩ (
sat_ob (by rw [sB_eq]; exact get_put ⟨2, 1, 0, 2, fineO b⟩ (okSet 2 1 0 2 b (by decide) (by decide) (by decide) (by decide))) (
sat_ob ⟨(mayO_fine a), (mayO_fine b)⟩ (
sat_ob (by show V.tup [.agg [vi _, vi _, vi _, vi _, vi (loL (fineO b).wait)], .bool true] = _; rw [hwb]; rfl) (
sat_ob (by simp [eqV, eqCells]) (
sat_ob (by simp only [V.beq_refl, Bool.and_true]) (
sat_ob (by simp only [V.beq_refl, Bool.and_true]) (
sat_ob (by simp only [V.beq_refl, Bool.and_true]) (
sat_ob (by simp only [V.beq_refl, Bool.and_true]) (
sat_ob (by simp only [V.beq_refl, Bool.and_true]) (
sat_ob (by simp only [V.beq_refl, Bool.and_true]) (
sat_ob (by simp only [V.beq_refl, Bool.and_true]) (
sat_ob (by simp only [V.beq_refl, Bool.and_true]) (
sat_ob (by simp only [V.beq_refl, Bool.and_true]) (
sat_ob (by decide) (
sat_ob trivial (
sat_leaf (rfl))))))))))))))))))))))))))))))))))))))))))))))))))))))))))))))))))))))))))))))))
set_option maxRecDepth 1000000 in
theorem runLR1_1n (a : Gw.Offer) (b : Gw.Offer) (bv : V) (R : List V) (ss : List Str) (qv : V) (count : Int) (c : Int) (hwa : loL (fineO a).wait = 1) (hwb : loL (fineO b).wait = 1) (hbv : mskV (fnO 15 [none]) bv = bv) (hR : mskVs (fnO 15 [none]) R = R) (hn : ((count.tmod 250 + 250).tmod 250 + 1).tmod 250 = c) (hc : 0 ≤ c ∧ c < 250) (hc2 : c ≠ 2) (hl : ∀ hint, Lt1 Tryz.prog hint 4 (loopRK a b bv R ss qv count 1 1 2).lt lpRK) : Run Tryz.prog 8 [.agg a.vs, .agg b.vs, bv, vi count] ((tabH kT0 kT1 kT2 4).put 3 (some (.cells true R))) fun v _ => v = .bool true := by
  refine run_loops mixed (show TabX Tryz.prog noPX (oxLR1_1n a b bv R ss qv count c) from ((((((TabX.nil.addO ans_begun).addT (ans_fine noV)).addT (ans_deal (fun n => match n with | 135 => some (.tup [.agg (dv b a 1), .bool true]) | 302 => some (.tup [.agg (dv a b 1), .bool true]) | 402 => some (.tup [.agg (dv a b 1), .bool true]) | _ => none))).addT (ans_put (fun n => match n with | 35 => some (.tup [.str (sA a), .bool true]) | 175 => some (.tup [.str (sB b), .bool true]) | _ => none))).addT (ans_get (fun n => match n with | 122 => some (.tup [.agg [.int .u32 1, .int .u32 2, vi 0, vi 2, vi (fineO a).baud, vi (fineO a).silent, vi (fineO a).win, vi (fineO a).size, vi (fineO a).wait], .bool true]) | 289 => some (.tup [.agg [.int .u32 2, .int .u32 1, vi 0, vi c, vi (fineO b).baud, vi (fineO b).silent, vi (fineO b).win, vi (fineO b).size, vi (fineO b).wait], .bool true]) | 389 => some (.tup [.agg [.int .u32 2, .int .u32 1, vi 0, vi 2, vi (fineO b).baud, vi (fineO b).silent, vi (fineO b).win, vi (fineO b).size, vi (fineO b).wait], .bool true]) | _ => none))).addT (ans_pair (fun n => match n with | 7 => some ([[.int .u32 1, vi 0, vi (fineO a).baud, vi (fineO a).silent, vi (fineO a).win, vi (fineO a).size, vi (fineO a).wait, vi 2, .int .u32 2, vi 0, vi 1, vi (dealL (fineO a) (fineO b)).baud, vi 200, vi (dealL (fineO a) (fineO b)).win, vi (dealL (fineO a) (fineO b)).size, vi 1, .ptr 8 0, vi 1, vi 0, vi 0, vi 0, vi 0, vi 1, vi 0, .bool false, .bool false, .bool false, .nils], [vi 1, vi (if (64 : Int) < (dealL (fineO a) (fineO b)).size then 64 else (dealL (fineO a) (fineO b)).size), .ptr 9 0, .ptr 10 0, .bool true], [vi (if (7 : Int) < (if (1 : Int) > (dealL (fineO a) (fineO b)).win then 1 else (dealL (fineO a) (fineO b)).win) then 7 else (if (1 : Int) > (dealL (fineO a) (fineO b)).win then 1 else (dealL (fineO a) (fineO b)).win)), .nils, vi 0, vi 0], [vi 0, .bool false], [.int .u32 2, vi 1, vi (fineO b).baud, vi (fineO b).silent, vi (fineO b).win, vi (fineO b).size, vi (fineO b).wait, vi 2, .int .u32 1, vi 0, vi 1, vi (dealL (fineO b) (fineO a)).baud, vi 200, vi (dealL (fineO b) (fineO a)).win, vi (dealL (fineO b) (fineO a)).size, vi 1, .ptr 12 0, vi 0, vi 0, vi 0, vi 0, vi 0, vi 0, vi 2, .bool false, .bool false, .bool false, .nils], [vi 2, vi (if (64 : Int) < (dealL (fineO b) (fineO a)).size then 64 else (dealL (fineO b) (fineO a)).size), .ptr 13 0, .ptr 14 0, .bool false], [vi (if (7 : Int) < (if (1 : Int) > (dealL (fineO b) (fineO a)).win then 1 else (dealL (fineO b) (fineO a)).win) then 7 else (if (1 : Int) > (dealL (fineO b) (fineO a)).win then 1 else (dealL (fineO b) (fineO a)).win)), .nils, vi 0, vi 0], [vi 0, .bool false]]) | _ => none)))) tabD (dIs (by kernel_rfl)) (lt := ltK a b bv R ss qv count 1 1 2) (fun hint p hp => ?_) (treeLR1_1n_eq a b bv R ss qv count c) (satLR1_1n a b bv R ss qv count c hwa hwb hbv hR hn hc hc2)
  rw [loopsRK] at hp
  simp only [List.mem_cons, List.not_mem_nil, or_false] at hp
  subst hp
  exact hl hint
def oxLR1_2e (a : Gw.Offer) (b : Gw.Offer) (bv : V) (R : List V) (ss : List Str) (qv : V) (count : Int) : OTab := (consT 11 (gNew kT0 kT1 kT2 dPair pPair prPair (fun n => match n with | 7 => some ([[.int .u32 1, vi 0, vi (fineO a).baud, vi (fineO a).silent, vi (fineO a).win, vi (fineO a).size, vi (fineO a).wait, vi 2, .int .u32 2, vi 0, vi 1, vi (dealL (fineO a) (fineO b)).baud, vi 200, vi (dealL (fineO a) (fineO b)).win, vi (dealL (fineO a) (fineO b)).size, vi 2, .ptr 8 0, vi 1, vi 0, vi 0, vi 0, vi 0, vi 2, vi 0, .bool false, .bool false, .bool false, .nils], [vi 1, vi (if (64 : Int) < (dealL (fineO a) (fineO b)).size then 64 else (dealL (fineO a) (fineO b)).size), .ptr 9 0, .ptr 10 0, .bool true], [vi (if (7 : Int) < (if (1 : Int) > (dealL (fineO a) (fineO b)).win then 1 else (dealL (fineO a) (fineO b)).win) then 7 else (if (1 : Int) > (dealL (fineO a) (fineO b)).win then 1 else (dealL (fineO a) (fineO b)).win)), .nils, vi 0, vi 0], [vi 0, .bool false], [.int .u32 2, vi 1, vi (fineO b).baud, vi (fineO b).silent, vi (fineO b).win, vi (fineO b).size, vi (fineO b).wait, vi 2, .int .u32 1, vi 0, vi 1, vi (dealL (fineO b) (fineO a)).baud, vi 200, vi (dealL (fineO b) (fineO a)).win, vi (dealL (fineO b) (fineO a)).size, vi 1, .ptr 12 0, vi 0, vi 0, vi 0, vi 0, vi 0, vi 0, vi 2, .bool false, .bool false, .bool false, .nils], [vi 2, vi (if (64 : Int) < (dealL (fineO b) (fineO a)).size then 64 else (dealL (fineO b) (fineO a)).size), .ptr 13 0, .ptr 14 0, .bool false], [vi (if (7 : Int) < (if (1 : Int) > (dealL (fineO b) (fineO a)).win then 1 else (dealL (fineO b) (fineO a)).win) then 7 else (if (1 : Int) > (dealL (fineO b) (fineO a)).win then 1 else (dealL (fineO b) (fineO a)).win)), .nils, vi 0, vi 0], [vi 0, .bool false]]) | _ => none)) (consT 46 (gD dGet pGet (fun n => match n with | 122 => some (.tup [.agg [.int .u32 1, .int .u32 2, vi 0, vi 2, vi (fineO a).baud, vi (fineO a).silent, vi (fineO a).win, vi (fineO a).size, vi (fineO a).wait], .bool true]) | 289 => some (.tup [.agg [.int .u32 2, .int .u32 1, vi 0, vi 2, vi (fineO b).baud, vi (fineO b).silent, vi (fineO b).win, vi (fineO b).size, vi (fineO b).wait], .bool true]) | _ => none)) (consT 70 (gD dPut pPut (fun n => match n with | 35 => some (.tup [.str (sA a), .bool true]) | 175 => some (.tup [.str (sB b), .bool true]) | _ => none)) (consT 47 (gDT kT0 kT1 kT2 dDeal pDeal (fun n => match n with | 135 => some (.tup [.agg (dv b a 1), .bool true]) | 302 => some (.tup [.agg (dv a b 2), .bool true]) | _ => none)) (consT 10 (gD dOff pFine noV) (consO 9 (gTrue kT0 kT1 kT2) noOX))))))
def treeLR1_2e (a : Gw.Offer) (b : Gw.Offer) (bv : V) (R : List V) (ss : List Str) (qv : V) (count : Int) : DT V :=
  .ob (dOff [.agg a.vs]) (
.ob (((V.beq (.agg b.vs) (.agg b.vs)) && true) = true) (
.ob (dOff [.agg b.vs]) (
.ob (dPair [.agg (fineO a).vs, .agg (fineO b).vs] ∧ pPair [.agg (fineO a).vs, .agg (fineO b).vs] 7 = [[.int .u32 1, vi 0, vi (fineO a).baud, vi (fineO a).silent, vi (fineO a).win, vi (fineO a).size, vi (fineO a).wait, vi 2, .int .u32 2, vi 0, vi 1, vi (dealL (fineO a) (fineO b)).baud, vi 200, vi (dealL (fineO a) (fineO b)).win, vi (dealL (fineO a) (fineO b)).size, vi 2, .ptr 8 0, vi 1, vi 0, vi 0, vi 0, vi 0, vi 2, vi 0, .bool false, .bool false, .bool false, .nils], [vi 1, vi (if (64 : Int) < (dealL (fineO a) (fineO b)).size then 64 else (dealL (fineO a) (fineO b)).size), .ptr 9 0, .ptr 10 0, .bool true], [vi (if (7 : Int) < (if (1 : Int) > (dealL (fineO a) (fineO b)).win then 1 else (dealL (fineO a) (fineO b)).win) then 7 else (if (1 : Int) > (dealL (fineO a) (fineO b)).win then 1 else (dealL (fineO a) (fineO b)).win)), .nils, vi 0, vi 0], [vi 0, .bool false], [.int .u32 2, vi 1, vi (fineO b).baud, vi (fineO b).silent, vi (fineO b).win, vi (fineO b).size, vi (fineO b).wait, vi 2, .int .u32 1, vi 0, vi 1, vi (dealL (fineO b) (fineO a)).baud, vi 200, vi (dealL (fineO b) (fineO a)).win, vi (dealL (fineO b) (fineO a)).size, vi 1, .ptr 12 0, vi 0, vi 0, vi 0, vi 0, vi 0, vi 0, vi 2, .bool false, .bool false, .bool false, .nils], [vi 2, vi (if (64 : Int) < (dealL (fineO b) (fineO a)).size then 64 else (dealL (fineO b) (fineO a)).size), .ptr 13 0, .ptr 14 0, .bool false], [vi (if (7 : Int) < (if (1 : Int) > (dealL (fineO b) (fineO a)).win then 1 else (dealL (fineO b) (fineO a)).win) then 7 else (if (1 : Int) > (dealL (fineO b) (fineO a)).win then 1 else (dealL (fineO b) (fineO a)).win)), .nils, vi 0, vi 0], [vi 0, .bool false]]) (
.ob ((SNRK a b (mskV (fnO 15 [none]) bv) (mskVs (fnO 15 [none]) R) ss qv count 2 1 2 (vi 0) (.nils) none : Snap) = (loopRK a b bv R ss qv count 2 1 2).S (.c0)) (
.ob (invRK a b bv R ss qv count 2 1 2 .c0) (
.ob (True) (
.ob (IntKind.i64 = IntKind.i64 ∧ (250 : Int) ≠ 0) (
.ob (dPut [.agg [.int .u32 1, .int .u32 2, vi 0, vi 2, vi (fineO a).baud, vi (fineO a).silent, vi (fineO a).win, vi (fineO a).size, vi (fineO a).wait]]) (
.ob (pPut [.agg [.int .u32 1, .int .u32 2, vi 0, vi 2, vi (fineO a).baud, vi (fineO a).silent, vi (fineO a).win, vi (fineO a).size, vi (fineO a).wait]] = (.tup [.str (sA a), .bool true])) (
.ob (9 = 9 ∧ 0 ≤ (0 : Int) ∧ (0 : Int) < ((1 : Nat) : Int)) (
.ob (9 = 9 ∧ 0 ≤ (0 : Int) ∧ (0 : Int) < ((1 : Nat) : Int)) (
.ob (((V.beq (.str (sA a)) (.str (sA a))) && ((V.beq (.bool true) (.bool true)) && ((V.beq (.agg [vi 127, vi 255]) (.agg [vi 127, vi 255])) && true))) = true) (
.ob (((V.beq (vi 2) (vi 2)) && true) = true) (
.ob (((V.beq (.agg [vi 127, vi 255, .bool true, vi 3, vi 2, vi 0, vi 0, .bool true, .str (sA a)]) (.agg [vi 127, vi 255, .bool true, vi 3, vi 2, vi 0, vi 0, .bool true, .str (sA a)])) && true) = true) (
.ob (((eqV (.agg [.i, .i, .b, .i, .i, .i, .i, .b, .s]) (.agg [vi 127, vi 255, .bool true, vi 3, vi 2, vi 0, vi 0, .bool true, .str (sA a)]) (.agg [vi 127, vi 255, .bool true, vi 3, vi 2, vi 0, vi 0, .bool true, .str (sA a)])).map fun b => V.bool (if true then !b else b)) = some (.bool false)) (
.ob (((V.beq (.agg [vi 127, vi 255]) (.agg [vi 127, vi 255])) && true) = true) (
.ob (True) (
.ob (dGet [.str (sA a)]) (
.ob (pGet [.str (sA a)] = (.tup [.agg [.int .u32 1, .int .u32 2, vi 0, vi 2, vi (fineO a).baud, vi (fineO a).silent, vi (fineO a).win, vi (fineO a).size, vi (fineO a).wait], .bool true])) (
.ob (dDeal [.agg (fineO b).vs, .agg (fineO a).vs]) (
.ob (pDeal [.agg (fineO b).vs, .agg (fineO a).vs] = (.tup [.agg (dv b a 1), .bool true])) (
.ob (True) (
.ob (((V.beq (vi (dealL (fineO b) (fineO a)).size) (vi (dealL (fineO b) (fineO a)).size)) && true) = true) (
.ob (((V.beq (vi (dealL (fineO b) (fineO a)).size) (vi (dealL (fineO b) (fineO a)).size)) && true) = true) (
.ob (((V.beq (.agg (dv b a 1)) (.agg (dv b a 1))) && ((V.beq (.agg [vi 0, vi 2]) (.agg [vi 0, vi 2])) && true)) = true) (
.ob (((V.beq (.agg (dv b a 1)) (.agg (dv b a 1))) && ((V.beq (.agg [vi 0, vi 2]) (.agg [vi 0, vi 2])) && true)) = true) (
.ob (((V.beq (.agg (dv b a 1)) (.agg (dv b a 1))) && ((V.beq (.agg [vi 0, vi 2]) (.agg [vi 0, vi 2])) && true)) = true) (
.ob (((V.beq (.agg (dv b a 1)) (.agg (dv b a 1))) && true) = true) (
.ob (((V.beq (vi 1) (vi 1)) && true) = true) (
.ob (((V.beq (vi 1) (vi 1)) && true) = true) (
.ob (((V.beq (vi 1) (vi 1)) && true) = true) (
.ob (dPut [.agg [.int .u32 2, .int .u32 1, vi 0, vi 2, vi (fineO b).baud, vi (fineO b).silent, vi (fineO b).win, vi (fineO b).size, vi (fineO b).wait]]) (
.ob (pPut [.agg [.int .u32 2, .int .u32 1, vi 0, vi 2, vi (fineO b).baud, vi (fineO b).silent, vi (fineO b).win, vi (fineO b).size, vi (fineO b).wait]] = (.tup [.str (sB b), .bool true])) (
.ob (4 = 4 ∧ 0 ≤ (0 : Int) ∧ (0 : Int) < ((1 : Nat) : Int)) (
.ob (9 = 9 ∧ 0 ≤ (0 : Int) ∧ (0 : Int) < ((1 : Nat) : Int)) (
.ob (True) (
.ob (9 = 9 ∧ 0 ≤ (0 : Int) ∧ (0 : Int) < ((1 : Nat) : Int)) (
.ob (IntKind.i64 = IntKind.i64 ∧ (250 : Int) ≠ 0) (
.ob (binV .rem (vi (wrapK .i64 (((count : Int).tmod 250) + 250))) (vi 250) = some (vi 1)) (
.ob (IntKind.i64 = IntKind.i64 ∧ (250 : Int) ≠ 0) (
.ob (1 = 1 ∧ 0 ≤ (9 : Int) ∧ (9 : Int) < ((25 : Nat) : Int)) (
.ob (9 = 9 ∧ 0 ≤ (0 : Int) ∧ (0 : Int) < ((1 : Nat) : Int)) (
.ob (binV .neq (.str (sD b)) (.str (sB b)) = some (.bool false)) (
.ob (9 = 9 ∧ 0 ≤ (0 : Int) ∧ (0 : Int) < ((1 : Nat) : Int)) (
.ob (((V.beq (.str (sB b)) (.str (sB b))) && ((V.beq (.bool false) (.bool false)) && ((V.beq (.agg [vi 127, vi 255]) (.agg [vi 127, vi 255])) && true))) = true) (
.ob (((V.beq (vi 3) (vi 3)) && true) = true) (
.ob (((V.beq (.agg [vi 127, vi 255, .bool false, vi 3, vi 3, vi 0, vi 0, .bool true, .str (sB b)]) (.agg [vi 127, vi 255, .bool false, vi 3, vi 3, vi 0, vi 0, .bool true, .str (sB b)])) && true) = true) (
.ob (((eqV (.agg [.i, .i, .b, .i, .i, .i, .i, .b, .s]) (.agg [vi 127, vi 255, .bool false, vi 3, vi 3, vi 0, vi 0, .bool true, .str (sB b)]) (.agg [vi 127, vi 255, .bool false, vi 3, vi 3, vi 0, vi 0, .bool true, .str (sB b)])).map fun b => V.bool (if true then !b else b)) = some (.bool false)) (
.ob (((V.beq (.agg [vi 127, vi 255]) (.agg [vi 127, vi 255])) && true) = true) (
.ob (True) (
.ob (dGet [.str (sB b)]) (
.ob (pGet [.str (sB b)] = (.tup [.agg [.int .u32 2, .int .u32 1, vi 0, vi 2, vi (fineO b).baud, vi (fineO b).silent, vi (fineO b).win, vi (fineO b).size, vi (fineO b).wait], .bool true])) (
.ob (dDeal [.agg (fineO a).vs, .agg (fineO b).vs]) (
.ob (pDeal [.agg (fineO a).vs, .agg (fineO b).vs] = (.tup [.agg (dv a b 2), .bool true])) (
.ob (True) (
.ob (((V.beq (vi (dealL (fineO a) (fineO b)).size) (vi (dealL (fineO a) (fineO b)).size)) && true) = true) (
.ob (((V.beq (vi (dealL (fineO a) (fineO b)).size) (vi (dealL (fineO a) (fineO b)).size)) && true) = true) (
.ob (((V.beq (.agg (dv a b 2)) (.agg (dv a b 2))) && ((V.beq (.agg [vi 0, vi 2]) (.agg [vi 0, vi 2])) && true)) = true) (
.ob (((V.beq (.agg (dv a b 2)) (.agg (dv a b 2))) && ((V.beq (.agg [vi 0, vi 2]) (.agg [vi 0, vi 2])) && true)) = true) (
.ob (((V.beq (.agg (dv a b 2)) (.agg (dv a b 2))) && ((V.beq (.agg [vi 0, vi 2]) (.agg [vi 0, vi 2])) && true)) = true) (
.ob (((V.beq (.agg (dv a b 2)) (.agg (dv a b 2))) && true) = true) (
.ob (((V.beq (vi 2) (vi 2)) && true) = true) (
.ob (((V.beq (vi 2) (vi 2)) && true) = true) (
.ob (((V.beq (vi 2) (vi 2)) && true) = true) (
.ob (4 = 4 ∧ 0 ≤ (0 : Int) ∧ (0 : Int) < ((1 : Nat) : Int)) (
.ob (True) (
.leaf (.bool true))))))))))))))))))))))))))))))))))))))))))))))))))))))))))))))))))))
set_option maxRecDepth 1000000 in
theorem treeLR1_2e_eq (a : Gw.Offer) (b : Gw.Offer) (bv : V) (R : List V) (ss : List Str) (qv : V) (count : Int) : funT (mkXT (noPX) (oxLR1_2e a b bv R ss qv count)) (mkXP (noPX)) (mkX (noPX) (oxLR1_2e a b bv R ss qv count)) D (fun g => match g with | 44 => (fun k => match k with | 52 => some fun t h => (match h.n with | 112 => (.bool false, h) | _ => (.bool false, h)) | _ => none) | _ => noOrc) (fun k => match k with | 8 => [19, 57, 62, 68, 79, 85, 90, 97, 104, 130, 145, 151, 158, 163, 168, 173, 178] | 12 => [10, 15, 20, 25, 30, 31, 37, 41, 50, 81, 90, 98] | 16 => [15, 22, 31, 52, 74, 80, 86, 96] | 22 => [16, 25, 30, 36, 39, 44, 47, 57, 67, 82, 86, 99] | 24 => [10, 20] | 31 => [10, 33, 34, 52, 66, 67, 71] | 34 => [4, 9] | 35 => [8, 25, 32] | 37 => [28, 30] | 38 => [9] | 40 => [7, 20] | 44 => [8, 15, 26, 37, 41, 46, 52] | 48 => [14, 20, 44, 49, 58] | 49 => [13, 26, 34, 39, 47] | 71 => [10] | 76 => [11, 16, 20, 25, 30, 34, 39] | 77 => [8, 14, 19, 24, 34, 44] | 104 => [6, 9, 20] | 129 => [8, 19, 30, 34, 38] | 130 => [8, 13, 18, 21] | _ => []) 12 (fun k => match k with | 116 => some fun t h => (vi 1, h) | 130 => some fun t h => (.bool false, h) | _ => none) [19, 57, 62, 68, 79, 85, 90, 97, 104, 130, 145, 151, 158, 163, 168, 173, 178] (ltK a b bv R ss qv count 2 1 2) (dOf 8) [.agg a.vs, .agg b.vs, bv, vi count] ((tabH kT0 kT1 kT2 4).put 3 (some (.cells true R))) (fun v _ => v) = treeLR1_2e a b bv R ss qv count := by kernel_rfl
theorem satLR1_2e (a : Gw.Offer) (b : Gw.Offer) (bv : V) (R : List V) (ss : List Str) (qv : V) (count : Int) (hwa : loL (fineO a).wait = 1) (hwb : loL (fineO b).wait = 2) (hbv : mskV (fnO 15 [none]) bv = bv) (hR : mskVs (fnO 15 [none]) R = R) (he : (count.tmod 250 + 250).tmod 250 = 1) : (treeLR1_2e a b bv R ss qv count).sat fun v => v = .bool true :=
 sat_ob trivial (
sat_ob (by simp only [V.beq_refl, Bool.and_true]) (
sat_ob trivial (
sat_ob ⟨⟨(mayO_fine a), (mayO_fine b)⟩, by show pairRows (fineO a) (fineO b) 7 = _; unfold pairRows; rw [hwa, hwb]; rfl⟩ (
sat_ob (by rw [hbv, hR]; kernel_rfl) (
sat_ob (Nat.zero_le _) (
sat_ob trivial (
sat_ob (by decide) (
sat_ob (okSet 1 2 0 2 a (by decide) (by decide) (by decide) (by decide)) (
sat_ob (by kernel_rfl) (
sat_ob (by decide) (
sat_ob (by decide) (
sat_ob (by simp only [V.beq_refl, Bool.and_true]) (
sat_ob (by simp only [V.beq_refl, Bool.and_true]) (
sat_ob (by simp only [V.beq_refl, Bool.and_true]) (
sat_ob (by simp [eqV, eqCells]) (
sat_ob (by simp only [V.beq_refl, Bool.and_true]) (
sat_ob trivial (
sat_ob ⟨⟨1, 2, 0, 2, fineO a⟩, (okSet 1 2 0 2 a (by decide) (by decide) (by decide) (by decide)), sA_eq a⟩ (
sat_ob (by rw [sA_eq]; exact get_put ⟨1, 2, 0, 2, fineO a⟩ (okSet 1 2 0 2 a (by decide) (by decide) (by decide) (by decide))) (
sat_ob ⟨(mayO_fine b), (mayO_fine a)⟩ (
sat_ob (by show V.tup [.agg [vi _, vi _, vi _, vi _, vi (loL (fineO a).wait)], .bool true] = _; rw [hwa]; rfl) (
sat_ob trivial (
sat_ob (by simp only [V.beq_refl, Bool.and_true]) (
sat_ob (by simp only [V.beq_refl, Bool.and_true]) (
sat_ob (by simp only [V.beq_refl, Bool.and_true]) (
sat_ob (by simp only [V.beq_refl, Bool.and_true]) (
sat_ob (by simp only [V.beq_refl, Bool.and_true]) (
sat_ob (by simp only [V.beq_refl, Bool.and_true]) (
sat_ob (by simp only [V.beq_refl, Bool.and_true]) (
sat_ob (by simp only [V.beq_refl, Bool.and_true]) (
sat_ob (by simp only [V.beq_refl, Bool.and_true]) (
sat_ob (okSet 2 1 0 2 b (by decide) (by decide) (by decide) (by decide)) (
sat_ob (by kernel_rfl) (
sat_ob (by decide) (
sat_ob (by decide) (
sat_ob trivial (
sat_ob (by decide) (
sat_ob (by decide) (
sat_ob (rm1 he) (
sat_ob (by decide) (
sat_ob (by decide) (
sat_ob (by decide) (
sat_ob (by rw [sD_eq]; simp [binV]) (
sat_ob (by decide) (
sat_ob (by simp only [V.beq_refl, Bool.and_true]) (
sat_ob (by simp only [V.beq_refl, Bool.and_true]) (
sat_ob (by simp only [V.beq_refl, Bool.and_true]) (
sat_ob (by simp [eqV, eqCells]) (
sat_ob (by simp only [V.beq_refl, Bool.and_true]) (
sat_ob trivial (
sat_ob ⟨⟨2, 1, 0, 2, fineO b⟩, (okSet 2 1 0 2 b (by decide) (by decide) (by decide) (by decide)), sB_eq b⟩ (
sat_ob (by rw [sB_eq]; exact get_put ⟨2, 1, 0, 2, fineO b⟩ (okSet 2 1 0 2 b (by decide) (by decide) (by decide) (by decide))) (
sat_ob ⟨(mayO_fine a), (mayO_fine b)⟩ (
sat_ob (by show V.tup [.agg [vi _, vi _, vi _, vi _, vi (loL (fineO b).wait)], .bool true] = _; rw [hwb]; rfl) (
sat_ob trivial (
sat_ob (by simp only [V.beq_refl, Bool.and_true]) (
sat_ob (by simp only [V.beq_refl, Bool.and_true]) (
sat_ob (by simp only [V.beq_refl, Bool.and_true]) (
sat_ob (by simp only [V.beq_refl, Bool.and_true]) (
sat_ob (by simp only [V.beq_refl, Bool.and_true]) (
sat_ob (by simp only [V.beq_refl, Bool.and_true]) (
sat_ob (by simp only [V.beq_refl, Bool.and_true]) (
sat_ob (by simp only [V.beq_refl, Bool.and_true]) (
sat_ob (by simp only [V.beq_refl, Bool.and_true]) (
sat_ob (by decide) (
sat_ob trivial (
sat_leaf (rfl))))))))))))))))))))))))))))))))))))))))))))))))))))))))))))))))))))
set_option maxRecDepth 1000000 in
theorem runLR1_2e (a : Gw.Offer) (b : Gw.Offer) (bv : V) (R : List V) (ss : List Str) (qv : V) (count : Int) (hwa : loL (fineO a).wait = 1) (hwb : loL (fineO b).wait = 2) (hbv : mskV (fnO 15 [none]) bv = bv) (hR : mskVs (fnO 15 [none]) R = R) (he : (count.tmod 250 + 250).tmod 250 = 1) (hl : ∀ hint, Lt1 Tryz.prog hint 4 (loopRK a b bv R ss qv count 2 1 2).lt lpRK) : Run Tryz.prog 8 [.agg a.vs, .agg b.vs, bv, vi count] ((tabH kT0 kT1 kT2 4).put 3 (some (.cells true R))) fun v _ => v = .bool true := by
  refine run_loops mixed (show TabX Tryz.prog noPX (oxLR1_2e a b bv R ss qv count) from ((((((TabX.nil.addO ans_begun).addT (ans_fine noV)).addT (ans_deal (fun n => match n with | 135 => some (.tup [.agg (dv b a 1), .bool true]) | 302 => some (.tup [.agg (dv a b 2), .bool true]) | _ => none))).addT (ans_put (fun n => match n with | 35 => some (.tup [.str (sA a), .bool true]) | 175 => some (.tup [.str (sB b), .bool true]) | _ => none))).addT (ans_get (fun n => match n with | 122 => some (.tup [.agg [.int .u32 1, .int .u32 2, vi 0, vi 2, vi (fineO a).baud, vi (fineO a).silent, vi (fineO a).win, vi (fineO a).size, vi (fineO a).wait], .bool true]) | 289 => some (.tup [.agg [.int .u32 2, .int .u32 1, vi 0, vi 2, vi (fineO b).baud, vi (fineO b).silent, vi (fineO b).win, vi (fineO b).size, vi (fineO b).wait], .bool true]) | _ => none))).addT (ans_pair (fun n => match n with | 7 => some ([[.int .u32 1, vi 0, vi (fineO a).baud, vi (fineO a).silent, vi (fineO a).win, vi (fineO a).size, vi (fineO a).wait, vi 2, .int .u32 2, vi 0, vi 1, vi (dealL (fineO a) (fineO b)).baud, vi 200, vi (dealL (fineO a) (fineO b)).win, vi (dealL (fineO a) (fineO b)).size, vi 2, .ptr 8 0, vi 1, vi 0, vi 0, vi 0, vi 0, vi 2, vi 0, .bool false, .bool false, .bool false, .nils], [vi 1, vi (if (64 : Int) < (dealL (fineO a) (fineO b)).size then 64 else (dealL (fineO a) (fineO b)).size), .ptr 9 0, .ptr 10 0, .bool true], [vi (if (7 : Int) < (if (1 : Int) > (dealL (fineO a) (fineO b)).win then 1 else (dealL (fineO a) (fineO b)).win) then 7 else (if (1 : Int) > (dealL (fineO a) (fineO b)).win then 1 else (dealL (fineO a) (fineO b)).win)), .nils, vi 0, vi 0], [vi 0, .bool false], [.int .u32 2, vi 1, vi (fineO b).baud, vi (fineO b).silent, vi (fineO b).win, vi (fineO b).size, vi (fineO b).wait, vi 2, .int .u32 1, vi 0, vi 1, vi (dealL (fineO b) (fineO a)).baud, vi 200, vi (dealL (fineO b) (fineO a)).win, vi (dealL (fineO b) (fineO a)).size, vi 1, .ptr 12 0, vi 0, vi 0, vi 0, vi 0, vi 0, vi 0, vi 2, .bool false, .bool false, .bool false, .nils], [vi 2, vi (if (64 : Int) < (dealL (fineO b) (fineO a)).size then 64 else (dealL (fineO b) (fineO a)).size), .ptr 13 0, .ptr 14 0, .bool false], [vi (if (7 : Int) < (if (1 : Int) > (dealL (fineO b) (fineO a)).win then 1 else (dealL (fineO b) (fineO a)).win) then 7 else (if (1 : Int) > (dealL (fineO b) (fineO a)).win then 1 else (dealL (fineO b) (fineO a)).win)), .nils, vi 0, vi 0], [vi 0, .bool false]]) | _ => none)))) tabD (dIs (by kernel_rfl)) (lt := ltK a b bv R ss qv count 2 1 2) (fun hint p hp => ?_) (treeLR1_2e_eq a b bv R ss qv count) (satLR1_2e a b bv R ss qv count hwa hwb hbv hR he)
  rw [loopsRK] at hp
  simp only [List.mem_cons, List.not_mem_nil, or_false] at hp
  subst hp
  exact hl hint
def oxLR1_2n (a : Gw.Offer) (b : Gw.Offer) (bv : V) (R : List V) (ss : List Str) (qv : V) (count : Int) (c : Int) : OTab := (consT 11 (gNew kT0 kT1 kT2 dPair pPair prPair (fun n => match n with | 7 => some ([[.int .u32 1, vi 0, vi (fineO a).baud, vi (fineO a).silent, vi (fineO a).win, vi (fineO a).size, vi (fineO a).wait, vi 2, .int .u32 2, vi 0, vi 1, vi (dealL (fineO a) (fineO b)).baud, vi 200, vi (dealL (fineO a) (fineO b)).win, vi (dealL (fineO a) (fineO b)).size, vi 2, .ptr 8 0, vi 1, vi 0, vi 0, vi 0, vi 0, vi 2, vi 0, .bool false, .bool false, .bool false, .nils], [vi 1, vi (if (64 : Int) < (dealL (fineO a) (fineO b)).size then 64 else (dealL (fineO a) (fineO b)).size), .ptr 9 0, .ptr 10 0, .bool true], [vi (if (7 : Int) < (if (1 : Int) > (dealL (fineO a) (fineO b)).win then 1 else (dealL (fineO a) (fineO b)).win) then 7 else (if (1 : Int) > (dealL (fineO a) (fineO b)).win then 1 else (dealL (fineO a) (fineO b)).win)), .nils, vi 0, vi 0], [vi 0, .bool false], [.int .u32 2, vi 1, vi (fineO b).baud, vi (fineO b).silent, vi (fineO b).win, vi (fineO b).size, vi (fineO b).wait, vi 2, .int .u32 1, vi 0, vi 1, vi (dealL (fineO b) (fineO a)).baud, vi 200, vi (dealL (fineO b) (fineO a)).win, vi (dealL (fineO b) (fineO a)).size, vi 1, .ptr 12 0, vi 0, vi 0, vi 0, vi 0, vi 0, vi 0, vi 2, .bool false, .bool false, .bool false, .nils], [vi 2, vi (if (64 : Int) < (dealL (fineO b) (fineO a)).size then 64 else (dealL (fineO b) (fineO a)).size), .ptr 13 0, .ptr 14 0, .bool false], [vi (if (7 : Int) < (if (1 : Int) > (dealL (fineO b) (fineO a)).win then 1 else (dealL (fineO b) (fineO a)).win) then 7 else (if (1 : Int) > (dealL (fineO b) (fineO a)).win then 1 else (dealL (fineO b) (fineO a)).win)), .nils, vi 0, vi 0], [vi 0, .bool false]]) | _ => none)) (consT 46 (gD dGet pGet (fun n => match n with | 122 => some (.tup [.agg [.int .u32 1, .int .u32 2, vi 0, vi 2, vi (fineO a).baud, vi (fineO a).silent, vi (fineO a).win, vi (fineO a).size, vi (fineO a).wait], .bool true]) | 289 => some (.tup [.agg [.int .u32 2, .int .u32 1, vi 0, vi c, vi (fineO b).baud, vi (fineO b).silent, vi (fineO b).win, vi (fineO b).size, vi (fineO b).wait], .bool true]) | 389 => some (.tup [.agg [.int .u32 2, .int .u32 1, vi 0, vi 2, vi (fineO b).baud, vi (fineO b).silent, vi (fineO b).win, vi (fineO b).size, vi (fineO b).wait], .bool true]) | _ => none)) (consT 70 (gD dPut pPut (fun n => match n with | 35 => some (.tup [.str (sA a), .bool true]) | 175 => some (.tup [.str (sB b), .bool true]) | _ => none)) (consT 47 (gDT kT0 kT1 kT2 dDeal pDeal (fun n => match n with | 135 => some (.tup [.agg (dv b a 1), .bool true]) | 302 => some (.tup [.agg (dv a b 2), .bool true]) | 402 => some (.tup [.agg (dv a b 2), .bool true]) | _ => none)) (consT 10 (gD dOff pFine noV) (consO 9 (gTrue kT0 kT1 kT2) noOX))))))
def treeLR1_2n (a : Gw.Offer) (b : Gw.Offer) (bv : V) (R : List V) (ss : List Str) (qv : V) (count : Int) (c : Int) : DT V :=
  .ob (dOff [.agg a.vs]) (
.ob (((V.beq (.agg b.vs) (.agg b.vs)) && true) = true) (
.ob (dOff [.agg b.vs]) (
.ob (dPair [.agg (fineO a).vs, .agg (fineO b).vs] ∧ pPair [.agg (fineO a).vs, .agg (fineO b).vs] 7 = [[.int .u32 1, vi 0, vi (fineO a).baud, vi (fineO a).silent, vi (fineO a).win, vi (fineO a).size, vi (fineO a).wait, vi 2, .int .u32 2, vi 0, vi 1, vi (dealL (fineO a) (fineO b)).baud, vi 200, vi (dealL (fineO a) (fineO b)).win, vi (dealL (fineO a) (fineO b)).size, vi 2, .ptr 8 0, vi 1, vi 0, vi 0, vi 0, vi 0, vi 2, vi 0, .bool false, .bool false, .bool false, .nils], [vi 1, vi (if (64 : Int) < (dealL (fineO a) (fineO b)).size then 64 else (dealL (fineO a) (fineO b)).size), .ptr 9 0, .ptr 10 0, .bool true], [vi (if (7 : Int) < (if (1 : Int) > (dealL (fineO a) (fineO b)).win then 1 else (dealL (fineO a) (fineO b)).win) then 7 else (if (1 : Int) > (dealL (fineO a) (fineO b)).win then 1 else (dealL (fineO a) (fineO b)).win)), .nils, vi 0, vi 0], [vi 0, .bool false], [.int .u32 2, vi 1, vi (fineO b).baud, vi (fineO b).silent, vi (fineO b).win, vi (fineO b).size, vi (fineO b).wait, vi 2, .int .u32 1, vi 0, vi 1, vi (dealL (fineO b) (fineO a)).baud, vi 200, vi (dealL (fineO b) (fineO a)).win, vi (dealL (fineO b) (fineO a)).size, vi 1, .ptr 12 0, vi 0, vi 0, vi 0, vi 0, vi 0, vi 0, vi 2, .bool false, .bool false, .bool false, .nils], [vi 2, vi (if (64 : Int) < (dealL (fineO b) (fineO a)).size then 64 else (dealL (fineO b) (fineO a)).size), .ptr 13 0, .ptr 14 0, .bool false], [vi (if (7 : Int) < (if (1 : Int) > (dealL (fineO b) (fineO a)).win then 1 else (dealL (fineO b) (fineO a)).win) then 7 else (if (1 : Int) > (dealL (fineO b) (fineO a)).win then 1 else (dealL (fineO b) (fineO a)).win)), .nils, vi 0, vi 0], [vi 0, .bool false]]) (
.ob ((SNRK a b (mskV (fnO 15 [none]) bv) (mskVs (fnO 15 [none]) R) ss qv count 2 1 2 (vi 0) (.nils) none : Snap) = (loopRK a b bv R ss qv count 2 1 2).S (.c0)) (
.ob (invRK a b bv R ss qv count 2 1 2 .c0) (
.ob (True) (
.ob (IntKind.i64 = IntKind.i64 ∧ (250 : Int) ≠ 0) (
.ob (dPut [.agg [.int .u32 1, .int .u32 2, vi 0, vi 2, vi (fineO a).baud, vi (fineO a).silent, vi (fineO a).win, vi (fineO a).size, vi (fineO a).wait]]) (
.ob (pPut [.agg [.int .u32 1, .int .u32 2, vi 0, vi 2, vi (fineO a).baud, vi (fineO a).silent, vi (fineO a).win, vi (fineO a).size, vi (fineO a).wait]] = (.tup [.str (sA a), .bool true])) (
.ob (9 = 9 ∧ 0 ≤ (0 : Int) ∧ (0 : Int) < ((1 : Nat) : Int)) (
.ob (9 = 9 ∧ 0 ≤ (0 : Int) ∧ (0 : Int) < ((1 : Nat) : Int)) (
.ob (((V.beq (.str (sA a)) (.str (sA a))) && ((V.beq (.bool true) (.bool true)) && ((V.beq (.agg [vi 127, vi 255]) (.agg [vi 127, vi 255])) && true))) = true) (
.ob (((V.beq (vi 2) (vi 2)) && true) = true) (
.ob (((V.beq (.agg [vi 127, vi 255, .bool true, vi 3, vi 2, vi 0, vi 0, .bool true, .str (sA a)]) (.agg [vi 127, vi 255, .bool true, vi 3, vi 2, vi 0, vi 0, .bool true, .str (sA a)])) && true) = true) (
.ob (((eqV (.agg [.i, .i, .b, .i, .i, .i, .i, .b, .s]) (.agg [vi 127, vi 255, .bool true, vi 3, vi 2, vi 0, vi 0, .bool true, .str (sA a)]) (.agg [vi 127, vi 255, .bool true, vi 3, vi 2, vi 0, vi 0, .bool true, .str (sA a)])).map fun b => V.bool (if true then !b else b)) = some (.bool false)) (
.ob (((V.beq (.agg [vi 127, vi 255]) (.agg [vi 127, vi 255])) && true) = true) (
.ob (True) (
.ob (dGet [.str (sA a)]) (
.ob (pGet [.str (sA a)] = (.tup [.agg [.int .u32 1, .int .u32 2, vi 0, vi 2, vi (fineO a).baud, vi (fineO a).silent, vi (fineO a).win, vi (fineO a).size, vi (fineO a).wait], .bool true])) (
.ob (dDeal [.agg (fineO b).vs, .agg (fineO a).vs]) (
.ob (pDeal [.agg (fineO b).vs, .agg (fineO a).vs] = (.tup [.agg (dv b a 1), .bool true])) (
.ob (True) (
.ob (((V.beq (vi (dealL (fineO b) (fineO a)).size) (vi (dealL (fineO b) (fineO a)).size)) && true) = true) (
.ob (((V.beq (vi (dealL (fineO b) (fineO a)).size) (vi (dealL (fineO b) (fineO a)).size)) && true) = true) (
.ob (((V.beq (.agg (dv b a 1)) (.agg (dv b a 1))) && ((V.beq (.agg [vi 0, vi 2]) (.agg [vi 0, vi 2])) && true)) = true) (
.ob (((V.beq (.agg (dv b a 1)) (.agg (dv b a 1))) && ((V.beq (.agg [vi 0, vi 2]) (.agg [vi 0, vi 2])) && true)) = true) (
.ob (((V.beq (.agg (dv b a 1)) (.agg (dv b a 1))) && ((V.beq (.agg [vi 0, vi 2]) (.agg [vi 0, vi 2])) && true)) = true) (
.ob (((V.beq (.agg (dv b a 1)) (.agg (dv b a 1))) && true) = true) (
.ob (((V.beq (vi 1) (vi 1)) && true) = true) (
.ob (((V.beq (vi 1) (vi 1)) && true) = true) (
.ob (((V.beq (vi 1) (vi 1)) && true) = true) (
.ob (dPut [.agg [.int .u32 2, .int .u32 1, vi 0, vi 2, vi (fineO b).baud, vi (fineO b).silent, vi (fineO b).win, vi (fineO b).size, vi (fineO b).wait]]) (
.ob (pPut [.agg [.int .u32 2, .int .u32 1, vi 0, vi 2, vi (fineO b).baud, vi (fineO b).silent, vi (fineO b).win, vi (fineO b).size, vi (fineO b).wait]] = (.tup [.str (sB b), .bool true])) (
.ob (4 = 4 ∧ 0 ≤ (0 : Int) ∧ (0 : Int) < ((1 : Nat) : Int)) (
.ob (9 = 9 ∧ 0 ≤ (0 : Int) ∧ (0 : Int) < ((1 : Nat) : Int)) (
.ob (True) (
.ob (9 = 9 ∧ 0 ≤ (0 : Int) ∧ (0 : Int) < ((1 : Nat) : Int)) (
.ob (IntKind.i64 = IntKind.i64 ∧ (250 : Int) ≠ 0) (
.ob (IntKind.i64 = IntKind.i64 ∧ (250 : Int) ≠ 0) (
.ob (binV .rem (vi (wrapK .i64 ((((wrapK .i64 (((count : Int).tmod 250) + 250)) : Int).tmod 250) + 1))) (vi 250) = some (vi c)) (
.ob ((some (V.int .u8 (wrapK .u8 c)) : Option V) = some (.int .u8 c)) (
.ob (1 = 1 ∧ 0 ≤ (9 : Int) ∧ (9 : Int) < ((25 : Nat) : Int)) (
.ob (9 = 9 ∧ 0 ≤ (0 : Int) ∧ (0 : Int) < ((1 : Nat) : Int)) (
.ob (binV .neq (.str (sC c b)) (.str (sB b)) = some (.bool true)) (
.ob (((V.beq (.str (sC c b)) (.str (sC c b))) && ((V.beq (.bool false) (.bool false)) && ((V.beq (.agg [vi 127, vi 255]) (.agg [vi 127, vi 255])) && true))) = true) (
.ob (((V.beq (vi 3) (vi 3)) && true) = true) (
.ob (((V.beq (.agg [vi 127, vi 255, .bool false, vi 3, vi 3, vi 0, vi 0, .bool true, .str (sC c b)]) (.agg [vi 127, vi 255, .bool false, vi 3, vi 3, vi 0, vi 0, .bool true, .str (sC c b)])) && true) = true) (
.ob (((eqV (.agg [.i, .i, .b, .i, .i, .i, .i, .b, .s]) (.agg [vi 127, vi 255, .bool false, vi 3, vi 3, vi 0, vi 0, .bool true, .str (sC c b)]) (.agg [vi 127, vi 255, .bool false, vi 3, vi 3, vi 0, vi 0, .bool true, .str (sC c b)])).map fun b => V.bool (if true then !b else b)) = some (.bool false)) (
.ob (((V.beq (.agg [vi 127, vi 255]) (.agg [vi 127, vi 255])) && true) = true) (
.ob (True) (
.ob (dGet [.str (sC c b)]) (
.ob (pGet [.str (sC c b)] = (.tup [.agg [.int .u32 2, .int .u32 1, vi 0, vi c, vi (fineO b).baud, vi (fineO b).silent, vi (fineO b).win, vi (fineO b).size, vi (fineO b).wait], .bool true])) (
.ob (dDeal [.agg (fineO a).vs, .agg (fineO b).vs]) (
.ob (pDeal [.agg (fineO a).vs, .agg (fineO b).vs] = (.tup [.agg (dv a b 2), .bool true])) (
.ob (((eqV (.agg [.i, .i]) (.agg [vi 0, vi c]) (.agg [vi 0, vi 2])).map fun b => V.bool (if false then !b else b)) = some (.bool false)) (
.ob (9 = 9 ∧ 0 ≤ (0 : Int) ∧ (0 : Int) < ((1 : Nat) : Int)) (
.ob (((V.beq (.str (sB b)) (.str (sB b))) && ((V.beq (.bool false) (.bool false)) && ((V.beq (.agg [vi 127, vi 255]) (.agg [vi 127, vi 255])) && true))) = true) (
.ob (((V.beq (vi 3) (vi 3)) && true) = true) (
.ob (((V.beq (.agg [vi 127, vi 255, .bool false, vi 3, vi 3, vi 0, vi 0, .bool true, .str (sB b)]) (.agg [vi 127, vi 255, .bool false, vi 3, vi 3, vi 0, vi 0, .bool true, .str (sB b)])) && true) = true) (
.ob (((eqV (.agg [.i, .i, .b, .i, .i, .i, .i, .b, .s]) (.agg [vi 127, vi 255, .bool false, vi 3, vi 3, vi 0, vi 0, .bool true, .str (sB b)]) (.agg [vi 127, vi 255, .bool false, vi 3, vi 3, vi 0, vi 0, .bool true, .str (sB b)])).map fun b => V.bool (if true then !b else b)) = some (.bool false)) (
.ob (((V.beq (.agg [vi 127, vi 255]) (.agg [vi 127, vi 255])) && true) = true) (
.ob (True) (
.ob (dGet [.str (sB b)]) (
.ob (pGet [.str (sB b)] = (.tup [.agg [.int .u32 2, .int .u32 1, vi 0, vi 2, vi (fineO b).baud, vi (fineO b).silent, vi (fineO b).win, vi (fineO b).size, vi (fineO b).wait], .bool true])) (
.ob (dDeal [.agg (fineO a).vs, .agg (fineO b).vs]) (
.ob (pDeal [.agg (fineO a).vs, .agg (fineO b).vs] = (.tup [.agg (dv a b 2), .bool true])) (
.ob (((eqV (.agg [.i, .i]) (.agg [vi 0, vi 2]) (.agg [vi 0, vi 2])).map fun b => V.bool (if false then !b else b)) = some (.bool true)) (
.ob (((V.beq (vi (dealL (fineO a) (fineO b)).size) (vi (dealL (fineO a) (fineO b)).size)) && true) = true) (
.ob (((V.beq (vi (dealL (fineO a) (fineO b)).size) (vi (dealL (fineO a) (fineO b)).size)) && true) = true) (
.ob (((V.beq (.agg (dv a b 2)) (.agg (dv a b 2))) && ((V.beq (.agg [vi 0, vi 2]) (.agg [vi 0, vi 2])) && true)) = true) (
.ob (((V.beq (.agg (dv a b 2)) (.agg (dv a b 2))) && ((V.beq (.agg [vi 0, vi 2]) (.agg [vi 0, vi 2])) && true)) = true) (
.ob (((V.beq (.agg (dv a b 2)) (.agg (dv a b 2))) && ((V.beq (.agg [vi 0, vi 2]) (.agg [vi 0, vi 2])) && true)) = true) (
.ob (((V.beq (.agg (dv a b 2)) (.agg (dv a b 2))) && true) = true) (
.ob (((V.beq (vi 2) (vi 2)) && true) = true) (
.ob (((V.beq (vi 2) (vi 2)) && true) = true) (
.ob (((V.beq (vi 2) (vi 2)) && true) = true) (
.ob (4 = 4 ∧ 0 ≤ (0 : Int) ∧ (0 : Int) < ((1 : Nat) : Int)) (
.ob (True) (
.leaf (.bool true))))))))))))))))))))))))))))))))))))))))))))))))))))))))))))))))))))))))))))))))
set_option maxRecDepth 1000000 in
theorem treeLR1_2n_eq (a : Gw.Offer) (b : Gw.Offer) (bv : V) (R : List V) (ss : List Str) (qv : V) (count : Int) (c : Int) : funT (mkXT (noPX) (oxLR1_2n a b bv R ss qv count c)) (mkXP (noPX)) (mkX (noPX) (oxLR1_2n a b bv R ss qv count c)) D (fun g => match g with | 44 => (fun k => match k with | 52 => some fun t h => (match h.n with | 112 => (.bool false, h) | 279 => (.bool false, h) | _ => (.bool false, h)) | _ => none) | 48 => (fun k => match k with | 58 => some fun t h => (match h.n with | 305 => (.bool false, h) | _ => (.bool true, h)) | _ => none) | _ => noOrc) (fun k => match k with | 8 => [19, 57, 62, 68, 79, 85, 90, 97, 104, 130, 136, 145, 151, 158, 163, 168, 173, 178] | 12 => [10, 15, 20, 25, 30, 31, 37, 41, 50, 81, 90, 98] | 16 => [15, 22, 31, 52, 74, 80, 86, 96] | 22 => [16, 25, 30, 36, 39, 44, 47, 57, 67, 82, 86, 99] | 24 => [10, 20] | 31 => [10, 33, 34, 52, 66, 67, 71] | 34 => [4, 9] | 35 => [8, 25, 32] | 37 => [28, 30] | 38 => [9] | 40 => [7, 20] | 44 => [8, 15, 26, 37, 41, 46, 52] | 48 => [14, 20, 44, 49, 58] | 49 => [13, 26, 34, 39, 47] | 71 => [10] | 76 => [11, 16, 20, 25, 30, 34, 39] | 77 => [8, 14, 19, 24, 34, 44] | 104 => [6, 9, 20] | 129 => [8, 19, 30, 34, 38] | 130 => [8, 13, 18, 21] | _ => []) 12 (fun k => match k with | 118 => some fun t h => (vi c, h) | 119 => some fun t h => (.int .u8 c, h) | 130 => some fun t h => (.bool true, h) | _ => none) [19, 57, 62, 68, 79, 85, 90, 97, 104, 130, 136, 145, 151, 158, 163, 168, 173, 178] (ltK a b bv R ss qv count 2 1 2) (dOf 8) [.agg a.vs, .agg b.vs, bv, vi count] ((tabH kT0 kT1 kT2 4).put 3 (some (.cells true R))) (fun v _ => v) = treeLR1_2n a b bv R ss qv count c := by kernel_rfl
theorem satLR1_2n (a : Gw.Offer) (b : Gw.Offer) (bv : V) (R : List V) (ss : List Str) (qv : V) (count : Int) (c : Int) (hwa : loL (fineO a).wait = 1) (hwb : loL (fineO b).wait = 2) (hbv : mskV (fnO 15 [none]) bv = bv) (hR : mskVs (fnO 15 [none]) R = R) (hn : ((count.tmod 250 + 250).tmod 250 + 1).tmod 250 = c) (hc : 0 ≤ c ∧ c < 250) (hc2 : c ≠ 2) : (treeLR1_2n a b bv R ss qv count c).sat fun v => v = .bool true :=
 sat_ob trivial (
sat_ob (by simp only [V.beq_refl, Bool.and_true]) (
sat_ob trivial (
sat_ob ⟨⟨(mayO_fine a), (mayO_fine b)⟩, by show pairRows (fineO a) (fineO b) 7 = _; unfold pairRows; rw [hwa, hwb]; rfl⟩ (
sat_ob (by rw [hbv, hR]; kernel_rfl) (
sat_ob (Nat.zero_le _) (
sat_ob trivial (
sat_ob (by decide) (
sat_ob (okSet 1 2 0 2 a (by decide) (by decide) (by decide) (by decide)) (
sat_ob (by kernel_rfl) (
sat_ob (by decide) (
sat_ob (by decide) (
sat_ob (by simp only [V.beq_refl, Bool.and_true]) (
sat_ob (by simp only [V.beq_refl, Bool.and_true]) (
sat_ob (by simp only [V.beq_refl, Bool.and_true]) (
sat_ob (by simp [eqV, eqCells]) (
sat_ob (by simp only [V.beq_refl, Bool.and_true]) (
sat_ob trivial (
sat_ob ⟨⟨1, 2, 0, 2, fineO a⟩, (okSet 1 2 0 2 a (by decide) (by decide) (by decide) (by decide)), sA_eq a⟩ (
sat_ob (by rw [sA_eq]; exact get_put ⟨1, 2, 0, 2, fineO a⟩ (okSet 1 2 0 2 a (by decide) (by decide) (by decide) (by decide))) (
sat_ob ⟨(mayO_fine b), (mayO_fine a)⟩ (
sat_ob (by show V.tup [.agg [vi _, vi _, vi _, vi _, vi (loL (fineO a).wait)], .bool true] = _; rw [hwa]; rfl) (
sat_ob trivial (
sat_ob (by simp only [V.beq_refl, Bool.and_true]) (
sat_ob (by simp only [V.beq_refl, Bool.and_true]) (
sat_ob (by simp only [V.beq_refl, Bool.and_true]) (
sat_ob (by simp only [V.beq_refl, Bool.and_true]) (
sat_ob (by simp only [V.beq_refl, Bool.and_true]) (
sat_ob (by simp only [V.beq_refl, Bool.and_true]) (
sat_ob (by simp only [V.beq_refl, Bool.and_true]) (
sat_ob (by simp only [V.beq_refl, Bool.and_true]) (
sat_ob (by simp only [V.beq_refl, Bool.and_true]) (
sat_ob (okSet 2 1 0 2 b (by decide) (by decide) (by decide) (by decide)) (
sat_ob (by kernel_rfl) (
sat_ob (by decide) (
sat_ob (by decide) (
sat_ob trivial (
sat_ob (by decide) (
sat_ob (by decide) (
sat_ob (by decide) (
sat_ob (rm2 hn) (
sat_ob (by rw [w8 (by omega)]) (
sat_ob (by decide) (
sat_ob (by decide) (
sat_ob (by simp [binV, sC_ne hc hc2]) (
sat_ob (by simp only [V.beq_refl, Bool.and_true]) (
sat_ob (by simp only [V.beq_refl, Bool.and_true]) (
sat_ob (by simp only [V.beq_refl, Bool.and_true]) (
sat_ob (by simp [eqV, eqCells]) (
sat_ob (by simp only [V.beq_refl, Bool.and_true]) (
sat_ob trivial (
sat_ob ⟨⟨2, 1, 0, c, fineO b⟩, (okSet 2 1 0 c b (by decide) (by decide) (by decide) hc), sC_eq c b⟩ (
sat_ob (by rw [sC_eq]; exact get_put ⟨2, 1, 0, c, fineO b⟩ (okSet 2 1 0 c b (by decide) (by decide) (by decide) hc)) (
sat_ob ⟨(mayO_fine a), (mayO_fine b)⟩ (
sat_ob (by show V.tup [.agg [vi _, vi _, vi _, vi _, vi (loL (fineO b).wait)], .bool true] = _; rw [hwb]; rfl) (
sat_ob (by simp [eqV, eqCells, hc2]) (
sat_ob (by decide) (
sat_ob (by simp only [V.beq_refl, Bool.and_true]) (
sat_ob (by simp only [V.beq_refl, Bool.and_true]) (
sat_ob (by simp only [V.beq_refl, Bool.and_true]) (
sat_ob (by simp [eqV, eqCells]) (
sat_ob (by simp only [V.beq_refl, Bool.and_true]) (
sat_ob trivial (
sat_ob ⟨⟨2, 1, 0, 2, fineO b⟩, (okSet 2 1 0 2 b (by decide) (by decide) (by decide) (by decide)), sB_eq b⟩ (
sat_ob (by rw [sB_eq]; exact get_put ⟨2, 1, 0, 2, fineO b⟩ (okSet 2 1 0 2 b (by decide) (by decide) (by decide) (by decide))) (
sat_ob ⟨(mayO_fine a), (mayO_fine b)⟩ (
sat_ob (by show V.tup [.agg [vi _, vi _, vi _, vi _, vi (loL (fineO b).wait)], .bool true] = _; rw [hwb]; rfl) (
sat_ob (by simp [eqV, eqCells]) (
sat_ob (by simp only [V.beq_refl, Bool.and_true]) (
sat_ob (by simp only [V.beq_refl, Bool.and_true]) (
sat_ob (by simp only [V.beq_refl, Bool.and_true]) (
sat_ob (by simp only [V.beq_refl, Bool.and_true]) (
sat_ob (by simp only [V.beq_refl, Bool.and_true]) (
sat_ob (by simp only [V.beq_refl, Bool.and_true]) (
sat_ob (by simp only [V.beq_refl, Bool.and_true]) (
sat_ob (by simp only [V.beq_refl, Bool.and_true]) (
sat_ob (by simp only [V.beq_refl, Bool.and_true]) (
sat_ob (by decide) (
sat_ob trivial (
sat_leaf (rfl))))))))))))))))))))))))))))))))))))))))))))))))))))))))))))))))))))))))))))))))
set_option maxRecDepth 1000000 in
theorem runLR1_2n (a : Gw.Offer) (b : Gw.Offer) (bv : V) (R : List V) (ss : List Str) (qv : V) (count : Int) (c : Int) (hwa : loL (fineO a).wait = 1) (hwb : loL (fineO b).wait = 2) (hbv : mskV (fnO 15 [none]) bv = bv) (hR : mskVs (fnO 15 [none]) R = R) (hn : ((count.tmod 250 + 250).tmod 250 + 1).tmod 250 = c) (hc : 0 ≤ c ∧ c < 250) (hc2 : c ≠ 2) (hl : ∀ hint, Lt1 Tryz.prog hint 4 (loopRK a b bv R ss qv count 2 1 2).lt lpRK) : Run Tryz.prog 8 [.agg a.vs, .agg b.vs, bv, vi count] ((tabH kT0 kT1 kT2 4).put 3 (some (.cells true R))) fun v _ => v = .bool true := by
  refine run_loops mixed (show TabX Tryz.prog noPX (oxLR1_2n a b bv R ss qv count c) from ((((((TabX.nil.addO ans_begun).addT (ans_fine noV)).addT (ans_deal (fun n => match n with | 135 => some (.tup [.agg (dv b a 1), .bool true]) | 302 => some (.tup [.agg (dv a b 2), .bool true]) | 402 => some (.tup [.agg (dv a b 2), .bool true]) | _ => none))).addT (ans_put (fun n => match n with | 35 => some (.tup [.str (sA a), .bool true]) | 175 => some (.tup [.str (sB b), .bool true]) | _ => none))).addT (ans_get (fun n => match n with | 122 => some (.tup [.agg [.int .u32 1, .int .u32 2, vi 0, vi 2, vi (fineO a).baud, vi (fineO a).silent, vi (fineO a).win, vi (fineO a).size, vi (fineO a).wait], .bool true]) | 289 => some (.tup [.agg [.int .u32 2, .int .u32 1, vi 0, vi c, vi (fineO b).baud, vi (fineO b).silent, vi (fineO b).win, vi (fineO b).size, vi (fineO b).wait], .bool true]) | 389 => some (.tup [.agg [.int .u32 2, .int .u32 1, vi 0, vi 2, vi (fineO b).baud, vi (fineO b).silent, vi (fineO b).win, vi (fineO b).size, vi (fineO b).wait], .bool true]) | _ => none))).addT (ans_pair (fun n => match n with | 7 => some ([[.int .u32 1, vi 0, vi (fineO a).baud, vi (fineO a).silent, vi (fineO a).win, vi (fineO a).size, vi (fineO a).wait, vi 2, .int .u32 2, vi 0, vi 1, vi (dealL (fineO a) (fineO b)).baud, vi 200, vi (dealL (fineO a) (fineO b)).win, vi (dealL (fineO a) (fineO b)).size, vi 2, .ptr 8 0, vi 1, vi 0, vi 0, vi 0, vi 0, vi 2, vi 0, .bool false, .bool false, .bool false, .nils], [vi 1, vi (if (64 : Int) < (dealL (fineO a) (fineO b)).size then 64 else (dealL (fineO a) (fineO b)).size), .ptr 9 0, .ptr 10 0, .bool true], [vi (if (7 : Int) < (if (1 : Int) > (dealL (fineO a) (fineO b)).win then 1 else (dealL (fineO a) (fineO b)).win) then 7 else (if (1 : Int) > (dealL (fineO a) (fineO b)).win then 1 else (dealL (fineO a) (fineO b)).win)), .nils, vi 0, vi 0], [vi 0, .bool false], [.int .u32 2, vi 1, vi (fineO b).baud, vi (fineO b).silent, vi (fineO b).win, vi (fineO b).size, vi (fineO b).wait, vi 2, .int .u32 1, vi 0, vi 1, vi (dealL (fineO b) (fineO a)).baud, vi 200, vi (dealL (fineO b) (fineO a)).win, vi (dealL (fineO b) (fineO a)).size, vi 1, .ptr 12 0, vi 0, vi 0, vi 0, vi 0, vi 0, vi 0, vi 2, .bool false, .bool false, .bool false, .nils], [vi 2, vi (if (64 : Int) < (dealL (fineO b) (fineO a)).size then 64 else (dealL (fineO b) (fineO a)).size), .ptr 13 0, .ptr 14 0, .bool false], [vi (if (7 : Int) < (if (1 : Int) > (dealL (fineO b) (fineO a)).win then 1 else (dealL (fineO b) (fineO a)).win) then 7 else (if (1 : Int) > (dealL (fineO b) (fineO a)).win then 1 else (dealL (fineO b) (fineO a)).win)), .nils, vi 0, vi 0], [vi 0, .bool false]]) | _ => none)))) tabD (dIs (by kernel_rfl)) (lt := ltK a b bv R ss qv count 2 1 2) (fun hint p hp => ?_) (treeLR1_2n_eq a b bv R ss qv count c) (satLR1_2n a b bv R ss qv count c hwa hwb hbv hR hn hc hc2)
  rw [loopsRK] at hp
  simp only [List.mem_cons, List.not_mem_nil, or_false] at hp
  subst hp
  exact hl hint
end Go.Proofs.YtjcninlcdnkofaaGreatDoor
