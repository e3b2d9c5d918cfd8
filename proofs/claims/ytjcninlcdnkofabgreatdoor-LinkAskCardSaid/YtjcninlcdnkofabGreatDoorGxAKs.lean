/- LinkAsk: its trees, by classes. -/
import Derived.Test.YtjcninlcdnkofabGreatDoorGxE3
import Derived.Test.YtjcninlcdnkofabGreatDoorGxPR
import Derived.Test.YtjcninlcdnkofabGreatDoorGxAM
import Derived.Test.YtjcninlcdnkofabGreatDoorGxQ
noncomputable section
namespace Go.Proofs.YtjcninlcdnkofabGreatDoor
open Go Gw Go.RowKit
set_option linter.unusedSimpArgs false
set_option linter.unusedVariables false
def oxLKs20 (a : Gw.Offer) (b : Gw.Offer) (n : Int) (body : Str) : OTab := (consT 29 (gD dAsk pAskQ (fun n => match n with | 26 => some (.bool false) | 28 => some (.bool false) | _ => none)) (consT 7 (gNew kT0 kT1 kT2 dPair pPair prPair (fun n => match n with | 7 => some (pairRows (fineO a) (fineO b) 7) | _ => none)) (consT 28 (gD dOff pMayQ (fun n => match n with | 17 => some (.bool true) | _ => none)) (consT 8 (gD dOff pFine noV) (consO 5 (gTrue kT0 kT1 kT2) noOX)))))
def treeLKs20 (a : Gw.Offer) (b : Gw.Offer) (n : Int) (body : Str) : DT V :=
  .ob ((0 ≤ ((if (70 : Int) < ((body : Str).length : Int) then 70 else ((body : Str).length : Int)) : Int) ∧ ((if (70 : Int) < ((body : Str).length : Int) then 70 else ((body : Str).length : Int)) : Int) ≤ (((body : Str).length : Nat) : Int)) ∧ (True)) (
.ob (dOff [.agg a.vs]) (
.ob (((V.beq (.agg b.vs) (.agg b.vs)) && true) = true) (
.ob (dOff [.agg b.vs]) (
.ob (dPair [.agg (fineO a).vs, .agg (fineO b).vs] ∧ pPair [.agg (fineO a).vs, .agg (fineO b).vs] 7 = pairRows (fineO a) (fineO b) 7) (
.ob (dOff [.agg a.vs]) (
.ob (dOff [.agg (fineO a).vs]) (
.ob (pMayQ [.agg (fineO a).vs] = (.bool true)) (
.ob (dAsk [.agg [.int .i64 2, .int .i64 n, .int .u32 0, .str (cut70 body)]]) (
.ob (pAskQ [.agg [.int .i64 2, .int .i64 n, .int .u32 0, .str (cut70 body)]] = (.bool false)) (
.ob (((V.beq (.agg [.int .i64 2, .int .i64 n, .int .u32 0, .str (cut70 body)]) (.agg [.int .i64 2, .int .i64 n, .int .u32 0, .str (cut70 body)])) && true) = true) (
.ob (dAsk [.agg [.int .i64 2, .int .i64 n, .int .u32 0, .str (cut70 body)]]) (
.ob (pAskQ [.agg [.int .i64 2, .int .i64 n, .int .u32 0, .str (cut70 body)]] = (.bool false)) (
.leaf (.bool true))))))))))))))
set_option maxRecDepth 1000000 in
theorem treeLKs20_eq (a : Gw.Offer) (b : Gw.Offer) (n : Int) (body : Str) : funT (mkXT (noPX) (oxLKs20 a b n body)) (mkXP (noPX)) (mkX (noPX) (oxLKs20 a b n body)) D (fun _ => noOrc) (fun k => match k with | 3 => [19, 48, 61, 69, 86, 107, 132, 135] | 9 => [8, 11, 15, 19, 23] | 11 => [10] | _ => []) 12 noOrc [19, 48, 61, 69, 86, 107, 132, 135] (noLt) (dOf 3) [.agg a.vs, .agg b.vs, .bool false, .agg [.int .i64 2, .int .i64 n, .int .u32 0, .str body]] (tabH kT0 kT1 kT2 3) (fun v _ => v) = treeLKs20 a b n body := by kernel_rfl
theorem satLKs20 (a : Gw.Offer) (b : Gw.Offer) (n : Int) (body : Str)  : (treeLKs20 a b n body).sat fun v => v = .bool true :=
 sat_ob ⟨by split <;> omega, trivial⟩ (
sat_ob trivial (
sat_ob (by simp only [V.beq_refl, Bool.and_true]) (
sat_ob trivial (
sat_ob ⟨⟨(mayO_fine a), (mayO_fine b)⟩, rfl⟩ (
sat_ob trivial (
sat_ob trivial (
sat_ob (may_of (mayO_fine a)) (
sat_ob trivial (
sat_ob (by show V.bool (mayAsk _) = _; simp [mayAsk, cut70_len, cut70_nil]) (
sat_ob (by simp only [V.beq_refl, Bool.and_true]) (
sat_ob trivial (
sat_ob (by show V.bool (mayAsk _) = _; simp [mayAsk, cut70_len, cut70_nil]) (
sat_leaf (rfl))))))))))))))
theorem runLKs20 (a : Gw.Offer) (b : Gw.Offer) (n : Int) (body : Str)  : Run Tryz.prog 3 [.agg a.vs, .agg b.vs, .bool false, .agg [.int .i64 2, .int .i64 n, .int .u32 0, .str body]] (tabH kT0 kT1 kT2 3) fun v _ => v = .bool true := run_plainU mixed (show TabX Tryz.prog noPX (oxLKs20 a b n body) from (((((TabX.nil.addO ans_begun).addT (ans_fine noV)).addT (ans_may (fun n => match n with | 17 => some (.bool true) | _ => none))).addT (ans_pair (fun n => match n with | 7 => some (pairRows (fineO a) (fineO b) 7) | _ => none))).addT (ans_ask (fun n => match n with | 26 => some (.bool false) | 28 => some (.bool false) | _ => none)))) tabD (dIs (by kernel_rfl)) (treeLKs20_eq a b n body) (satLKs20 a b n body )
def oxLKs21 (a : Gw.Offer) (b : Gw.Offer) (n : Int) (body : Str) : OTab := (consT 29 (gD dAsk pAskQ (fun n => match n with | 26 => some (.bool false) | 28 => some (.bool false) | _ => none)) (consT 7 (gNew kT0 kT1 kT2 dPair pPair prPair (fun n => match n with | 7 => some (pairRows (fineO a) (fineO b) 7) | _ => none)) (consT 28 (gD dOff pMayQ (fun n => match n with | 17 => some (.bool true) | _ => none)) (consT 8 (gD dOff pFine noV) (consO 5 (gTrue kT0 kT1 kT2) noOX)))))
def treeLKs21 (a : Gw.Offer) (b : Gw.Offer) (n : Int) (body : Str) : DT V :=
  .ob ((0 ≤ ((if (70 : Int) < ((body : Str).length : Int) then 70 else ((body : Str).length : Int)) : Int) ∧ ((if (70 : Int) < ((body : Str).length : Int) then 70 else ((body : Str).length : Int)) : Int) ≤ (((body : Str).length : Nat) : Int)) ∧ (True)) (
.ob (dOff [.agg a.vs]) (
.ob (((V.beq (.agg b.vs) (.agg b.vs)) && true) = true) (
.ob (dOff [.agg b.vs]) (
.ob (dPair [.agg (fineO a).vs, .agg (fineO b).vs] ∧ pPair [.agg (fineO a).vs, .agg (fineO b).vs] 7 = pairRows (fineO a) (fineO b) 7) (
.ob (dOff [.agg a.vs]) (
.ob (dOff [.agg (fineO a).vs]) (
.ob (pMayQ [.agg (fineO a).vs] = (.bool true)) (
.ob (dAsk [.agg [.int .i64 2, .int .i64 n, .int .u32 4294967295, .str (cut70 body)]]) (
.ob (pAskQ [.agg [.int .i64 2, .int .i64 n, .int .u32 4294967295, .str (cut70 body)]] = (.bool false)) (
.ob (((V.beq (.agg [.int .i64 2, .int .i64 n, .int .u32 4294967295, .str (cut70 body)]) (.agg [.int .i64 2, .int .i64 n, .int .u32 4294967295, .str (cut70 body)])) && true) = true) (
.ob (dAsk [.agg [.int .i64 2, .int .i64 n, .int .u32 4294967295, .str (cut70 body)]]) (
.ob (pAskQ [.agg [.int .i64 2, .int .i64 n, .int .u32 4294967295, .str (cut70 body)]] = (.bool false)) (
.leaf (.bool true))))))))))))))
set_option maxRecDepth 1000000 in
theorem treeLKs21_eq (a : Gw.Offer) (b : Gw.Offer) (n : Int) (body : Str) : funT (mkXT (noPX) (oxLKs21 a b n body)) (mkXP (noPX)) (mkX (noPX) (oxLKs21 a b n body)) D (fun _ => noOrc) (fun k => match k with | 3 => [19, 48, 61, 65, 69, 86, 107, 132, 135] | 9 => [8, 11, 15, 19, 23] | 11 => [10] | _ => []) 12 noOrc [19, 48, 61, 65, 69, 86, 107, 132, 135] (noLt) (dOf 3) [.agg a.vs, .agg b.vs, .bool false, .agg [.int .i64 2, .int .i64 n, .int .u32 4294967295, .str body]] (tabH kT0 kT1 kT2 3) (fun v _ => v) = treeLKs21 a b n body := by kernel_rfl
theorem satLKs21 (a : Gw.Offer) (b : Gw.Offer) (n : Int) (body : Str)  : (treeLKs21 a b n body).sat fun v => v = .bool true :=
 sat_ob ⟨by split <;> omega, trivial⟩ (
sat_ob trivial (
sat_ob (by simp only [V.beq_refl, Bool.and_true]) (
sat_ob trivial (
sat_ob ⟨⟨(mayO_fine a), (mayO_fine b)⟩, rfl⟩ (
sat_ob trivial (
sat_ob trivial (
sat_ob (may_of (mayO_fine a)) (
sat_ob trivial (
sat_ob (by show V.bool (mayAsk _) = _; simp [mayAsk, cut70_len, cut70_nil]) (
sat_ob (by simp only [V.beq_refl, Bool.and_true]) (
sat_ob trivial (
sat_ob (by show V.bool (mayAsk _) = _; simp [mayAsk, cut70_len, cut70_nil]) (
sat_leaf (rfl))))))))))))))
theorem runLKs21 (a : Gw.Offer) (b : Gw.Offer) (n : Int) (body : Str)  : Run Tryz.prog 3 [.agg a.vs, .agg b.vs, .bool false, .agg [.int .i64 2, .int .i64 n, .int .u32 4294967295, .str body]] (tabH kT0 kT1 kT2 3) fun v _ => v = .bool true := run_plainU mixed (show TabX Tryz.prog noPX (oxLKs21 a b n body) from (((((TabX.nil.addO ans_begun).addT (ans_fine noV)).addT (ans_may (fun n => match n with | 17 => some (.bool true) | _ => none))).addT (ans_pair (fun n => match n with | 7 => some (pairRows (fineO a) (fineO b) 7) | _ => none))).addT (ans_ask (fun n => match n with | 26 => some (.bool false) | 28 => some (.bool false) | _ => none)))) tabD (dIs (by kernel_rfl)) (treeLKs21_eq a b n body) (satLKs21 a b n body )
def oxLKs22 (a : Gw.Offer) (b : Gw.Offer) (n : Int) (id : Int) (body : Str) : OTab := (consT 29 (gD dAsk pAskQ (fun n => match n with | 26 => some (.bool false) | 28 => some (.bool false) | _ => none)) (consT 7 (gNew kT0 kT1 kT2 dPair pPair prPair (fun n => match n with | 7 => some (pairRows (fineO a) (fineO b) 7) | _ => none)) (consT 28 (gD dOff pMayQ (fun n => match n with | 17 => some (.bool true) | _ => none)) (consT 8 (gD dOff pFine noV) (consO 5 (gTrue kT0 kT1 kT2) noOX)))))
def treeLKs22 (a : Gw.Offer) (b : Gw.Offer) (n : Int) (id : Int) (body : Str) : DT V :=
  .ob ((0 ≤ ((if (70 : Int) < ((body : Str).length : Int) then 70 else ((body : Str).length : Int)) : Int) ∧ ((if (70 : Int) < ((body : Str).length : Int) then 70 else ((body : Str).length : Int)) : Int) ≤ (((body : Str).length : Nat) : Int)) ∧ (True)) (
.ob (dOff [.agg a.vs]) (
.ob (((V.beq (.agg b.vs) (.agg b.vs)) && true) = true) (
.ob (dOff [.agg b.vs]) (
.ob (dPair [.agg (fineO a).vs, .agg (fineO b).vs] ∧ pPair [.agg (fineO a).vs, .agg (fineO b).vs] 7 = pairRows (fineO a) (fineO b) 7) (
.ob (dOff [.agg a.vs]) (
.ob (dOff [.agg (fineO a).vs]) (
.ob (pMayQ [.agg (fineO a).vs] = (.bool true)) (
.ob (dAsk [.agg [.int .i64 2, .int .i64 n, .int .u32 id, .str (cut70 body)]]) (
.ob (pAskQ [.agg [.int .i64 2, .int .i64 n, .int .u32 id, .str (cut70 body)]] = (.bool false)) (
.ob (((V.beq (.agg [.int .i64 2, .int .i64 n, .int .u32 id, .str (cut70 body)]) (.agg [.int .i64 2, .int .i64 n, .int .u32 id, .str (cut70 body)])) && true) = true) (
.ob (dAsk [.agg [.int .i64 2, .int .i64 n, .int .u32 id, .str (cut70 body)]]) (
.ob (pAskQ [.agg [.int .i64 2, .int .i64 n, .int .u32 id, .str (cut70 body)]] = (.bool false)) (
.ob (binV .neq (.int .u32 id) (.int .u32 0) = some (.bool true)) (
.ob (binV .neq (.int .u32 id) (.int .u32 4294967295) = some (.bool true)) (
.ob (binV .eql (.int .i64 n) (.int .i64 0) = some (.bool false)) (
.leaf (.bool true)))))))))))))))))
set_option maxRecDepth 1000000 in
theorem treeLKs22_eq (a : Gw.Offer) (b : Gw.Offer) (n : Int) (id : Int) (body : Str) : funT (mkXT (noPX) (oxLKs22 a b n id body)) (mkXP (noPX)) (mkX (noPX) (oxLKs22 a b n id body)) D (fun _ => noOrc) (fun k => match k with | 3 => [19, 48, 61, 65, 69, 76, 86, 107, 132, 135] | 9 => [8, 11, 15, 19, 23] | 11 => [10] | _ => []) 12 (fun k => match k with | 61 => some fun t h => (.bool true, h) | 65 => some fun t h => (.bool true, h) | 76 => some fun t h => (.bool false, h) | _ => none) [19, 48, 61, 65, 69, 76, 86, 107, 132, 135] (noLt) (dOf 3) [.agg a.vs, .agg b.vs, .bool false, .agg [.int .i64 2, .int .i64 n, .int .u32 id, .str body]] (tabH kT0 kT1 kT2 3) (fun v _ => v) = treeLKs22 a b n id body := by kernel_rfl
theorem satLKs22 (a : Gw.Offer) (b : Gw.Offer) (n : Int) (id : Int) (body : Str) (hn : n ≠ 0) (hi0 : id ≠ 0) (hi1 : id ≠ 4294967295) : (treeLKs22 a b n id body).sat fun v => v = .bool true :=
 sat_ob ⟨by split <;> omega, trivial⟩ (
sat_ob trivial (
sat_ob (by simp only [V.beq_refl, Bool.and_true]) (
sat_ob trivial (
sat_ob ⟨⟨(mayO_fine a), (mayO_fine b)⟩, rfl⟩ (
sat_ob trivial (
sat_ob trivial (
sat_ob (may_of (mayO_fine a)) (
sat_ob trivial (
sat_ob (by show V.bool (mayAsk _) = _; simp [mayAsk, cut70_len, cut70_nil, hn, hi0, hi1]) (
sat_ob (by simp only [V.beq_refl, Bool.and_true]) (
sat_ob trivial (
sat_ob (by show V.bool (mayAsk _) = _; simp [mayAsk, cut70_len, cut70_nil, hn, hi0, hi1]) (
sat_ob (by simp [binV, binI, hn, hi0, hi1]) (
sat_ob (by simp [binV, binI, hn, hi0, hi1]) (
sat_ob (by simp [binV, binI, hn, hi0, hi1]) (
sat_leaf (rfl)))))))))))))))))
theorem runLKs22 (a : Gw.Offer) (b : Gw.Offer) (n : Int) (id : Int) (body : Str) (hn : n ≠ 0) (hi0 : id ≠ 0) (hi1 : id ≠ 4294967295) : Run Tryz.prog 3 [.agg a.vs, .agg b.vs, .bool false, .agg [.int .i64 2, .int .i64 n, .int .u32 id, .str body]] (tabH kT0 kT1 kT2 3) fun v _ => v = .bool true := run_plainU mixed (show TabX Tryz.prog noPX (oxLKs22 a b n id body) from (((((TabX.nil.addO ans_begun).addT (ans_fine noV)).addT (ans_may (fun n => match n with | 17 => some (.bool true) | _ => none))).addT (ans_pair (fun n => match n with | 7 => some (pairRows (fineO a) (fineO b) 7) | _ => none))).addT (ans_ask (fun n => match n with | 26 => some (.bool false) | 28 => some (.bool false) | _ => none)))) tabD (dIs (by kernel_rfl)) (treeLKs22_eq a b n id body) (satLKs22 a b n id body hn hi0 hi1)
def oxLKs23 (a : Gw.Offer) (b : Gw.Offer) (id : Int) (body : Str) : OTab := (consT 29 (gD dAsk pAskQ (fun n => match n with | 26 => some (.bool false) | 28 => some (.bool false) | _ => none)) (consT 7 (gNew kT0 kT1 kT2 dPair pPair prPair (fun n => match n with | 7 => some (pairRows (fineO a) (fineO b) 7) | _ => none)) (consT 28 (gD dOff pMayQ (fun n => match n with | 17 => some (.bool true) | _ => none)) (consT 8 (gD dOff pFine noV) (consO 5 (gTrue kT0 kT1 kT2) noOX)))))
def treeLKs23 (a : Gw.Offer) (b : Gw.Offer) (id : Int) (body : Str) : DT V :=
  .ob ((0 ≤ ((if (70 : Int) < ((body : Str).length : Int) then 70 else ((body : Str).length : Int)) : Int) ∧ ((if (70 : Int) < ((body : Str).length : Int) then 70 else ((body : Str).length : Int)) : Int) ≤ (((body : Str).length : Nat) : Int)) ∧ (True)) (
.ob (dOff [.agg a.vs]) (
.ob (((V.beq (.agg b.vs) (.agg b.vs)) && true) = true) (
.ob (dOff [.agg b.vs]) (
.ob (dPair [.agg (fineO a).vs, .agg (fineO b).vs] ∧ pPair [.agg (fineO a).vs, .agg (fineO b).vs] 7 = pairRows (fineO a) (fineO b) 7) (
.ob (dOff [.agg a.vs]) (
.ob (dOff [.agg (fineO a).vs]) (
.ob (pMayQ [.agg (fineO a).vs] = (.bool true)) (
.ob (dAsk [.agg [.int .i64 2, .int .i64 0, .int .u32 id, .str (cut70 body)]]) (
.ob (pAskQ [.agg [.int .i64 2, .int .i64 0, .int .u32 id, .str (cut70 body)]] = (.bool false)) (
.ob (((V.beq (.agg [.int .i64 2, .int .i64 0, .int .u32 id, .str (cut70 body)]) (.agg [.int .i64 2, .int .i64 0, .int .u32 id, .str (cut70 body)])) && true) = true) (
.ob (dAsk [.agg [.int .i64 2, .int .i64 0, .int .u32 id, .str (cut70 body)]]) (
.ob (pAskQ [.agg [.int .i64 2, .int .i64 0, .int .u32 id, .str (cut70 body)]] = (.bool false)) (
.ob (binV .neq (.int .u32 id) (.int .u32 0) = some (.bool true)) (
.ob (binV .neq (.int .u32 id) (.int .u32 4294967295) = some (.bool true)) (
.ob (binV .eql (.str (cut70 body)) (.str []) = some (.bool false)) (
.leaf (.bool true)))))))))))))))))
set_option maxRecDepth 1000000 in
theorem treeLKs23_eq (a : Gw.Offer) (b : Gw.Offer) (id : Int) (body : Str) : funT (mkXT (noPX) (oxLKs23 a b id body)) (mkXP (noPX)) (mkX (noPX) (oxLKs23 a b id body)) D (fun _ => noOrc) (fun k => match k with | 3 => [19, 48, 61, 65, 69, 76, 81, 86, 107, 132, 135] | 9 => [8, 11, 15, 19, 23] | 11 => [10] | _ => []) 12 (fun k => match k with | 61 => some fun t h => (.bool true, h) | 65 => some fun t h => (.bool true, h) | 81 => some fun t h => (.bool false, h) | _ => none) [19, 48, 61, 65, 69, 76, 81, 86, 107, 132, 135] (noLt) (dOf 3) [.agg a.vs, .agg b.vs, .bool false, .agg [.int .i64 2, .int .i64 0, .int .u32 id, .str body]] (tabH kT0 kT1 kT2 3) (fun v _ => v) = treeLKs23 a b id body := by kernel_rfl
theorem satLKs23 (a : Gw.Offer) (b : Gw.Offer) (id : Int) (body : Str) (hi0 : id ≠ 0) (hi1 : id ≠ 4294967295) (hb : body ≠ []) : (treeLKs23 a b id body).sat fun v => v = .bool true :=
 sat_ob ⟨by split <;> omega, trivial⟩ (
sat_ob trivial (
sat_ob (by simp only [V.beq_refl, Bool.and_true]) (
sat_ob trivial (
sat_ob ⟨⟨(mayO_fine a), (mayO_fine b)⟩, rfl⟩ (
sat_ob trivial (
sat_ob trivial (
sat_ob (may_of (mayO_fine a)) (
sat_ob trivial (
sat_ob (by show V.bool (mayAsk _) = _; simp [mayAsk, cut70_len, cut70_nil, hi0, hi1, hb]) (
sat_ob (by simp only [V.beq_refl, Bool.and_true]) (
sat_ob trivial (
sat_ob (by show V.bool (mayAsk _) = _; simp [mayAsk, cut70_len, cut70_nil, hi0, hi1, hb]) (
sat_ob (by simp [binV, binI, hi0, hi1, hb]) (
sat_ob (by simp [binV, binI, hi0, hi1, hb]) (
sat_ob (by simp [binV, cut70_nil, hi0, hi1, hb]) (
sat_leaf (rfl)))))))))))))))))
theorem runLKs23 (a : Gw.Offer) (b : Gw.Offer) (id : Int) (body : Str) (hi0 : id ≠ 0) (hi1 : id ≠ 4294967295) (hb : body ≠ []) : Run Tryz.prog 3 [.agg a.vs, .agg b.vs, .bool false, .agg [.int .i64 2, .int .i64 0, .int .u32 id, .str body]] (tabH kT0 kT1 kT2 3) fun v _ => v = .bool true := run_plainU mixed (show TabX Tryz.prog noPX (oxLKs23 a b id body) from (((((TabX.nil.addO ans_begun).addT (ans_fine noV)).addT (ans_may (fun n => match n with | 17 => some (.bool true) | _ => none))).addT (ans_pair (fun n => match n with | 7 => some (pairRows (fineO a) (fineO b) 7) | _ => none))).addT (ans_ask (fun n => match n with | 26 => some (.bool false) | 28 => some (.bool false) | _ => none)))) tabD (dIs (by kernel_rfl)) (treeLKs23_eq a b id body) (satLKs23 a b id body hi0 hi1 hb)
def oxLKs24 (a : Gw.Offer) (b : Gw.Offer) (id : Int) : OTab := (consT 29 (gD dAsk pAskQ (fun n => match n with | 26 => some (.bool true) | 28 => some (.bool true) | _ => none)) (consT 7 (gNew kT0 kT1 kT2 dPair pPair prPair (fun n => match n with | 7 => some (pairRows (fineO a) (fineO b) 7) | _ => none)) (consT 28 (gD dOff pMayQ (fun n => match n with | 17 => some (.bool true) | _ => none)) (consT 8 (gD dOff pFine noV) (consO 5 (gTrue kT0 kT1 kT2) noOX)))))
def treeLKs24 (a : Gw.Offer) (b : Gw.Offer) (id : Int) : DT V :=
  .ob ((0 ≤ (0 : Int) ∧ (0 : Int) ≤ ((0 : Nat) : Int)) ∧ (True)) (
.ob (dOff [.agg a.vs]) (
.ob (((V.beq (.agg b.vs) (.agg b.vs)) && true) = true) (
.ob (dOff [.agg b.vs]) (
.ob (dPair [.agg (fineO a).vs, .agg (fineO b).vs] ∧ pPair [.agg (fineO a).vs, .agg (fineO b).vs] 7 = pairRows (fineO a) (fineO b) 7) (
.ob (dOff [.agg a.vs]) (
.ob (dOff [.agg (fineO a).vs]) (
.ob (pMayQ [.agg (fineO a).vs] = (.bool true)) (
.ob (dAsk [.agg [.int .i64 2, .int .i64 0, .int .u32 id, .str []]]) (
.ob (pAskQ [.agg [.int .i64 2, .int .i64 0, .int .u32 id, .str []]] = (.bool true)) (
.ob (((V.beq (.agg [.int .i64 2, .int .i64 0, .int .u32 id, .str []]) (.agg [.int .i64 2, .int .i64 0, .int .u32 id, .str []])) && true) = true) (
.ob (dAsk [.agg [.int .i64 2, .int .i64 0, .int .u32 id, .str []]]) (
.ob (pAskQ [.agg [.int .i64 2, .int .i64 0, .int .u32 id, .str []]] = (.bool true)) (
.ob (binV .eql (.int .u32 id) (.int .u32 9) = some (.bool false)) (
.ob (IntKind.i64 = IntKind.i64 ∧ (250 : Int) ≠ 0) (
.ob (((V.beq (.int .u32 id) (.int .u32 id)) && true) = true) (
.ob (((V.beq (.int .u32 id) (.int .u32 id)) && true) = true) (
.ob (binV .neq (.int .u32 id) (.int .u32 0) = some (.bool true)) (
.ob (binV .neq (.int .u32 id) (.int .u32 4294967295) = some (.bool true)) (
.ob (binV .neq (.int .u32 id) (.int .u32 9) = some (.bool true)) (
.leaf (.bool true)))))))))))))))))))))
set_option maxRecDepth 1000000 in
theorem treeLKs24_eq (a : Gw.Offer) (b : Gw.Offer) (id : Int) : funT (mkXT (noPX) (oxLKs24 a b id)) (mkXP (noPX)) (mkX (noPX) (oxLKs24 a b id)) D (fun g => match g with | 11 => (fun k => match k with | 57 => some fun t h => (.bool false, h) | _ => none) | _ => noOrc) (fun k => match k with | 3 => [19, 48, 61, 65, 69, 76, 81, 140, 142, 145, 148, 149] | 9 => [8, 11, 15, 19, 23] | 11 => [10, 15, 20, 25, 30, 31, 37, 41, 50, 57] | _ => []) 12 (fun k => match k with | 61 => some fun t h => (.bool true, h) | 65 => some fun t h => (.bool true, h) | 148 => some fun t h => (.bool true, h) | _ => none) [19, 48, 61, 65, 69, 76, 81, 140, 142, 145, 148, 149] (noLt) (dOf 3) [.agg a.vs, .agg b.vs, .bool false, .agg [.int .i64 2, .int .i64 0, .int .u32 id, .str []]] (tabH kT0 kT1 kT2 3) (fun v _ => v) = treeLKs24 a b id := by kernel_rfl
theorem satLKs24 (a : Gw.Offer) (b : Gw.Offer) (id : Int) (hi0 : id ≠ 0) (hi1 : id ≠ 4294967295) (hi9 : id ≠ 9) : (treeLKs24 a b id).sat fun v => v = .bool true :=
 sat_ob (by decide) (
sat_ob trivial (
sat_ob (by simp only [V.beq_refl, Bool.and_true]) (
sat_ob trivial (
sat_ob ⟨⟨(mayO_fine a), (mayO_fine b)⟩, rfl⟩ (
sat_ob trivial (
sat_ob trivial (
sat_ob (may_of (mayO_fine a)) (
sat_ob trivial (
sat_ob (by show V.bool (mayAsk _) = _; simp [mayAsk, cut70_len, cut70_nil, hi0, hi1, hi9]) (
sat_ob (by simp only [V.beq_refl, Bool.and_true]) (
sat_ob trivial (
sat_ob (by show V.bool (mayAsk _) = _; simp [mayAsk, cut70_len, cut70_nil, hi0, hi1, hi9]) (
sat_ob (by simp [binV, binI, hi0, hi1, hi9]) (
sat_ob (by decide) (
sat_ob (by simp only [V.beq_refl, Bool.and_true]) (
sat_ob (by simp only [V.beq_refl, Bool.and_true]) (
sat_ob (by simp [binV, binI, hi0, hi1, hi9]) (
sat_ob (by simp [binV, binI, hi0, hi1, hi9]) (
sat_ob (by simp [binV, binI, hi0, hi1, hi9]) (
sat_leaf (rfl)))))))))))))))))))))
theorem runLKs24 (a : Gw.Offer) (b : Gw.Offer) (id : Int) (hi0 : id ≠ 0) (hi1 : id ≠ 4294967295) (hi9 : id ≠ 9) : Run Tryz.prog 3 [.agg a.vs, .agg b.vs, .bool false, .agg [.int .i64 2, .int .i64 0, .int .u32 id, .str []]] (tabH kT0 kT1 kT2 3) fun v _ => v = .bool true := run_plainU mixed (show TabX Tryz.prog noPX (oxLKs24 a b id) from (((((TabX.nil.addO ans_begun).addT (ans_fine noV)).addT (ans_may (fun n => match n with | 17 => some (.bool true) | _ => none))).addT (ans_pair (fun n => match n with | 7 => some (pairRows (fineO a) (fineO b) 7) | _ => none))).addT (ans_ask (fun n => match n with | 26 => some (.bool true) | 28 => some (.bool true) | _ => none)))) tabD (dIs (by kernel_rfl)) (treeLKs24_eq a b id) (satLKs24 a b id hi0 hi1 hi9)
def oxLKs25 (a : Gw.Offer) (b : Gw.Offer) : OTab := (consT 29 (gD dAsk pAskQ (fun n => match n with | 26 => some (.bool true) | 28 => some (.bool true) | _ => none)) (consT 7 (gNew kT0 kT1 kT2 dPair pPair prPair (fun n => match n with | 7 => some (pairRows (fineO a) (fineO b) 7) | _ => none)) (consT 28 (gD dOff pMayQ (fun n => match n with | 17 => some (.bool true) | _ => none)) (consT 8 (gD dOff pFine noV) (consO 5 (gTrue kT0 kT1 kT2) noOX)))))
def treeLKs25 (a : Gw.Offer) (b : Gw.Offer) : DT V :=
  .ob ((0 ≤ (0 : Int) ∧ (0 : Int) ≤ ((0 : Nat) : Int)) ∧ (True)) (
.ob (dOff [.agg a.vs]) (
.ob (((V.beq (.agg b.vs) (.agg b.vs)) && true) = true) (
.ob (dOff [.agg b.vs]) (
.ob (dPair [.agg (fineO a).vs, .agg (fineO b).vs] ∧ pPair [.agg (fineO a).vs, .agg (fineO b).vs] 7 = pairRows (fineO a) (fineO b) 7) (
.ob (dOff [.agg a.vs]) (
.ob (dOff [.agg (fineO a).vs]) (
.ob (pMayQ [.agg (fineO a).vs] = (.bool true)) (
.ob (dAsk [.agg [.int .i64 2, .int .i64 0, .int .u32 9, .str []]]) (
.ob (pAskQ [.agg [.int .i64 2, .int .i64 0, .int .u32 9, .str []]] = (.bool true)) (
.ob (((V.beq (.agg [.int .i64 2, .int .i64 0, .int .u32 9, .str []]) (.agg [.int .i64 2, .int .i64 0, .int .u32 9, .str []])) && true) = true) (
.ob (dAsk [.agg [.int .i64 2, .int .i64 0, .int .u32 9, .str []]]) (
.ob (pAskQ [.agg [.int .i64 2, .int .i64 0, .int .u32 9, .str []]] = (.bool true)) (
.leaf (.bool true))))))))))))))
set_option maxRecDepth 1000000 in
theorem treeLKs25_eq (a : Gw.Offer) (b : Gw.Offer) : funT (mkXT (noPX) (oxLKs25 a b)) (mkXP (noPX)) (mkX (noPX) (oxLKs25 a b)) D (fun _ => noOrc) (fun k => match k with | 3 => [19, 48, 61, 65, 69, 76, 81, 140, 142, 145, 148, 149] | 9 => [8, 11, 15, 19, 23] | 11 => [10, 15, 20, 25, 30, 31, 37, 41, 50, 57] | _ => []) 12 noOrc [19, 48, 61, 65, 69, 76, 81, 140, 142, 145, 148, 149] (noLt) (dOf 3) [.agg a.vs, .agg b.vs, .bool false, .agg [.int .i64 2, .int .i64 0, .int .u32 9, .str []]] (tabH kT0 kT1 kT2 3) (fun v _ => v) = treeLKs25 a b := by kernel_rfl
theorem satLKs25 (a : Gw.Offer) (b : Gw.Offer)  : (treeLKs25 a b).sat fun v => v = .bool true :=
 sat_ob (by decide) (
sat_ob trivial (
sat_ob (by simp only [V.beq_refl, Bool.and_true]) (
sat_ob trivial (
sat_ob ⟨⟨(mayO_fine a), (mayO_fine b)⟩, rfl⟩ (
sat_ob trivial (
sat_ob trivial (
sat_ob (may_of (mayO_fine a)) (
sat_ob trivial (
sat_ob (by show V.bool (mayAsk _) = _; simp [mayAsk, cut70_len, cut70_nil]) (
sat_ob (by simp only [V.beq_refl, Bool.and_true]) (
sat_ob trivial (
sat_ob (by show V.bool (mayAsk _) = _; simp [mayAsk, cut70_len, cut70_nil]) (
sat_leaf (rfl))))))))))))))
theorem runLKs25 (a : Gw.Offer) (b : Gw.Offer)  : Run Tryz.prog 3 [.agg a.vs, .agg b.vs, .bool false, .agg [.int .i64 2, .int .i64 0, .int .u32 9, .str []]] (tabH kT0 kT1 kT2 3) fun v _ => v = .bool true := run_plainU mixed (show TabX Tryz.prog noPX (oxLKs25 a b) from (((((TabX.nil.addO ans_begun).addT (ans_fine noV)).addT (ans_may (fun n => match n with | 17 => some (.bool true) | _ => none))).addT (ans_pair (fun n => match n with | 7 => some (pairRows (fineO a) (fineO b) 7) | _ => none))).addT (ans_ask (fun n => match n with | 26 => some (.bool true) | 28 => some (.bool true) | _ => none)))) tabD (dIs (by kernel_rfl)) (treeLKs25_eq a b) (satLKs25 a b )
def oxLKs30 (a : Gw.Offer) (b : Gw.Offer) (n : Int) (id : Int) (body : Str) : OTab := (consT 29 (gD dAsk pAskQ (fun n => match n with | 26 => some (.bool false) | 28 => some (.bool false) | _ => none)) (consT 7 (gNew kT0 kT1 kT2 dPair pPair prPair (fun n => match n with | 7 => some (pairRows (fineO a) (fineO b) 7) | _ => none)) (consT 28 (gD dOff pMayQ (fun n => match n with | 17 => some (.bool true) | _ => none)) (consT 8 (gD dOff pFine noV) (consO 5 (gTrue kT0 kT1 kT2) noOX)))))
def treeLKs30 (a : Gw.Offer) (b : Gw.Offer) (n : Int) (id : Int) (body : Str) : DT V :=
  .ob ((0 ≤ ((if (70 : Int) < ((body : Str).length : Int) then 70 else ((body : Str).length : Int)) : Int) ∧ ((if (70 : Int) < ((body : Str).length : Int) then 70 else ((body : Str).length : Int)) : Int) ≤ (((body : Str).length : Nat) : Int)) ∧ (True)) (
.ob (dOff [.agg a.vs]) (
.ob (((V.beq (.agg b.vs) (.agg b.vs)) && true) = true) (
.ob (dOff [.agg b.vs]) (
.ob (dPair [.agg (fineO a).vs, .agg (fineO b).vs] ∧ pPair [.agg (fineO a).vs, .agg (fineO b).vs] 7 = pairRows (fineO a) (fineO b) 7) (
.ob (dOff [.agg a.vs]) (
.ob (dOff [.agg (fineO a).vs]) (
.ob (pMayQ [.agg (fineO a).vs] = (.bool true)) (
.ob (dAsk [.agg [.int .i64 3, .int .i64 n, .int .u32 id, .str (cut70 body)]]) (
.ob (pAskQ [.agg [.int .i64 3, .int .i64 n, .int .u32 id, .str (cut70 body)]] = (.bool false)) (
.ob (((V.beq (.agg [.int .i64 3, .int .i64 n, .int .u32 id, .str (cut70 body)]) (.agg [.int .i64 3, .int .i64 n, .int .u32 id, .str (cut70 body)])) && true) = true) (
.ob (dAsk [.agg [.int .i64 3, .int .i64 n, .int .u32 id, .str (cut70 body)]]) (
.ob (pAskQ [.agg [.int .i64 3, .int .i64 n, .int .u32 id, .str (cut70 body)]] = (.bool false)) (
.ob ((((id : Int) != 0) == true) = true → ((True) ∧ ((True) ∧ ((True) ∧ (True))))) (
.ob (binV .eql (.int .i64 n) (.int .i64 0) = some (.bool false)) (
.leaf (.bool true))))))))))))))))
set_option maxRecDepth 1000000 in
theorem treeLKs30_eq (a : Gw.Offer) (b : Gw.Offer) (n : Int) (id : Int) (body : Str) : funT (mkXT (noPX) (oxLKs30 a b n id body)) (mkXP (noPX)) (mkX (noPX) (oxLKs30 a b n id body)) D (fun _ => noOrc) (fun k => match k with | 3 => [19, 48, 69, 86, 90, 107, 132, 135] | 9 => [8, 11, 15, 19, 23] | 11 => [10] | _ => []) 12 (fun k => match k with | 90 => some fun t h => (.bool false, h) | _ => none) [19, 48, 69, 86, 90, 107, 132, 135] (noLt) (dOf 3) [.agg a.vs, .agg b.vs, .bool false, .agg [.int .i64 3, .int .i64 n, .int .u32 id, .str body]] (tabH kT0 kT1 kT2 3) (fun v _ => v) = treeLKs30 a b n id body := by kernel_rfl
theorem satLKs30 (a : Gw.Offer) (b : Gw.Offer) (n : Int) (id : Int) (body : Str) (hn : n ≠ 0) : (treeLKs30 a b n id body).sat fun v => v = .bool true :=
 sat_ob ⟨by split <;> omega, trivial⟩ (
sat_ob trivial (
sat_ob (by simp only [V.beq_refl, Bool.and_true]) (
sat_ob trivial (
sat_ob ⟨⟨(mayO_fine a), (mayO_fine b)⟩, rfl⟩ (
sat_ob trivial (
sat_ob trivial (
sat_ob (may_of (mayO_fine a)) (
sat_ob trivial (
sat_ob (by show V.bool (mayAsk _) = _; simp [mayAsk, cut70_len, cut70_nil, hn]) (
sat_ob (by simp only [V.beq_refl, Bool.and_true]) (
sat_ob trivial (
sat_ob (by show V.bool (mayAsk _) = _; simp [mayAsk, cut70_len, cut70_nil, hn]) (
sat_ob (by first | rfl | simp [V.beq, V.beqs, allOne, V.one, byteVs, binV, binI, eqV, eqCells]) (
sat_ob (by simp [binV, binI, hn]) (
sat_leaf (rfl))))))))))))))))
theorem runLKs30 (a : Gw.Offer) (b : Gw.Offer) (n : Int) (id : Int) (body : Str) (hn : n ≠ 0) : Run Tryz.prog 3 [.agg a.vs, .agg b.vs, .bool false, .agg [.int .i64 3, .int .i64 n, .int .u32 id, .str body]] (tabH kT0 kT1 kT2 3) fun v _ => v = .bool true := run_plainU mixed (show TabX Tryz.prog noPX (oxLKs30 a b n id body) from (((((TabX.nil.addO ans_begun).addT (ans_fine noV)).addT (ans_may (fun n => match n with | 17 => some (.bool true) | _ => none))).addT (ans_pair (fun n => match n with | 7 => some (pairRows (fineO a) (fineO b) 7) | _ => none))).addT (ans_ask (fun n => match n with | 26 => some (.bool false) | 28 => some (.bool false) | _ => none)))) tabD (dIs (by kernel_rfl)) (treeLKs30_eq a b n id body) (satLKs30 a b n id body hn)
def oxLKs31 (a : Gw.Offer) (b : Gw.Offer) (id : Int) (body : Str) : OTab := (consT 29 (gD dAsk pAskQ (fun n => match n with | 26 => some (.bool false) | 28 => some (.bool false) | _ => none)) (consT 7 (gNew kT0 kT1 kT2 dPair pPair prPair (fun n => match n with | 7 => some (pairRows (fineO a) (fineO b) 7) | _ => none)) (consT 28 (gD dOff pMayQ (fun n => match n with | 17 => some (.bool true) | _ => none)) (consT 8 (gD dOff pFine noV) (consO 5 (gTrue kT0 kT1 kT2) noOX)))))
def treeLKs31 (a : Gw.Offer) (b : Gw.Offer) (id : Int) (body : Str) : DT V :=
  .ob ((0 ≤ ((if (70 : Int) < ((body : Str).length : Int) then 70 else ((body : Str).length : Int)) : Int) ∧ ((if (70 : Int) < ((body : Str).length : Int) then 70 else ((body : Str).length : Int)) : Int) ≤ (((body : Str).length : Nat) : Int)) ∧ (True)) (
.ob (dOff [.agg a.vs]) (
.ob (((V.beq (.agg b.vs) (.agg b.vs)) && true) = true) (
.ob (dOff [.agg b.vs]) (
.ob (dPair [.agg (fineO a).vs, .agg (fineO b).vs] ∧ pPair [.agg (fineO a).vs, .agg (fineO b).vs] 7 = pairRows (fineO a) (fineO b) 7) (
.ob (dOff [.agg a.vs]) (
.ob (dOff [.agg (fineO a).vs]) (
.ob (pMayQ [.agg (fineO a).vs] = (.bool true)) (
.ob (dAsk [.agg [.int .i64 3, .int .i64 0, .int .u32 id, .str (cut70 body)]]) (
.ob (pAskQ [.agg [.int .i64 3, .int .i64 0, .int .u32 id, .str (cut70 body)]] = (.bool false)) (
.ob (((V.beq (.agg [.int .i64 3, .int .i64 0, .int .u32 id, .str (cut70 body)]) (.agg [.int .i64 3, .int .i64 0, .int .u32 id, .str (cut70 body)])) && true) = true) (
.ob (dAsk [.agg [.int .i64 3, .int .i64 0, .int .u32 id, .str (cut70 body)]]) (
.ob (pAskQ [.agg [.int .i64 3, .int .i64 0, .int .u32 id, .str (cut70 body)]] = (.bool false)) (
.ob (binV .neq (.int .u32 id) (.int .u32 0) = some (.bool true)) (
.ob (binV .eql (.int .u32 id) (.int .u32 0) = some (.bool false)) (
.leaf (.bool true))))))))))))))))
set_option maxRecDepth 1000000 in
theorem treeLKs31_eq (a : Gw.Offer) (b : Gw.Offer) (id : Int) (body : Str) : funT (mkXT (noPX) (oxLKs31 a b id body)) (mkXP (noPX)) (mkX (noPX) (oxLKs31 a b id body)) D (fun _ => noOrc) (fun k => match k with | 3 => [19, 48, 61, 69, 86, 90, 95, 107, 132, 135] | 9 => [8, 11, 15, 19, 23] | 11 => [10] | _ => []) 12 (fun k => match k with | 61 => some fun t h => (.bool true, h) | 95 => some fun t h => (.bool false, h) | _ => none) [19, 48, 61, 69, 86, 90, 95, 107, 132, 135] (noLt) (dOf 3) [.agg a.vs, .agg b.vs, .bool false, .agg [.int .i64 3, .int .i64 0, .int .u32 id, .str body]] (tabH kT0 kT1 kT2 3) (fun v _ => v) = treeLKs31 a b id body := by kernel_rfl
theorem satLKs31 (a : Gw.Offer) (b : Gw.Offer) (id : Int) (body : Str) (hi : id ≠ 0) : (treeLKs31 a b id body).sat fun v => v = .bool true :=
 sat_ob ⟨by split <;> omega, trivial⟩ (
sat_ob trivial (
sat_ob (by simp only [V.beq_refl, Bool.and_true]) (
sat_ob trivial (
sat_ob ⟨⟨(mayO_fine a), (mayO_fine b)⟩, rfl⟩ (
sat_ob trivial (
sat_ob trivial (
sat_ob (may_of (mayO_fine a)) (
sat_ob trivial (
sat_ob (by show V.bool (mayAsk _) = _; simp [mayAsk, cut70_len, cut70_nil, hi]) (
sat_ob (by simp only [V.beq_refl, Bool.and_true]) (
sat_ob trivial (
sat_ob (by show V.bool (mayAsk _) = _; simp [mayAsk, cut70_len, cut70_nil, hi]) (
sat_ob (by simp [binV, binI, hi]) (
sat_ob (by simp [binV, binI, hi]) (
sat_leaf (rfl))))))))))))))))
theorem runLKs31 (a : Gw.Offer) (b : Gw.Offer) (id : Int) (body : Str) (hi : id ≠ 0) : Run Tryz.prog 3 [.agg a.vs, .agg b.vs, .bool false, .agg [.int .i64 3, .int .i64 0, .int .u32 id, .str body]] (tabH kT0 kT1 kT2 3) fun v _ => v = .bool true := run_plainU mixed (show TabX Tryz.prog noPX (oxLKs31 a b id body) from (((((TabX.nil.addO ans_begun).addT (ans_fine noV)).addT (ans_may (fun n => match n with | 17 => some (.bool true) | _ => none))).addT (ans_pair (fun n => match n with | 7 => some (pairRows (fineO a) (fineO b) 7) | _ => none))).addT (ans_ask (fun n => match n with | 26 => some (.bool false) | 28 => some (.bool false) | _ => none)))) tabD (dIs (by kernel_rfl)) (treeLKs31_eq a b id body) (satLKs31 a b id body hi)
def oxLKs32 (a : Gw.Offer) (b : Gw.Offer) (body : Str) : OTab := (consT 29 (gD dAsk pAskQ (fun n => match n with | 26 => some (.bool false) | 28 => some (.bool false) | _ => none)) (consT 7 (gNew kT0 kT1 kT2 dPair pPair prPair (fun n => match n with | 7 => some (pairRows (fineO a) (fineO b) 7) | _ => none)) (consT 28 (gD dOff pMayQ (fun n => match n with | 17 => some (.bool true) | _ => none)) (consT 8 (gD dOff pFine noV) (consO 5 (gTrue kT0 kT1 kT2) noOX)))))
def treeLKs32 (a : Gw.Offer) (b : Gw.Offer) (body : Str) : DT V :=
  .ob ((0 ≤ ((if (70 : Int) < ((body : Str).length : Int) then 70 else ((body : Str).length : Int)) : Int) ∧ ((if (70 : Int) < ((body : Str).length : Int) then 70 else ((body : Str).length : Int)) : Int) ≤ (((body : Str).length : Nat) : Int)) ∧ (True)) (
.ob (dOff [.agg a.vs]) (
.ob (((V.beq (.agg b.vs) (.agg b.vs)) && true) = true) (
.ob (dOff [.agg b.vs]) (
.ob (dPair [.agg (fineO a).vs, .agg (fineO b).vs] ∧ pPair [.agg (fineO a).vs, .agg (fineO b).vs] 7 = pairRows (fineO a) (fineO b) 7) (
.ob (dOff [.agg a.vs]) (
.ob (dOff [.agg (fineO a).vs]) (
.ob (pMayQ [.agg (fineO a).vs] = (.bool true)) (
.ob (dAsk [.agg [.int .i64 3, .int .i64 0, .int .u32 0, .str (cut70 body)]]) (
.ob (pAskQ [.agg [.int .i64 3, .int .i64 0, .int .u32 0, .str (cut70 body)]] = (.bool false)) (
.ob (((V.beq (.agg [.int .i64 3, .int .i64 0, .int .u32 0, .str (cut70 body)]) (.agg [.int .i64 3, .int .i64 0, .int .u32 0, .str (cut70 body)])) && true) = true) (
.ob (dAsk [.agg [.int .i64 3, .int .i64 0, .int .u32 0, .str (cut70 body)]]) (
.ob (pAskQ [.agg [.int .i64 3, .int .i64 0, .int .u32 0, .str (cut70 body)]] = (.bool false)) (
.ob (binV .leq (.int .i64 (((cut70 body) : Str).length : Int)) (.int .i64 64) = some (.bool false)) (
.leaf (.bool true)))))))))))))))
set_option maxRecDepth 1000000 in
theorem treeLKs32_eq (a : Gw.Offer) (b : Gw.Offer) (body : Str) : funT (mkXT (noPX) (oxLKs32 a b body)) (mkXP (noPX)) (mkX (noPX) (oxLKs32 a b body)) D (fun _ => noOrc) (fun k => match k with | 3 => [19, 48, 61, 69, 86, 90, 95, 101, 107, 132, 135] | 9 => [8, 11, 15, 19, 23] | 11 => [10] | _ => []) 12 (fun k => match k with | 101 => some fun t h => (.bool false, h) | _ => none) [19, 48, 61, 69, 86, 90, 95, 101, 107, 132, 135] (noLt) (dOf 3) [.agg a.vs, .agg b.vs, .bool false, .agg [.int .i64 3, .int .i64 0, .int .u32 0, .str body]] (tabH kT0 kT1 kT2 3) (fun v _ => v) = treeLKs32 a b body := by kernel_rfl
theorem satLKs32 (a : Gw.Offer) (b : Gw.Offer) (body : Str) (hl : 64 < body.length) : (treeLKs32 a b body).sat fun v => v = .bool true :=
 sat_ob ⟨by split <;> omega, trivial⟩ (
sat_ob trivial (
sat_ob (by simp only [V.beq_refl, Bool.and_true]) (
sat_ob trivial (
sat_ob ⟨⟨(mayO_fine a), (mayO_fine b)⟩, rfl⟩ (
sat_ob trivial (
sat_ob trivial (
sat_ob (may_of (mayO_fine a)) (
sat_ob trivial (
sat_ob (by show V.bool (mayAsk _) = _; simp [mayAsk, cut70_len, cut70_nil]; omega) (
sat_ob (by simp only [V.beq_refl, Bool.and_true]) (
sat_ob trivial (
sat_ob (by show V.bool (mayAsk _) = _; simp [mayAsk, cut70_len, cut70_nil]; omega) (
sat_ob (by have := cut70_len body; simp [binV, binI]; omega) (
sat_leaf (rfl)))))))))))))))
theorem runLKs32 (a : Gw.Offer) (b : Gw.Offer) (body : Str) (hl : 64 < body.length) : Run Tryz.prog 3 [.agg a.vs, .agg b.vs, .bool false, .agg [.int .i64 3, .int .i64 0, .int .u32 0, .str body]] (tabH kT0 kT1 kT2 3) fun v _ => v = .bool true := run_plainU mixed (show TabX Tryz.prog noPX (oxLKs32 a b body) from (((((TabX.nil.addO ans_begun).addT (ans_fine noV)).addT (ans_may (fun n => match n with | 17 => some (.bool true) | _ => none))).addT (ans_pair (fun n => match n with | 7 => some (pairRows (fineO a) (fineO b) 7) | _ => none))).addT (ans_ask (fun n => match n with | 26 => some (.bool false) | 28 => some (.bool false) | _ => none)))) tabD (dIs (by kernel_rfl)) (treeLKs32_eq a b body) (satLKs32 a b body hl)
def oxLKs33 (a : Gw.Offer) (b : Gw.Offer) (body : Str) : OTab := (consT 29 (gD dAsk pAskQ (fun n => match n with | 26 => some (.bool true) | 28 => some (.bool true) | _ => none)) (consT 7 (gNew kT0 kT1 kT2 dPair pPair prPair (fun n => match n with | 7 => some (pairRows (fineO a) (fineO b) 7) | _ => none)) (consT 28 (gD dOff pMayQ (fun n => match n with | 17 => some (.bool true) | _ => none)) (consT 8 (gD dOff pFine noV) (consO 5 (gTrue kT0 kT1 kT2) noOX)))))
def treeLKs33 (a : Gw.Offer) (b : Gw.Offer) (body : Str) : DT V :=
  .ob ((0 ≤ ((if (70 : Int) < ((body : Str).length : Int) then 70 else ((body : Str).length : Int)) : Int) ∧ ((if (70 : Int) < ((body : Str).length : Int) then 70 else ((body : Str).length : Int)) : Int) ≤ (((body : Str).length : Nat) : Int)) ∧ (True)) (
.ob (dOff [.agg a.vs]) (
.ob (((V.beq (.agg b.vs) (.agg b.vs)) && true) = true) (
.ob (dOff [.agg b.vs]) (
.ob (dPair [.agg (fineO a).vs, .agg (fineO b).vs] ∧ pPair [.agg (fineO a).vs, .agg (fineO b).vs] 7 = pairRows (fineO a) (fineO b) 7) (
.ob (dOff [.agg a.vs]) (
.ob (dOff [.agg (fineO a).vs]) (
.ob (pMayQ [.agg (fineO a).vs] = (.bool true)) (
.ob (dAsk [.agg [.int .i64 3, .int .i64 0, .int .u32 0, .str (cut70 body)]]) (
.ob (pAskQ [.agg [.int .i64 3, .int .i64 0, .int .u32 0, .str (cut70 body)]] = (.bool true)) (
.ob (binV .gtr (.int .i64 (((cut70 body) : Str).length : Int)) (.int .i64 (if (64 : Int) < (dealL (fineO b) (fineO a)).size then 64 else (dealL (fineO b) (fineO a)).size)) = some (.bool true)) (
.ob (((V.beq (.agg [.int .i64 3, .int .i64 0, .int .u32 0, .str (cut70 body)]) (.agg [.int .i64 3, .int .i64 0, .int .u32 0, .str (cut70 body)])) && true) = true) (
.ob (dAsk [.agg [.int .i64 3, .int .i64 0, .int .u32 0, .str (cut70 body)]]) (
.ob (pAskQ [.agg [.int .i64 3, .int .i64 0, .int .u32 0, .str (cut70 body)]] = (.bool true)) (
.ob (binV .leq (.int .i64 (((cut70 body) : Str).length : Int)) (.int .i64 64) = some (.bool true)) (
.ob (binV .leq (.int .i64 (((cut70 body) : Str).length : Int)) (.int .i64 (dealL (fineO b) (fineO a)).size) = some (.bool false)) (
.leaf (.bool true)))))))))))))))))
set_option maxRecDepth 1000000 in
theorem treeLKs33_eq (a : Gw.Offer) (b : Gw.Offer) (body : Str) : funT (mkXT (noPX) (oxLKs33 a b body)) (mkXP (noPX)) (mkX (noPX) (oxLKs33 a b body)) D (fun g => match g with | 31 => (fun k => match k with | 15 => some fun t h => (.bool true, h) | _ => none) | _ => noOrc) (fun k => match k with | 3 => [19, 48, 61, 69, 86, 90, 95, 101, 140, 152, 154, 159, 160, 163] | 9 => [8, 11, 15, 19, 23] | 11 => [10, 15, 20, 25, 30, 31, 37, 41, 50, 81] | 31 => [15] | _ => []) 12 (fun k => match k with | 101 => some fun t h => (.bool true, h) | 159 => some fun t h => (.bool false, h) | _ => none) [19, 48, 61, 69, 86, 90, 95, 101, 140, 152, 154, 159, 160, 163] (noLt) (dOf 3) [.agg a.vs, .agg b.vs, .bool false, .agg [.int .i64 3, .int .i64 0, .int .u32 0, .str body]] (tabH kT0 kT1 kT2 3) (fun v _ => v) = treeLKs33 a b body := by kernel_rfl
theorem satLKs33 (a : Gw.Offer) (b : Gw.Offer) (body : Str) (hl : body.length ≤ 64) (hz : (dealL (fineO b) (fineO a)).size < (body.length : Int)) : (treeLKs33 a b body).sat fun v => v = .bool true :=
 sat_ob ⟨by split <;> omega, trivial⟩ (
sat_ob trivial (
sat_ob (by simp only [V.beq_refl, Bool.and_true]) (
sat_ob trivial (
sat_ob ⟨⟨(mayO_fine a), (mayO_fine b)⟩, rfl⟩ (
sat_ob trivial (
sat_ob trivial (
sat_ob (may_of (mayO_fine a)) (
sat_ob trivial (
sat_ob (by show V.bool (mayAsk _) = _; simp [mayAsk, cut70_len, cut70_nil]; omega) (
sat_ob (by have := cut70_len body; simp [binV, binI]; (repeat' split) <;> omega) (
sat_ob (by simp only [V.beq_refl, Bool.and_true]) (
sat_ob trivial (
sat_ob (by show V.bool (mayAsk _) = _; simp [mayAsk, cut70_len, cut70_nil]; omega) (
sat_ob (by have := cut70_len body; simp [binV, binI]; omega) (
sat_ob (by have := cut70_len body; simp [binV, binI]; omega) (
sat_leaf (rfl)))))))))))))))))
theorem runLKs33 (a : Gw.Offer) (b : Gw.Offer) (body : Str) (hl : body.length ≤ 64) (hz : (dealL (fineO b) (fineO a)).size < (body.length : Int)) : Run Tryz.prog 3 [.agg a.vs, .agg b.vs, .bool false, .agg [.int .i64 3, .int .i64 0, .int .u32 0, .str body]] (tabH kT0 kT1 kT2 3) fun v _ => v = .bool true := run_plainU mixed (show TabX Tryz.prog noPX (oxLKs33 a b body) from (((((TabX.nil.addO ans_begun).addT (ans_fine noV)).addT (ans_may (fun n => match n with | 17 => some (.bool true) | _ => none))).addT (ans_pair (fun n => match n with | 7 => some (pairRows (fineO a) (fineO b) 7) | _ => none))).addT (ans_ask (fun n => match n with | 26 => some (.bool true) | 28 => some (.bool true) | _ => none)))) tabD (dIs (by kernel_rfl)) (treeLKs33_eq a b body) (satLKs33 a b body hl hz)
def oxLKs34 (a : Gw.Offer) (b : Gw.Offer) (body : Str) : OTab := (consT 29 (gD dAsk pAskQ (fun n => match n with | 26 => some (.bool true) | 40 => some (.bool true) | _ => none)) (consT 7 (gNew kT0 kT1 kT2 dPair pPair prPair (fun n => match n with | 7 => some (pairRows (fineO a) (fineO b) 7) | _ => none)) (consT 28 (gD dOff pMayQ (fun n => match n with | 17 => some (.bool true) | _ => none)) (consT 8 (gD dOff pFine noV) (consO 5 (gTrue kT0 kT1 kT2) noOX)))))
def treeLKs34 (a : Gw.Offer) (b : Gw.Offer) (body : Str) : DT V :=
  .ob ((0 ≤ ((if (70 : Int) < ((body : Str).length : Int) then 70 else ((body : Str).length : Int)) : Int) ∧ ((if (70 : Int) < ((body : Str).length : Int) then 70 else ((body : Str).length : Int)) : Int) ≤ (((body : Str).length : Nat) : Int)) ∧ (True)) (
.ob (dOff [.agg a.vs]) (
.ob (((V.beq (.agg b.vs) (.agg b.vs)) && true) = true) (
.ob (dOff [.agg b.vs]) (
.ob (dPair [.agg (fineO a).vs, .agg (fineO b).vs] ∧ pPair [.agg (fineO a).vs, .agg (fineO b).vs] 7 = pairRows (fineO a) (fineO b) 7) (
.ob (dOff [.agg a.vs]) (
.ob (dOff [.agg (fineO a).vs]) (
.ob (pMayQ [.agg (fineO a).vs] = (.bool true)) (
.ob (dAsk [.agg [.int .i64 3, .int .i64 0, .int .u32 0, .str (cut70 body)]]) (
.ob (pAskQ [.agg [.int .i64 3, .int .i64 0, .int .u32 0, .str (cut70 body)]] = (.bool true)) (
.ob (binV .gtr (.int .i64 (((cut70 body) : Str).length : Int)) (.int .i64 (if (64 : Int) < (dealL (fineO b) (fineO a)).size then 64 else (dealL (fineO b) (fineO a)).size)) = some (.bool false)) (
.ob ((1 = 1 ∧ ([.str (cut70 body)] : List V).length = 1 * 1) ∧ allOne [.str (cut70 body)] = true ∧ 1 * 16 ≤ 70368744177664) (
.ob (((V.beq (.agg [.int .i64 3, .int .i64 0, .int .u32 0, .str (cut70 body)]) (.agg [.int .i64 3, .int .i64 0, .int .u32 0, .str (cut70 body)])) && true) = true) (
.ob (dAsk [.agg [.int .i64 3, .int .i64 0, .int .u32 0, .str (cut70 body)]]) (
.ob (pAskQ [.agg [.int .i64 3, .int .i64 0, .int .u32 0, .str (cut70 body)]] = (.bool true)) (
.ob (binV .leq (.int .i64 (((cut70 body) : Str).length : Int)) (.int .i64 64) = some (.bool true)) (
.ob (binV .leq (.int .i64 (((cut70 body) : Str).length : Int)) (.int .i64 (dealL (fineO b) (fineO a)).size) = some (.bool true)) (
.leaf (.bool true))))))))))))))))))
set_option maxRecDepth 1000000 in
theorem treeLKs34_eq (a : Gw.Offer) (b : Gw.Offer) (body : Str) : funT (mkXT (noPX) (oxLKs34 a b body)) (mkXP (noPX)) (mkX (noPX) (oxLKs34 a b body)) D (fun g => match g with | 31 => (fun k => match k with | 15 => some fun t h => (.bool false, h) | _ => none) | _ => noOrc) (fun k => match k with | 3 => [19, 48, 61, 69, 86, 90, 95, 101, 140, 152, 154, 159, 160, 163] | 9 => [8, 11, 15, 19, 23] | 11 => [10, 15, 20, 25, 30, 31, 37, 41, 50, 81] | 31 => [15] | 60 => [14] | _ => []) 12 (fun k => match k with | 101 => some fun t h => (.bool true, h) | 159 => some fun t h => (.bool true, h) | _ => none) [19, 48, 61, 69, 86, 90, 95, 101, 140, 152, 154, 159, 160, 163] (noLt) (dOf 3) [.agg a.vs, .agg b.vs, .bool false, .agg [.int .i64 3, .int .i64 0, .int .u32 0, .str body]] (tabH kT0 kT1 kT2 3) (fun v _ => v) = treeLKs34 a b body := by kernel_rfl
theorem satLKs34 (a : Gw.Offer) (b : Gw.Offer) (body : Str) (hl : body.length ≤ 64) (hz : (body.length : Int) ≤ (dealL (fineO b) (fineO a)).size) : (treeLKs34 a b body).sat fun v => v = .bool true :=
 sat_ob ⟨by split <;> omega, trivial⟩ (
sat_ob trivial (
sat_ob (by simp only [V.beq_refl, Bool.and_true]) (
sat_ob trivial (
sat_ob ⟨⟨(mayO_fine a), (mayO_fine b)⟩, rfl⟩ (
sat_ob trivial (
sat_ob trivial (
sat_ob (may_of (mayO_fine a)) (
sat_ob trivial (
sat_ob (by show V.bool (mayAsk _) = _; simp [mayAsk, cut70_len, cut70_nil]; omega) (
sat_ob (by have := cut70_len body; simp [binV, binI]; (repeat' split) <;> omega) (
sat_ob (by first | rfl | simp [V.beq, V.beqs, allOne, V.one, byteVs, binV, binI, eqV, eqCells]) (
sat_ob (by simp only [V.beq_refl, Bool.and_true]) (
sat_ob trivial (
sat_ob (by show V.bool (mayAsk _) = _; simp [mayAsk, cut70_len, cut70_nil]; omega) (
sat_ob (by have := cut70_len body; simp [binV, binI]; omega) (
sat_ob (by have := cut70_len body; simp [binV, binI]; omega) (
sat_leaf (rfl))))))))))))))))))
theorem runLKs34 (a : Gw.Offer) (b : Gw.Offer) (body : Str) (hl : body.length ≤ 64) (hz : (body.length : Int) ≤ (dealL (fineO b) (fineO a)).size) : Run Tryz.prog 3 [.agg a.vs, .agg b.vs, .bool false, .agg [.int .i64 3, .int .i64 0, .int .u32 0, .str body]] (tabH kT0 kT1 kT2 3) fun v _ => v = .bool true := run_plainU mixed (show TabX Tryz.prog noPX (oxLKs34 a b body) from (((((TabX.nil.addO ans_begun).addT (ans_fine noV)).addT (ans_may (fun n => match n with | 17 => some (.bool true) | _ => none))).addT (ans_pair (fun n => match n with | 7 => some (pairRows (fineO a) (fineO b) 7) | _ => none))).addT (ans_ask (fun n => match n with | 26 => some (.bool true) | 40 => some (.bool true) | _ => none)))) tabD (dIs (by kernel_rfl)) (treeLKs34_eq a b body) (satLKs34 a b body hl hz)
def oxLKs40 (a : Gw.Offer) (b : Gw.Offer) (n : Int) (id : Int) (body : Str) : OTab := (consT 29 (gD dAsk pAskQ (fun n => match n with | 26 => some (.bool false) | 28 => some (.bool false) | _ => none)) (consT 7 (gNew kT0 kT1 kT2 dPair pPair prPair (fun n => match n with | 7 => some (pairRows (fineO a) (fineO b) 7) | _ => none)) (consT 28 (gD dOff pMayQ (fun n => match n with | 17 => some (.bool true) | _ => none)) (consT 8 (gD dOff pFine noV) (consO 5 (gTrue kT0 kT1 kT2) noOX)))))
def treeLKs40 (a : Gw.Offer) (b : Gw.Offer) (n : Int) (id : Int) (body : Str) : DT V :=
  .ob ((0 ≤ ((if (70 : Int) < ((body : Str).length : Int) then 70 else ((body : Str).length : Int)) : Int) ∧ ((if (70 : Int) < ((body : Str).length : Int) then 70 else ((body : Str).length : Int)) : Int) ≤ (((body : Str).length : Nat) : Int)) ∧ (True)) (
.ob (dOff [.agg a.vs]) (
.ob (((V.beq (.agg b.vs) (.agg b.vs)) && true) = true) (
.ob (dOff [.agg b.vs]) (
.ob (dPair [.agg (fineO a).vs, .agg (fineO b).vs] ∧ pPair [.agg (fineO a).vs, .agg (fineO b).vs] 7 = pairRows (fineO a) (fineO b) 7) (
.ob (dOff [.agg a.vs]) (
.ob (dOff [.agg (fineO a).vs]) (
.ob (pMayQ [.agg (fineO a).vs] = (.bool true)) (
.ob (dAsk [.agg [.int .i64 4, .int .i64 n, .int .u32 id, .str (cut70 body)]]) (
.ob (pAskQ [.agg [.int .i64 4, .int .i64 n, .int .u32 id, .str (cut70 body)]] = (.bool false)) (
.ob (((V.beq (.agg [.int .i64 4, .int .i64 n, .int .u32 id, .str (cut70 body)]) (.agg [.int .i64 4, .int .i64 n, .int .u32 id, .str (cut70 body)])) && true) = true) (
.ob (dAsk [.agg [.int .i64 4, .int .i64 n, .int .u32 id, .str (cut70 body)]]) (
.ob (pAskQ [.agg [.int .i64 4, .int .i64 n, .int .u32 id, .str (cut70 body)]] = (.bool false)) (
.ob ((((id : Int) != 0) == true) = true → ((True) ∧ ((True) ∧ ((True) ∧ (True))))) (
.ob (binV .eql (.int .i64 n) (.int .i64 0) = some (.bool false)) (
.leaf (.bool true))))))))))))))))
set_option maxRecDepth 1000000 in
theorem treeLKs40_eq (a : Gw.Offer) (b : Gw.Offer) (n : Int) (id : Int) (body : Str) : funT (mkXT (noPX) (oxLKs40 a b n id body)) (mkXP (noPX)) (mkX (noPX) (oxLKs40 a b n id body)) D (fun _ => noOrc) (fun k => match k with | 3 => [19, 48, 69, 86, 107, 111, 116, 132, 135] | 9 => [8, 11, 15, 19, 23] | 11 => [10] | _ => []) 12 (fun k => match k with | 116 => some fun t h => (.bool false, h) | _ => none) [19, 48, 69, 86, 107, 111, 116, 132, 135] (noLt) (dOf 3) [.agg a.vs, .agg b.vs, .bool false, .agg [.int .i64 4, .int .i64 n, .int .u32 id, .str body]] (tabH kT0 kT1 kT2 3) (fun v _ => v) = treeLKs40 a b n id body := by kernel_rfl
theorem satLKs40 (a : Gw.Offer) (b : Gw.Offer) (n : Int) (id : Int) (body : Str) (hn : n ≠ 0) : (treeLKs40 a b n id body).sat fun v => v = .bool true :=
 sat_ob ⟨by split <;> omega, trivial⟩ (
sat_ob trivial (
sat_ob (by simp only [V.beq_refl, Bool.and_true]) (
sat_ob trivial (
sat_ob ⟨⟨(mayO_fine a), (mayO_fine b)⟩, rfl⟩ (
sat_ob trivial (
sat_ob trivial (
sat_ob (may_of (mayO_fine a)) (
sat_ob trivial (
sat_ob (by show V.bool (mayAsk _) = _; simp [mayAsk, cut70_len, cut70_nil, hn]) (
sat_ob (by simp only [V.beq_refl, Bool.and_true]) (
sat_ob trivial (
sat_ob (by show V.bool (mayAsk _) = _; simp [mayAsk, cut70_len, cut70_nil, hn]) (
sat_ob (by first | rfl | simp [V.beq, V.beqs, allOne, V.one, byteVs, binV, binI, eqV, eqCells]) (
sat_ob (by simp [binV, binI, hn]) (
sat_leaf (rfl))))))))))))))))
theorem runLKs40 (a : Gw.Offer) (b : Gw.Offer) (n : Int) (id : Int) (body : Str) (hn : n ≠ 0) : Run Tryz.prog 3 [.agg a.vs, .agg b.vs, .bool false, .agg [.int .i64 4, .int .i64 n, .int .u32 id, .str body]] (tabH kT0 kT1 kT2 3) fun v _ => v = .bool true := run_plainU mixed (show TabX Tryz.prog noPX (oxLKs40 a b n id body) from (((((TabX.nil.addO ans_begun).addT (ans_fine noV)).addT (ans_may (fun n => match n with | 17 => some (.bool true) | _ => none))).addT (ans_pair (fun n => match n with | 7 => some (pairRows (fineO a) (fineO b) 7) | _ => none))).addT (ans_ask (fun n => match n with | 26 => some (.bool false) | 28 => some (.bool false) | _ => none)))) tabD (dIs (by kernel_rfl)) (treeLKs40_eq a b n id body) (satLKs40 a b n id body hn)
def oxLKs41 (a : Gw.Offer) (b : Gw.Offer) (id : Int) (body : Str) : OTab := (consT 29 (gD dAsk pAskQ (fun n => match n with | 26 => some (.bool false) | 28 => some (.bool false) | _ => none)) (consT 7 (gNew kT0 kT1 kT2 dPair pPair prPair (fun n => match n with | 7 => some (pairRows (fineO a) (fineO b) 7) | _ => none)) (consT 28 (gD dOff pMayQ (fun n => match n with | 17 => some (.bool true) | _ => none)) (consT 8 (gD dOff pFine noV) (consO 5 (gTrue kT0 kT1 kT2) noOX)))))
def treeLKs41 (a : Gw.Offer) (b : Gw.Offer) (id : Int) (body : Str) : DT V :=
  .ob ((0 ≤ ((if (70 : Int) < ((body : Str).length : Int) then 70 else ((body : Str).length : Int)) : Int) ∧ ((if (70 : Int) < ((body : Str).length : Int) then 70 else ((body : Str).length : Int)) : Int) ≤ (((body : Str).length : Nat) : Int)) ∧ (True)) (
.ob (dOff [.agg a.vs]) (
.ob (((V.beq (.agg b.vs) (.agg b.vs)) && true) = true) (
.ob (dOff [.agg b.vs]) (
.ob (dPair [.agg (fineO a).vs, .agg (fineO b).vs] ∧ pPair [.agg (fineO a).vs, .agg (fineO b).vs] 7 = pairRows (fineO a) (fineO b) 7) (
.ob (dOff [.agg a.vs]) (
.ob (dOff [.agg (fineO a).vs]) (
.ob (pMayQ [.agg (fineO a).vs] = (.bool true)) (
.ob (dAsk [.agg [.int .i64 4, .int .i64 0, .int .u32 id, .str (cut70 body)]]) (
.ob (pAskQ [.agg [.int .i64 4, .int .i64 0, .int .u32 id, .str (cut70 body)]] = (.bool false)) (
.ob (((V.beq (.agg [.int .i64 4, .int .i64 0, .int .u32 id, .str (cut70 body)]) (.agg [.int .i64 4, .int .i64 0, .int .u32 id, .str (cut70 body)])) && true) = true) (
.ob (dAsk [.agg [.int .i64 4, .int .i64 0, .int .u32 id, .str (cut70 body)]]) (
.ob (pAskQ [.agg [.int .i64 4, .int .i64 0, .int .u32 id, .str (cut70 body)]] = (.bool false)) (
.ob (binV .neq (.int .u32 id) (.int .u32 0) = some (.bool true)) (
.ob (binV .eql (.int .u32 id) (.int .u32 0) = some (.bool false)) (
.leaf (.bool true))))))))))))))))
set_option maxRecDepth 1000000 in
theorem treeLKs41_eq (a : Gw.Offer) (b : Gw.Offer) (id : Int) (body : Str) : funT (mkXT (noPX) (oxLKs41 a b id body)) (mkXP (noPX)) (mkX (noPX) (oxLKs41 a b id body)) D (fun _ => noOrc) (fun k => match k with | 3 => [19, 48, 61, 69, 86, 107, 111, 116, 121, 132, 135] | 9 => [8, 11, 15, 19, 23] | 11 => [10] | _ => []) 12 (fun k => match k with | 61 => some fun t h => (.bool true, h) | 121 => some fun t h => (.bool false, h) | _ => none) [19, 48, 61, 69, 86, 107, 111, 116, 121, 132, 135] (noLt) (dOf 3) [.agg a.vs, .agg b.vs, .bool false, .agg [.int .i64 4, .int .i64 0, .int .u32 id, .str body]] (tabH kT0 kT1 kT2 3) (fun v _ => v) = treeLKs41 a b id body := by kernel_rfl
theorem satLKs41 (a : Gw.Offer) (b : Gw.Offer) (id : Int) (body : Str) (hi : id ≠ 0) : (treeLKs41 a b id body).sat fun v => v = .bool true :=
 sat_ob ⟨by split <;> omega, trivial⟩ (
sat_ob trivial (
sat_ob (by simp only [V.beq_refl, Bool.and_true]) (
sat_ob trivial (
sat_ob ⟨⟨(mayO_fine a), (mayO_fine b)⟩, rfl⟩ (
sat_ob trivial (
sat_ob trivial (
sat_ob (may_of (mayO_fine a)) (
sat_ob trivial (
sat_ob (by show V.bool (mayAsk _) = _; simp [mayAsk, cut70_len, cut70_nil, hi]) (
sat_ob (by simp only [V.beq_refl, Bool.and_true]) (
sat_ob trivial (
sat_ob (by show V.bool (mayAsk _) = _; simp [mayAsk, cut70_len, cut70_nil, hi]) (
sat_ob (by simp [binV, binI, hi]) (
sat_ob (by simp [binV, binI, hi]) (
sat_leaf (rfl))))))))))))))))
theorem runLKs41 (a : Gw.Offer) (b : Gw.Offer) (id : Int) (body : Str) (hi : id ≠ 0) : Run Tryz.prog 3 [.agg a.vs, .agg b.vs, .bool false, .agg [.int .i64 4, .int .i64 0, .int .u32 id, .str body]] (tabH kT0 kT1 kT2 3) fun v _ => v = .bool true := run_plainU mixed (show TabX Tryz.prog noPX (oxLKs41 a b id body) from (((((TabX.nil.addO ans_begun).addT (ans_fine noV)).addT (ans_may (fun n => match n with | 17 => some (.bool true) | _ => none))).addT (ans_pair (fun n => match n with | 7 => some (pairRows (fineO a) (fineO b) 7) | _ => none))).addT (ans_ask (fun n => match n with | 26 => some (.bool false) | 28 => some (.bool false) | _ => none)))) tabD (dIs (by kernel_rfl)) (treeLKs41_eq a b id body) (satLKs41 a b id body hi)
def oxLKs42 (a : Gw.Offer) (b : Gw.Offer) (body : Str) : OTab := (consT 29 (gD dAsk pAskQ (fun n => match n with | 26 => some (.bool false) | 28 => some (.bool false) | _ => none)) (consT 7 (gNew kT0 kT1 kT2 dPair pPair prPair (fun n => match n with | 7 => some (pairRows (fineO a) (fineO b) 7) | _ => none)) (consT 28 (gD dOff pMayQ (fun n => match n with | 17 => some (.bool true) | _ => none)) (consT 8 (gD dOff pFine noV) (consO 5 (gTrue kT0 kT1 kT2) noOX)))))
def treeLKs42 (a : Gw.Offer) (b : Gw.Offer) (body : Str) : DT V :=
  .ob ((0 ≤ ((if (70 : Int) < ((body : Str).length : Int) then 70 else ((body : Str).length : Int)) : Int) ∧ ((if (70 : Int) < ((body : Str).length : Int) then 70 else ((body : Str).length : Int)) : Int) ≤ (((body : Str).length : Nat) : Int)) ∧ (True)) (
.ob (dOff [.agg a.vs]) (
.ob (((V.beq (.agg b.vs) (.agg b.vs)) && true) = true) (
.ob (dOff [.agg b.vs]) (
.ob (dPair [.agg (fineO a).vs, .agg (fineO b).vs] ∧ pPair [.agg (fineO a).vs, .agg (fineO b).vs] 7 = pairRows (fineO a) (fineO b) 7) (
.ob (dOff [.agg a.vs]) (
.ob (dOff [.agg (fineO a).vs]) (
.ob (pMayQ [.agg (fineO a).vs] = (.bool true)) (
.ob (dAsk [.agg [.int .i64 4, .int .i64 0, .int .u32 0, .str (cut70 body)]]) (
.ob (pAskQ [.agg [.int .i64 4, .int .i64 0, .int .u32 0, .str (cut70 body)]] = (.bool false)) (
.ob (((V.beq (.agg [.int .i64 4, .int .i64 0, .int .u32 0, .str (cut70 body)]) (.agg [.int .i64 4, .int .i64 0, .int .u32 0, .str (cut70 body)])) && true) = true) (
.ob (dAsk [.agg [.int .i64 4, .int .i64 0, .int .u32 0, .str (cut70 body)]]) (
.ob (pAskQ [.agg [.int .i64 4, .int .i64 0, .int .u32 0, .str (cut70 body)]] = (.bool false)) (
.ob (binV .eql (.str (cut70 body)) (.str []) = some (.bool false)) (
.leaf (.bool true)))))))))))))))
set_option maxRecDepth 1000000 in
theorem treeLKs42_eq (a : Gw.Offer) (b : Gw.Offer) (body : Str) : funT (mkXT (noPX) (oxLKs42 a b body)) (mkXP (noPX)) (mkX (noPX) (oxLKs42 a b body)) D (fun _ => noOrc) (fun k => match k with | 3 => [19, 48, 61, 69, 86, 107, 111, 116, 121, 126, 132, 135] | 9 => [8, 11, 15, 19, 23] | 11 => [10] | _ => []) 12 (fun k => match k with | 126 => some fun t h => (.bool false, h) | _ => none) [19, 48, 61, 69, 86, 107, 111, 116, 121, 126, 132, 135] (noLt) (dOf 3) [.agg a.vs, .agg b.vs, .bool false, .agg [.int .i64 4, .int .i64 0, .int .u32 0, .str body]] (tabH kT0 kT1 kT2 3) (fun v _ => v) = treeLKs42 a b body := by kernel_rfl
theorem satLKs42 (a : Gw.Offer) (b : Gw.Offer) (body : Str) (hb : body ≠ []) : (treeLKs42 a b body).sat fun v => v = .bool true :=
 sat_ob ⟨by split <;> omega, trivial⟩ (
sat_ob trivial (
sat_ob (by simp only [V.beq_refl, Bool.and_true]) (
sat_ob trivial (
sat_ob ⟨⟨(mayO_fine a), (mayO_fine b)⟩, rfl⟩ (
sat_ob trivial (
sat_ob trivial (
sat_ob (may_of (mayO_fine a)) (
sat_ob trivial (
sat_ob (by show V.bool (mayAsk _) = _; simp [mayAsk, cut70_len, cut70_nil, hb]) (
sat_ob (by simp only [V.beq_refl, Bool.and_true]) (
sat_ob trivial (
sat_ob (by show V.bool (mayAsk _) = _; simp [mayAsk, cut70_len, cut70_nil, hb]) (
sat_ob (by simp [binV, cut70_nil, hb]) (
sat_leaf (rfl)))))))))))))))
theorem runLKs42 (a : Gw.Offer) (b : Gw.Offer) (body : Str) (hb : body ≠ []) : Run Tryz.prog 3 [.agg a.vs, .agg b.vs, .bool false, .agg [.int .i64 4, .int .i64 0, .int .u32 0, .str body]] (tabH kT0 kT1 kT2 3) fun v _ => v = .bool true := run_plainU mixed (show TabX Tryz.prog noPX (oxLKs42 a b body) from (((((TabX.nil.addO ans_begun).addT (ans_fine noV)).addT (ans_may (fun n => match n with | 17 => some (.bool true) | _ => none))).addT (ans_pair (fun n => match n with | 7 => some (pairRows (fineO a) (fineO b) 7) | _ => none))).addT (ans_ask (fun n => match n with | 26 => some (.bool false) | 28 => some (.bool false) | _ => none)))) tabD (dIs (by kernel_rfl)) (treeLKs42_eq a b body) (satLKs42 a b body hb)
def oxLKs43 (a : Gw.Offer) (b : Gw.Offer) : OTab := (consT 29 (gD dAsk pAskQ (fun n => match n with | 26 => some (.bool true) | 28 => some (.bool true) | _ => none)) (consT 7 (gNew kT0 kT1 kT2 dPair pPair prPair (fun n => match n with | 7 => some (pairRows (fineO a) (fineO b) 7) | _ => none)) (consT 28 (gD dOff pMayQ (fun n => match n with | 17 => some (.bool true) | _ => none)) (consT 8 (gD dOff pFine noV) (consO 5 (gTrue kT0 kT1 kT2) noOX)))))
def treeLKs43 (a : Gw.Offer) (b : Gw.Offer) : DT V :=
  .ob ((0 ≤ (0 : Int) ∧ (0 : Int) ≤ ((0 : Nat) : Int)) ∧ (True)) (
.ob (dOff [.agg a.vs]) (
.ob (((V.beq (.agg b.vs) (.agg b.vs)) && true) = true) (
.ob (dOff [.agg b.vs]) (
.ob (dPair [.agg (fineO a).vs, .agg (fineO b).vs] ∧ pPair [.agg (fineO a).vs, .agg (fineO b).vs] 7 = pairRows (fineO a) (fineO b) 7) (
.ob (dOff [.agg a.vs]) (
.ob (dOff [.agg (fineO a).vs]) (
.ob (pMayQ [.agg (fineO a).vs] = (.bool true)) (
.ob (dAsk [.agg [.int .i64 4, .int .i64 0, .int .u32 0, .str []]]) (
.ob (pAskQ [.agg [.int .i64 4, .int .i64 0, .int .u32 0, .str []]] = (.bool true)) (
.ob (((V.beq (.agg [.int .i64 4, .int .i64 0, .int .u32 0, .str []]) (.agg [.int .i64 4, .int .i64 0, .int .u32 0, .str []])) && true) = true) (
.ob (dAsk [.agg [.int .i64 4, .int .i64 0, .int .u32 0, .str []]]) (
.ob (pAskQ [.agg [.int .i64 4, .int .i64 0, .int .u32 0, .str []]] = (.bool true)) (
.leaf (.bool true))))))))))))))
set_option maxRecDepth 1000000 in
theorem treeLKs43_eq (a : Gw.Offer) (b : Gw.Offer) : funT (mkXT (noPX) (oxLKs43 a b)) (mkXP (noPX)) (mkX (noPX) (oxLKs43 a b)) D (fun _ => noOrc) (fun k => match k with | 3 => [19, 48, 61, 69, 86, 107, 111, 116, 121, 126, 140, 152, 166, 176, 179] | 9 => [8, 11, 15, 19, 23] | 11 => [10, 15, 20, 25, 30, 31, 37, 41, 50, 81, 90] | _ => []) 12 noOrc [19, 48, 61, 69, 86, 107, 111, 116, 121, 126, 140, 152, 166, 176, 179] (noLt) (dOf 3) [.agg a.vs, .agg b.vs, .bool false, .agg [.int .i64 4, .int .i64 0, .int .u32 0, .str []]] (tabH kT0 kT1 kT2 3) (fun v _ => v) = treeLKs43 a b := by kernel_rfl
theorem satLKs43 (a : Gw.Offer) (b : Gw.Offer)  : (treeLKs43 a b).sat fun v => v = .bool true :=
 sat_ob (by decide) (
sat_ob trivial (
sat_ob (by simp only [V.beq_refl, Bool.and_true]) (
sat_ob trivial (
sat_ob ⟨⟨(mayO_fine a), (mayO_fine b)⟩, rfl⟩ (
sat_ob trivial (
sat_ob trivial (
sat_ob (may_of (mayO_fine a)) (
sat_ob trivial (
sat_ob (by show V.bool (mayAsk _) = _; simp [mayAsk, cut70_len, cut70_nil]) (
sat_ob (by simp only [V.beq_refl, Bool.and_true]) (
sat_ob trivial (
sat_ob (by show V.bool (mayAsk _) = _; simp [mayAsk, cut70_len, cut70_nil]) (
sat_leaf (rfl))))))))))))))
theorem runLKs43 (a : Gw.Offer) (b : Gw.Offer)  : Run Tryz.prog 3 [.agg a.vs, .agg b.vs, .bool false, .agg [.int .i64 4, .int .i64 0, .int .u32 0, .str []]] (tabH kT0 kT1 kT2 3) fun v _ => v = .bool true := run_plainU mixed (show TabX Tryz.prog noPX (oxLKs43 a b) from (((((TabX.nil.addO ans_begun).addT (ans_fine noV)).addT (ans_may (fun n => match n with | 17 => some (.bool true) | _ => none))).addT (ans_pair (fun n => match n with | 7 => some (pairRows (fineO a) (fineO b) 7) | _ => none))).addT (ans_ask (fun n => match n with | 26 => some (.bool true) | 28 => some (.bool true) | _ => none)))) tabD (dIs (by kernel_rfl)) (treeLKs43_eq a b) (satLKs43 a b )
def oxLKs50 (a : Gw.Offer) (b : Gw.Offer) (n : Int) (id : Int) (body : Str) : OTab := (consT 29 (gD dAsk pAskQ (fun n => match n with | 26 => some (.bool false) | 28 => some (.bool false) | _ => none)) (consT 7 (gNew kT0 kT1 kT2 dPair pPair prPair (fun n => match n with | 7 => some (pairRows (fineO a) (fineO b) 7) | _ => none)) (consT 28 (gD dOff pMayQ (fun n => match n with | 17 => some (.bool true) | _ => none)) (consT 8 (gD dOff pFine noV) (consO 5 (gTrue kT0 kT1 kT2) noOX)))))
def treeLKs50 (a : Gw.Offer) (b : Gw.Offer) (n : Int) (id : Int) (body : Str) : DT V :=
  .ob ((0 ≤ ((if (70 : Int) < ((body : Str).length : Int) then 70 else ((body : Str).length : Int)) : Int) ∧ ((if (70 : Int) < ((body : Str).length : Int) then 70 else ((body : Str).length : Int)) : Int) ≤ (((body : Str).length : Nat) : Int)) ∧ (True)) (
.ob (dOff [.agg a.vs]) (
.ob (((V.beq (.agg b.vs) (.agg b.vs)) && true) = true) (
.ob (dOff [.agg b.vs]) (
.ob (dPair [.agg (fineO a).vs, .agg (fineO b).vs] ∧ pPair [.agg (fineO a).vs, .agg (fineO b).vs] 7 = pairRows (fineO a) (fineO b) 7) (
.ob (dOff [.agg a.vs]) (
.ob (dOff [.agg (fineO a).vs]) (
.ob (pMayQ [.agg (fineO a).vs] = (.bool true)) (
.ob (dAsk [.agg [.int .i64 5, .int .i64 n, .int .u32 id, .str (cut70 body)]]) (
.ob (pAskQ [.agg [.int .i64 5, .int .i64 n, .int .u32 id, .str (cut70 body)]] = (.bool false)) (
.ob (((V.beq (.agg [.int .i64 5, .int .i64 n, .int .u32 id, .str (cut70 body)]) (.agg [.int .i64 5, .int .i64 n, .int .u32 id, .str (cut70 body)])) && true) = true) (
.ob (dAsk [.agg [.int .i64 5, .int .i64 n, .int .u32 id, .str (cut70 body)]]) (
.ob (pAskQ [.agg [.int .i64 5, .int .i64 n, .int .u32 id, .str (cut70 body)]] = (.bool false)) (
.ob ((((id : Int) != 0) == true) = true → ((True) ∧ ((True) ∧ ((True) ∧ (True))))) (
.ob (binV .eql (.int .i64 n) (.int .i64 0) = some (.bool false)) (
.leaf (.bool true))))))))))))))))
set_option maxRecDepth 1000000 in
theorem treeLKs50_eq (a : Gw.Offer) (b : Gw.Offer) (n : Int) (id : Int) (body : Str) : funT (mkXT (noPX) (oxLKs50 a b n id body)) (mkXP (noPX)) (mkX (noPX) (oxLKs50 a b n id body)) D (fun _ => noOrc) (fun k => match k with | 3 => [19, 48, 69, 86, 107, 111, 116, 132, 135] | 9 => [8, 11, 15, 19, 23] | 11 => [10] | _ => []) 12 (fun k => match k with | 116 => some fun t h => (.bool false, h) | _ => none) [19, 48, 69, 86, 107, 111, 116, 132, 135] (noLt) (dOf 3) [.agg a.vs, .agg b.vs, .bool false, .agg [.int .i64 5, .int .i64 n, .int .u32 id, .str body]] (tabH kT0 kT1 kT2 3) (fun v _ => v) = treeLKs50 a b n id body := by kernel_rfl
theorem satLKs50 (a : Gw.Offer) (b : Gw.Offer) (n : Int) (id : Int) (body : Str) (hn : n ≠ 0) : (treeLKs50 a b n id body).sat fun v => v = .bool true :=
 sat_ob ⟨by split <;> omega, trivial⟩ (
sat_ob trivial (
sat_ob (by simp only [V.beq_refl, Bool.and_true]) (
sat_ob trivial (
sat_ob ⟨⟨(mayO_fine a), (mayO_fine b)⟩, rfl⟩ (
sat_ob trivial (
sat_ob trivial (
sat_ob (may_of (mayO_fine a)) (
sat_ob trivial (
sat_ob (by show V.bool (mayAsk _) = _; simp [mayAsk, cut70_len, cut70_nil, hn]) (
sat_ob (by simp only [V.beq_refl, Bool.and_true]) (
sat_ob trivial (
sat_ob (by show V.bool (mayAsk _) = _; simp [mayAsk, cut70_len, cut70_nil, hn]) (
sat_ob (by first | rfl | simp [V.beq, V.beqs, allOne, V.one, byteVs, binV, binI, eqV, eqCells]) (
sat_ob (by simp [binV, binI, hn]) (
sat_leaf (rfl))))))))))))))))
theorem runLKs50 (a : Gw.Offer) (b : Gw.Offer) (n : Int) (id : Int) (body : Str) (hn : n ≠ 0) : Run Tryz.prog 3 [.agg a.vs, .agg b.vs, .bool false, .agg [.int .i64 5, .int .i64 n, .int .u32 id, .str body]] (tabH kT0 kT1 kT2 3) fun v _ => v = .bool true := run_plainU mixed (show TabX Tryz.prog noPX (oxLKs50 a b n id body) from (((((TabX.nil.addO ans_begun).addT (ans_fine noV)).addT (ans_may (fun n => match n with | 17 => some (.bool true) | _ => none))).addT (ans_pair (fun n => match n with | 7 => some (pairRows (fineO a) (fineO b) 7) | _ => none))).addT (ans_ask (fun n => match n with | 26 => some (.bool false) | 28 => some (.bool false) | _ => none)))) tabD (dIs (by kernel_rfl)) (treeLKs50_eq a b n id body) (satLKs50 a b n id body hn)
def oxLKs51 (a : Gw.Offer) (b : Gw.Offer) (id : Int) (body : Str) : OTab := (consT 29 (gD dAsk pAskQ (fun n => match n with | 26 => some (.bool false) | 28 => some (.bool false) | _ => none)) (consT 7 (gNew kT0 kT1 kT2 dPair pPair prPair (fun n => match n with | 7 => some (pairRows (fineO a) (fineO b) 7) | _ => none)) (consT 28 (gD dOff pMayQ (fun n => match n with | 17 => some (.bool true) | _ => none)) (consT 8 (gD dOff pFine noV) (consO 5 (gTrue kT0 kT1 kT2) noOX)))))
def treeLKs51 (a : Gw.Offer) (b : Gw.Offer) (id : Int) (body : Str) : DT V :=
  .ob ((0 ≤ ((if (70 : Int) < ((body : Str).length : Int) then 70 else ((body : Str).length : Int)) : Int) ∧ ((if (70 : Int) < ((body : Str).length : Int) then 70 else ((body : Str).length : Int)) : Int) ≤ (((body : Str).length : Nat) : Int)) ∧ (True)) (
.ob (dOff [.agg a.vs]) (
.ob (((V.beq (.agg b.vs) (.agg b.vs)) && true) = true) (
.ob (dOff [.agg b.vs]) (
.ob (dPair [.agg (fineO a).vs, .agg (fineO b).vs] ∧ pPair [.agg (fineO a).vs, .agg (fineO b).vs] 7 = pairRows (fineO a) (fineO b) 7) (
.ob (dOff [.agg a.vs]) (
.ob (dOff [.agg (fineO a).vs]) (
.ob (pMayQ [.agg (fineO a).vs] = (.bool true)) (
.ob (dAsk [.agg [.int .i64 5, .int .i64 0, .int .u32 id, .str (cut70 body)]]) (
.ob (pAskQ [.agg [.int .i64 5, .int .i64 0, .int .u32 id, .str (cut70 body)]] = (.bool false)) (
.ob (((V.beq (.agg [.int .i64 5, .int .i64 0, .int .u32 id, .str (cut70 body)]) (.agg [.int .i64 5, .int .i64 0, .int .u32 id, .str (cut70 body)])) && true) = true) (
.ob (dAsk [.agg [.int .i64 5, .int .i64 0, .int .u32 id, .str (cut70 body)]]) (
.ob (pAskQ [.agg [.int .i64 5, .int .i64 0, .int .u32 id, .str (cut70 body)]] = (.bool false)) (
.ob (binV .neq (.int .u32 id) (.int .u32 0) = some (.bool true)) (
.ob (binV .eql (.int .u32 id) (.int .u32 0) = some (.bool false)) (
.leaf (.bool true))))))))))))))))
set_option maxRecDepth 1000000 in
theorem treeLKs51_eq (a : Gw.Offer) (b : Gw.Offer) (id : Int) (body : Str) : funT (mkXT (noPX) (oxLKs51 a b id body)) (mkXP (noPX)) (mkX (noPX) (oxLKs51 a b id body)) D (fun _ => noOrc) (fun k => match k with | 3 => [19, 48, 61, 69, 86, 107, 111, 116, 121, 132, 135] | 9 => [8, 11, 15, 19, 23] | 11 => [10] | _ => []) 12 (fun k => match k with | 61 => some fun t h => (.bool true, h) | 121 => some fun t h => (.bool false, h) | _ => none) [19, 48, 61, 69, 86, 107, 111, 116, 121, 132, 135] (noLt) (dOf 3) [.agg a.vs, .agg b.vs, .bool false, .agg [.int .i64 5, .int .i64 0, .int .u32 id, .str body]] (tabH kT0 kT1 kT2 3) (fun v _ => v) = treeLKs51 a b id body := by kernel_rfl
theorem satLKs51 (a : Gw.Offer) (b : Gw.Offer) (id : Int) (body : Str) (hi : id ≠ 0) : (treeLKs51 a b id body).sat fun v => v = .bool true :=
 sat_ob ⟨by split <;> omega, trivial⟩ (
sat_ob trivial (
sat_ob (by simp only [V.beq_refl, Bool.and_true]) (
sat_ob trivial (
sat_ob ⟨⟨(mayO_fine a), (mayO_fine b)⟩, rfl⟩ (
sat_ob trivial (
sat_ob trivial (
sat_ob (may_of (mayO_fine a)) (
sat_ob trivial (
sat_ob (by show V.bool (mayAsk _) = _; simp [mayAsk, cut70_len, cut70_nil, hi]) (
sat_ob (by simp only [V.beq_refl, Bool.and_true]) (
sat_ob trivial (
sat_ob (by show V.bool (mayAsk _) = _; simp [mayAsk, cut70_len, cut70_nil, hi]) (
sat_ob (by simp [binV, binI, hi]) (
sat_ob (by simp [binV, binI, hi]) (
sat_leaf (rfl))))))))))))))))
theorem runLKs51 (a : Gw.Offer) (b : Gw.Offer) (id : Int) (body : Str) (hi : id ≠ 0) : Run Tryz.prog 3 [.agg a.vs, .agg b.vs, .bool false, .agg [.int .i64 5, .int .i64 0, .int .u32 id, .str body]] (tabH kT0 kT1 kT2 3) fun v _ => v = .bool true := run_plainU mixed (show TabX Tryz.prog noPX (oxLKs51 a b id body) from (((((TabX.nil.addO ans_begun).addT (ans_fine noV)).addT (ans_may (fun n => match n with | 17 => some (.bool true) | _ => none))).addT (ans_pair (fun n => match n with | 7 => some (pairRows (fineO a) (fineO b) 7) | _ => none))).addT (ans_ask (fun n => match n with | 26 => some (.bool false) | 28 => some (.bool false) | _ => none)))) tabD (dIs (by kernel_rfl)) (treeLKs51_eq a b id body) (satLKs51 a b id body hi)
def oxLKs52 (a : Gw.Offer) (b : Gw.Offer) (body : Str) : OTab := (consT 29 (gD dAsk pAskQ (fun n => match n with | 26 => some (.bool false) | 28 => some (.bool false) | _ => none)) (consT 7 (gNew kT0 kT1 kT2 dPair pPair prPair (fun n => match n with | 7 => some (pairRows (fineO a) (fineO b) 7) | _ => none)) (consT 28 (gD dOff pMayQ (fun n => match n with | 17 => some (.bool true) | _ => none)) (consT 8 (gD dOff pFine noV) (consO 5 (gTrue kT0 kT1 kT2) noOX)))))
def treeLKs52 (a : Gw.Offer) (b : Gw.Offer) (body : Str) : DT V :=
  .ob ((0 ≤ ((if (70 : Int) < ((body : Str).length : Int) then 70 else ((body : Str).length : Int)) : Int) ∧ ((if (70 : Int) < ((body : Str).length : Int) then 70 else ((body : Str).length : Int)) : Int) ≤ (((body : Str).length : Nat) : Int)) ∧ (True)) (
.ob (dOff [.agg a.vs]) (
.ob (((V.beq (.agg b.vs) (.agg b.vs)) && true) = true) (
.ob (dOff [.agg b.vs]) (
.ob (dPair [.agg (fineO a).vs, .agg (fineO b).vs] ∧ pPair [.agg (fineO a).vs, .agg (fineO b).vs] 7 = pairRows (fineO a) (fineO b) 7) (
.ob (dOff [.agg a.vs]) (
.ob (dOff [.agg (fineO a).vs]) (
.ob (pMayQ [.agg (fineO a).vs] = (.bool true)) (
.ob (dAsk [.agg [.int .i64 5, .int .i64 0, .int .u32 0, .str (cut70 body)]]) (
.ob (pAskQ [.agg [.int .i64 5, .int .i64 0, .int .u32 0, .str (cut70 body)]] = (.bool false)) (
.ob (((V.beq (.agg [.int .i64 5, .int .i64 0, .int .u32 0, .str (cut70 body)]) (.agg [.int .i64 5, .int .i64 0, .int .u32 0, .str (cut70 body)])) && true) = true) (
.ob (dAsk [.agg [.int .i64 5, .int .i64 0, .int .u32 0, .str (cut70 body)]]) (
.ob (pAskQ [.agg [.int .i64 5, .int .i64 0, .int .u32 0, .str (cut70 body)]] = (.bool false)) (
.ob (binV .eql (.str (cut70 body)) (.str []) = some (.bool false)) (
.leaf (.bool true)))))))))))))))
set_option maxRecDepth 1000000 in
theorem treeLKs52_eq (a : Gw.Offer) (b : Gw.Offer) (body : Str) : funT (mkXT (noPX) (oxLKs52 a b body)) (mkXP (noPX)) (mkX (noPX) (oxLKs52 a b body)) D (fun _ => noOrc) (fun k => match k with | 3 => [19, 48, 61, 69, 86, 107, 111, 116, 121, 126, 132, 135] | 9 => [8, 11, 15, 19, 23] | 11 => [10] | _ => []) 12 (fun k => match k with | 126 => some fun t h => (.bool false, h) | _ => none) [19, 48, 61, 69, 86, 107, 111, 116, 121, 126, 132, 135] (noLt) (dOf 3) [.agg a.vs, .agg b.vs, .bool false, .agg [.int .i64 5, .int .i64 0, .int .u32 0, .str body]] (tabH kT0 kT1 kT2 3) (fun v _ => v) = treeLKs52 a b body := by kernel_rfl
theorem satLKs52 (a : Gw.Offer) (b : Gw.Offer) (body : Str) (hb : body ≠ []) : (treeLKs52 a b body).sat fun v => v = .bool true :=
 sat_ob ⟨by split <;> omega, trivial⟩ (
sat_ob trivial (
sat_ob (by simp only [V.beq_refl, Bool.and_true]) (
sat_ob trivial (
sat_ob ⟨⟨(mayO_fine a), (mayO_fine b)⟩, rfl⟩ (
sat_ob trivial (
sat_ob trivial (
sat_ob (may_of (mayO_fine a)) (
sat_ob trivial (
sat_ob (by show V.bool (mayAsk _) = _; simp [mayAsk, cut70_len, cut70_nil, hb]) (
sat_ob (by simp only [V.beq_refl, Bool.and_true]) (
sat_ob trivial (
sat_ob (by show V.bool (mayAsk _) = _; simp [mayAsk, cut70_len, cut70_nil, hb]) (
sat_ob (by simp [binV, cut70_nil, hb]) (
sat_leaf (rfl)))))))))))))))
theorem runLKs52 (a : Gw.Offer) (b : Gw.Offer) (body : Str) (hb : body ≠ []) : Run Tryz.prog 3 [.agg a.vs, .agg b.vs, .bool false, .agg [.int .i64 5, .int .i64 0, .int .u32 0, .str body]] (tabH kT0 kT1 kT2 3) fun v _ => v = .bool true := run_plainU mixed (show TabX Tryz.prog noPX (oxLKs52 a b body) from (((((TabX.nil.addO ans_begun).addT (ans_fine noV)).addT (ans_may (fun n => match n with | 17 => some (.bool true) | _ => none))).addT (ans_pair (fun n => match n with | 7 => some (pairRows (fineO a) (fineO b) 7) | _ => none))).addT (ans_ask (fun n => match n with | 26 => some (.bool false) | 28 => some (.bool false) | _ => none)))) tabD (dIs (by kernel_rfl)) (treeLKs52_eq a b body) (satLKs52 a b body hb)
def oxLKs53 (a : Gw.Offer) (b : Gw.Offer) : OTab := (consT 29 (gD dAsk pAskQ (fun n => match n with | 26 => some (.bool true) | 28 => some (.bool true) | _ => none)) (consT 7 (gNew kT0 kT1 kT2 dPair pPair prPair (fun n => match n with | 7 => some (pairRows (fineO a) (fineO b) 7) | _ => none)) (consT 28 (gD dOff pMayQ (fun n => match n with | 17 => some (.bool true) | _ => none)) (consT 8 (gD dOff pFine noV) (consO 5 (gTrue kT0 kT1 kT2) noOX)))))
def treeLKs53 (a : Gw.Offer) (b : Gw.Offer) : DT V :=
  .ob ((0 ≤ (0 : Int) ∧ (0 : Int) ≤ ((0 : Nat) : Int)) ∧ (True)) (
.ob (dOff [.agg a.vs]) (
.ob (((V.beq (.agg b.vs) (.agg b.vs)) && true) = true) (
.ob (dOff [.agg b.vs]) (
.ob (dPair [.agg (fineO a).vs, .agg (fineO b).vs] ∧ pPair [.agg (fineO a).vs, .agg (fineO b).vs] 7 = pairRows (fineO a) (fineO b) 7) (
.ob (dOff [.agg a.vs]) (
.ob (dOff [.agg (fineO a).vs]) (
.ob (pMayQ [.agg (fineO a).vs] = (.bool true)) (
.ob (dAsk [.agg [.int .i64 5, .int .i64 0, .int .u32 0, .str []]]) (
.ob (pAskQ [.agg [.int .i64 5, .int .i64 0, .int .u32 0, .str []]] = (.bool true)) (
.ob (((V.beq (.agg [.int .i64 5, .int .i64 0, .int .u32 0, .str []]) (.agg [.int .i64 5, .int .i64 0, .int .u32 0, .str []])) && true) = true) (
.ob (dAsk [.agg [.int .i64 5, .int .i64 0, .int .u32 0, .str []]]) (
.ob (pAskQ [.agg [.int .i64 5, .int .i64 0, .int .u32 0, .str []]] = (.bool true)) (
.leaf (.bool true))))))))))))))
set_option maxRecDepth 1000000 in
theorem treeLKs53_eq (a : Gw.Offer) (b : Gw.Offer) : funT (mkXT (noPX) (oxLKs53 a b)) (mkXP (noPX)) (mkX (noPX) (oxLKs53 a b)) D (fun _ => noOrc) (fun k => match k with | 3 => [19, 48, 61, 69, 86, 107, 111, 116, 121, 126, 140, 152, 166, 176, 179] | 9 => [8, 11, 15, 19, 23] | 11 => [10, 15, 20, 25, 30, 31, 37, 41, 50, 81, 90, 98] | 32 => [4] | _ => []) 12 noOrc [19, 48, 61, 69, 86, 107, 111, 116, 121, 126, 140, 152, 166, 176, 179] (noLt) (dOf 3) [.agg a.vs, .agg b.vs, .bool false, .agg [.int .i64 5, .int .i64 0, .int .u32 0, .str []]] (tabH kT0 kT1 kT2 3) (fun v _ => v) = treeLKs53 a b := by kernel_rfl
theorem satLKs53 (a : Gw.Offer) (b : Gw.Offer)  : (treeLKs53 a b).sat fun v => v = .bool true :=
 sat_ob (by decide) (
sat_ob trivial (
sat_ob (by simp only [V.beq_refl, Bool.and_true]) (
sat_ob trivial (
sat_ob ⟨⟨(mayO_fine a), (mayO_fine b)⟩, rfl⟩ (
sat_ob trivial (
sat_ob trivial (
sat_ob (may_of (mayO_fine a)) (
sat_ob trivial (
sat_ob (by show V.bool (mayAsk _) = _; simp [mayAsk, cut70_len, cut70_nil]) (
sat_ob (by simp only [V.beq_refl, Bool.and_true]) (
sat_ob trivial (
sat_ob (by show V.bool (mayAsk _) = _; simp [mayAsk, cut70_len, cut70_nil]) (
sat_leaf (rfl))))))))))))))
theorem runLKs53 (a : Gw.Offer) (b : Gw.Offer)  : Run Tryz.prog 3 [.agg a.vs, .agg b.vs, .bool false, .agg [.int .i64 5, .int .i64 0, .int .u32 0, .str []]] (tabH kT0 kT1 kT2 3) fun v _ => v = .bool true := run_plainU mixed (show TabX Tryz.prog noPX (oxLKs53 a b) from (((((TabX.nil.addO ans_begun).addT (ans_fine noV)).addT (ans_may (fun n => match n with | 17 => some (.bool true) | _ => none))).addT (ans_pair (fun n => match n with | 7 => some (pairRows (fineO a) (fineO b) 7) | _ => none))).addT (ans_ask (fun n => match n with | 26 => some (.bool true) | 28 => some (.bool true) | _ => none)))) tabD (dIs (by kernel_rfl)) (treeLKs53_eq a b) (satLKs53 a b )
def oxLKs60 (a : Gw.Offer) (b : Gw.Offer) (n : Int) (id : Int) (body : Str) : OTab := (consT 29 (gD dAsk pAskQ (fun n => match n with | 26 => some (.bool false) | 28 => some (.bool false) | _ => none)) (consT 7 (gNew kT0 kT1 kT2 dPair pPair prPair (fun n => match n with | 7 => some (pairRows (fineO a) (fineO b) 7) | _ => none)) (consT 28 (gD dOff pMayQ (fun n => match n with | 17 => some (.bool true) | _ => none)) (consT 8 (gD dOff pFine noV) (consO 5 (gTrue kT0 kT1 kT2) noOX)))))
def treeLKs60 (a : Gw.Offer) (b : Gw.Offer) (n : Int) (id : Int) (body : Str) : DT V :=
  .ob ((0 ≤ ((if (70 : Int) < ((body : Str).length : Int) then 70 else ((body : Str).length : Int)) : Int) ∧ ((if (70 : Int) < ((body : Str).length : Int) then 70 else ((body : Str).length : Int)) : Int) ≤ (((body : Str).length : Nat) : Int)) ∧ (True)) (
.ob (dOff [.agg a.vs]) (
.ob (((V.beq (.agg b.vs) (.agg b.vs)) && true) = true) (
.ob (dOff [.agg b.vs]) (
.ob (dPair [.agg (fineO a).vs, .agg (fineO b).vs] ∧ pPair [.agg (fineO a).vs, .agg (fineO b).vs] 7 = pairRows (fineO a) (fineO b) 7) (
.ob (dOff [.agg a.vs]) (
.ob (dOff [.agg (fineO a).vs]) (
.ob (pMayQ [.agg (fineO a).vs] = (.bool true)) (
.ob (dAsk [.agg [.int .i64 6, .int .i64 n, .int .u32 id, .str (cut70 body)]]) (
.ob (pAskQ [.agg [.int .i64 6, .int .i64 n, .int .u32 id, .str (cut70 body)]] = (.bool false)) (
.ob (((V.beq (.agg [.int .i64 6, .int .i64 n, .int .u32 id, .str (cut70 body)]) (.agg [.int .i64 6, .int .i64 n, .int .u32 id, .str (cut70 body)])) && true) = true) (
.ob (dAsk [.agg [.int .i64 6, .int .i64 n, .int .u32 id, .str (cut70 body)]]) (
.ob (pAskQ [.agg [.int .i64 6, .int .i64 n, .int .u32 id, .str (cut70 body)]] = (.bool false)) (
.ob ((((id : Int) != 0) == true) = true → ((True) ∧ ((True) ∧ ((True) ∧ (True))))) (
.ob (binV .eql (.int .i64 n) (.int .i64 0) = some (.bool false)) (
.leaf (.bool true))))))))))))))))
set_option maxRecDepth 1000000 in
theorem treeLKs60_eq (a : Gw.Offer) (b : Gw.Offer) (n : Int) (id : Int) (body : Str) : funT (mkXT (noPX) (oxLKs60 a b n id body)) (mkXP (noPX)) (mkX (noPX) (oxLKs60 a b n id body)) D (fun _ => noOrc) (fun k => match k with | 3 => [19, 48, 69, 86, 107, 111, 116, 132, 135] | 9 => [8, 11, 15, 19, 23] | 11 => [10] | _ => []) 12 (fun k => match k with | 116 => some fun t h => (.bool false, h) | _ => none) [19, 48, 69, 86, 107, 111, 116, 132, 135] (noLt) (dOf 3) [.agg a.vs, .agg b.vs, .bool false, .agg [.int .i64 6, .int .i64 n, .int .u32 id, .str body]] (tabH kT0 kT1 kT2 3) (fun v _ => v) = treeLKs60 a b n id body := by kernel_rfl
theorem satLKs60 (a : Gw.Offer) (b : Gw.Offer) (n : Int) (id : Int) (body : Str) (hn : n ≠ 0) : (treeLKs60 a b n id body).sat fun v => v = .bool true :=
 sat_ob ⟨by split <;> omega, trivial⟩ (
sat_ob trivial (
sat_ob (by simp only [V.beq_refl, Bool.and_true]) (
sat_ob trivial (
sat_ob ⟨⟨(mayO_fine a), (mayO_fine b)⟩, rfl⟩ (
sat_ob trivial (
sat_ob trivial (
sat_ob (may_of (mayO_fine a)) (
sat_ob trivial (
sat_ob (by show V.bool (mayAsk _) = _; simp [mayAsk, cut70_len, cut70_nil, hn]) (
sat_ob (by simp only [V.beq_refl, Bool.and_true]) (
sat_ob trivial (
sat_ob (by show V.bool (mayAsk _) = _; simp [mayAsk, cut70_len, cut70_nil, hn]) (
sat_ob (by first | rfl | simp [V.beq, V.beqs, allOne, V.one, byteVs, binV, binI, eqV, eqCells]) (
sat_ob (by simp [binV, binI, hn]) (
sat_leaf (rfl))))))))))))))))
theorem runLKs60 (a : Gw.Offer) (b : Gw.Offer) (n : Int) (id : Int) (body : Str) (hn : n ≠ 0) : Run Tryz.prog 3 [.agg a.vs, .agg b.vs, .bool false, .agg [.int .i64 6, .int .i64 n, .int .u32 id, .str body]] (tabH kT0 kT1 kT2 3) fun v _ => v = .bool true := run_plainU mixed (show TabX Tryz.prog noPX (oxLKs60 a b n id body) from (((((TabX.nil.addO ans_begun).addT (ans_fine noV)).addT (ans_may (fun n => match n with | 17 => some (.bool true) | _ => none))).addT (ans_pair (fun n => match n with | 7 => some (pairRows (fineO a) (fineO b) 7) | _ => none))).addT (ans_ask (fun n => match n with | 26 => some (.bool false) | 28 => some (.bool false) | _ => none)))) tabD (dIs (by kernel_rfl)) (treeLKs60_eq a b n id body) (satLKs60 a b n id body hn)
def oxLKs61 (a : Gw.Offer) (b : Gw.Offer) (id : Int) (body : Str) : OTab := (consT 29 (gD dAsk pAskQ (fun n => match n with | 26 => some (.bool false) | 28 => some (.bool false) | _ => none)) (consT 7 (gNew kT0 kT1 kT2 dPair pPair prPair (fun n => match n with | 7 => some (pairRows (fineO a) (fineO b) 7) | _ => none)) (consT 28 (gD dOff pMayQ (fun n => match n with | 17 => some (.bool true) | _ => none)) (consT 8 (gD dOff pFine noV) (consO 5 (gTrue kT0 kT1 kT2) noOX)))))
def treeLKs61 (a : Gw.Offer) (b : Gw.Offer) (id : Int) (body : Str) : DT V :=
  .ob ((0 ≤ ((if (70 : Int) < ((body : Str).length : Int) then 70 else ((body : Str).length : Int)) : Int) ∧ ((if (70 : Int) < ((body : Str).length : Int) then 70 else ((body : Str).length : Int)) : Int) ≤ (((body : Str).length : Nat) : Int)) ∧ (True)) (
.ob (dOff [.agg a.vs]) (
.ob (((V.beq (.agg b.vs) (.agg b.vs)) && true) = true) (
.ob (dOff [.agg b.vs]) (
.ob (dPair [.agg (fineO a).vs, .agg (fineO b).vs] ∧ pPair [.agg (fineO a).vs, .agg (fineO b).vs] 7 = pairRows (fineO a) (fineO b) 7) (
.ob (dOff [.agg a.vs]) (
.ob (dOff [.agg (fineO a).vs]) (
.ob (pMayQ [.agg (fineO a).vs] = (.bool true)) (
.ob (dAsk [.agg [.int .i64 6, .int .i64 0, .int .u32 id, .str (cut70 body)]]) (
.ob (pAskQ [.agg [.int .i64 6, .int .i64 0, .int .u32 id, .str (cut70 body)]] = (.bool false)) (
.ob (((V.beq (.agg [.int .i64 6, .int .i64 0, .int .u32 id, .str (cut70 body)]) (.agg [.int .i64 6, .int .i64 0, .int .u32 id, .str (cut70 body)])) && true) = true) (
.ob (dAsk [.agg [.int .i64 6, .int .i64 0, .int .u32 id, .str (cut70 body)]]) (
.ob (pAskQ [.agg [.int .i64 6, .int .i64 0, .int .u32 id, .str (cut70 body)]] = (.bool false)) (
.ob (binV .neq (.int .u32 id) (.int .u32 0) = some (.bool true)) (
.ob (binV .eql (.int .u32 id) (.int .u32 0) = some (.bool false)) (
.leaf (.bool true))))))))))))))))
set_option maxRecDepth 1000000 in
theorem treeLKs61_eq (a : Gw.Offer) (b : Gw.Offer) (id : Int) (body : Str) : funT (mkXT (noPX) (oxLKs61 a b id body)) (mkXP (noPX)) (mkX (noPX) (oxLKs61 a b id body)) D (fun _ => noOrc) (fun k => match k with | 3 => [19, 48, 61, 69, 86, 107, 111, 116, 121, 132, 135] | 9 => [8, 11, 15, 19, 23] | 11 => [10] | _ => []) 12 (fun k => match k with | 61 => some fun t h => (.bool true, h) | 121 => some fun t h => (.bool false, h) | _ => none) [19, 48, 61, 69, 86, 107, 111, 116, 121, 132, 135] (noLt) (dOf 3) [.agg a.vs, .agg b.vs, .bool false, .agg [.int .i64 6, .int .i64 0, .int .u32 id, .str body]] (tabH kT0 kT1 kT2 3) (fun v _ => v) = treeLKs61 a b id body := by kernel_rfl
theorem satLKs61 (a : Gw.Offer) (b : Gw.Offer) (id : Int) (body : Str) (hi : id ≠ 0) : (treeLKs61 a b id body).sat fun v => v = .bool true :=
 sat_ob ⟨by split <;> omega, trivial⟩ (
sat_ob trivial (
sat_ob (by simp only [V.beq_refl, Bool.and_true]) (
sat_ob trivial (
sat_ob ⟨⟨(mayO_fine a), (mayO_fine b)⟩, rfl⟩ (
sat_ob trivial (
sat_ob trivial (
sat_ob (may_of (mayO_fine a)) (
sat_ob trivial (
sat_ob (by show V.bool (mayAsk _) = _; simp [mayAsk, cut70_len, cut70_nil, hi]) (
sat_ob (by simp only [V.beq_refl, Bool.and_true]) (
sat_ob trivial (
sat_ob (by show V.bool (mayAsk _) = _; simp [mayAsk, cut70_len, cut70_nil, hi]) (
sat_ob (by simp [binV, binI, hi]) (
sat_ob (by simp [binV, binI, hi]) (
sat_leaf (rfl))))))))))))))))
theorem runLKs61 (a : Gw.Offer) (b : Gw.Offer) (id : Int) (body : Str) (hi : id ≠ 0) : Run Tryz.prog 3 [.agg a.vs, .agg b.vs, .bool false, .agg [.int .i64 6, .int .i64 0, .int .u32 id, .str body]] (tabH kT0 kT1 kT2 3) fun v _ => v = .bool true := run_plainU mixed (show TabX Tryz.prog noPX (oxLKs61 a b id body) from (((((TabX.nil.addO ans_begun).addT (ans_fine noV)).addT (ans_may (fun n => match n with | 17 => some (.bool true) | _ => none))).addT (ans_pair (fun n => match n with | 7 => some (pairRows (fineO a) (fineO b) 7) | _ => none))).addT (ans_ask (fun n => match n with | 26 => some (.bool false) | 28 => some (.bool false) | _ => none)))) tabD (dIs (by kernel_rfl)) (treeLKs61_eq a b id body) (satLKs61 a b id body hi)
def oxLKs62 (a : Gw.Offer) (b : Gw.Offer) (body : Str) : OTab := (consT 29 (gD dAsk pAskQ (fun n => match n with | 26 => some (.bool false) | 28 => some (.bool false) | _ => none)) (consT 7 (gNew kT0 kT1 kT2 dPair pPair prPair (fun n => match n with | 7 => some (pairRows (fineO a) (fineO b) 7) | _ => none)) (consT 28 (gD dOff pMayQ (fun n => match n with | 17 => some (.bool true) | _ => none)) (consT 8 (gD dOff pFine noV) (consO 5 (gTrue kT0 kT1 kT2) noOX)))))
def treeLKs62 (a : Gw.Offer) (b : Gw.Offer) (body : Str) : DT V :=
  .ob ((0 ≤ ((if (70 : Int) < ((body : Str).length : Int) then 70 else ((body : Str).length : Int)) : Int) ∧ ((if (70 : Int) < ((body : Str).length : Int) then 70 else ((body : Str).length : Int)) : Int) ≤ (((body : Str).length : Nat) : Int)) ∧ (True)) (
.ob (dOff [.agg a.vs]) (
.ob (((V.beq (.agg b.vs) (.agg b.vs)) && true) = true) (
.ob (dOff [.agg b.vs]) (
.ob (dPair [.agg (fineO a).vs, .agg (fineO b).vs] ∧ pPair [.agg (fineO a).vs, .agg (fineO b).vs] 7 = pairRows (fineO a) (fineO b) 7) (
.ob (dOff [.agg a.vs]) (
.ob (dOff [.agg (fineO a).vs]) (
.ob (pMayQ [.agg (fineO a).vs] = (.bool true)) (
.ob (dAsk [.agg [.int .i64 6, .int .i64 0, .int .u32 0, .str (cut70 body)]]) (
.ob (pAskQ [.agg [.int .i64 6, .int .i64 0, .int .u32 0, .str (cut70 body)]] = (.bool false)) (
.ob (((V.beq (.agg [.int .i64 6, .int .i64 0, .int .u32 0, .str (cut70 body)]) (.agg [.int .i64 6, .int .i64 0, .int .u32 0, .str (cut70 body)])) && true) = true) (
.ob (dAsk [.agg [.int .i64 6, .int .i64 0, .int .u32 0, .str (cut70 body)]]) (
.ob (pAskQ [.agg [.int .i64 6, .int .i64 0, .int .u32 0, .str (cut70 body)]] = (.bool false)) (
.ob (binV .eql (.str (cut70 body)) (.str []) = some (.bool false)) (
.leaf (.bool true)))))))))))))))
set_option maxRecDepth 1000000 in
theorem treeLKs62_eq (a : Gw.Offer) (b : Gw.Offer) (body : Str) : funT (mkXT (noPX) (oxLKs62 a b body)) (mkXP (noPX)) (mkX (noPX) (oxLKs62 a b body)) D (fun _ => noOrc) (fun k => match k with | 3 => [19, 48, 61, 69, 86, 107, 111, 116, 121, 126, 132, 135] | 9 => [8, 11, 15, 19, 23] | 11 => [10] | _ => []) 12 (fun k => match k with | 126 => some fun t h => (.bool false, h) | _ => none) [19, 48, 61, 69, 86, 107, 111, 116, 121, 126, 132, 135] (noLt) (dOf 3) [.agg a.vs, .agg b.vs, .bool false, .agg [.int .i64 6, .int .i64 0, .int .u32 0, .str body]] (tabH kT0 kT1 kT2 3) (fun v _ => v) = treeLKs62 a b body := by kernel_rfl
theorem satLKs62 (a : Gw.Offer) (b : Gw.Offer) (body : Str) (hb : body ≠ []) : (treeLKs62 a b body).sat fun v => v = .bool true :=
 sat_ob ⟨by split <;> omega, trivial⟩ (
sat_ob trivial (
sat_ob (by simp only [V.beq_refl, Bool.and_true]) (
sat_ob trivial (
sat_ob ⟨⟨(mayO_fine a), (mayO_fine b)⟩, rfl⟩ (
sat_ob trivial (
sat_ob trivial (
sat_ob (may_of (mayO_fine a)) (
sat_ob trivial (
sat_ob (by show V.bool (mayAsk _) = _; simp [mayAsk, cut70_len, cut70_nil, hb]) (
sat_ob (by simp only [V.beq_refl, Bool.and_true]) (
sat_ob trivial (
sat_ob (by show V.bool (mayAsk _) = _; simp [mayAsk, cut70_len, cut70_nil, hb]) (
sat_ob (by simp [binV, cut70_nil, hb]) (
sat_leaf (rfl)))))))))))))))
theorem runLKs62 (a : Gw.Offer) (b : Gw.Offer) (body : Str) (hb : body ≠ []) : Run Tryz.prog 3 [.agg a.vs, .agg b.vs, .bool false, .agg [.int .i64 6, .int .i64 0, .int .u32 0, .str body]] (tabH kT0 kT1 kT2 3) fun v _ => v = .bool true := run_plainU mixed (show TabX Tryz.prog noPX (oxLKs62 a b body) from (((((TabX.nil.addO ans_begun).addT (ans_fine noV)).addT (ans_may (fun n => match n with | 17 => some (.bool true) | _ => none))).addT (ans_pair (fun n => match n with | 7 => some (pairRows (fineO a) (fineO b) 7) | _ => none))).addT (ans_ask (fun n => match n with | 26 => some (.bool false) | 28 => some (.bool false) | _ => none)))) tabD (dIs (by kernel_rfl)) (treeLKs62_eq a b body) (satLKs62 a b body hb)
def oxLKs63 (a : Gw.Offer) (b : Gw.Offer) : OTab := (consT 29 (gD dAsk pAskQ (fun n => match n with | 26 => some (.bool true) | 28 => some (.bool true) | _ => none)) (consT 7 (gNew kT0 kT1 kT2 dPair pPair prPair (fun n => match n with | 7 => some (pairRows (fineO a) (fineO b) 7) | _ => none)) (consT 28 (gD dOff pMayQ (fun n => match n with | 17 => some (.bool true) | _ => none)) (consT 8 (gD dOff pFine noV) (consO 5 (gTrue kT0 kT1 kT2) noOX)))))
def treeLKs63 (a : Gw.Offer) (b : Gw.Offer) : DT V :=
  .ob ((0 ≤ (0 : Int) ∧ (0 : Int) ≤ ((0 : Nat) : Int)) ∧ (True)) (
.ob (dOff [.agg a.vs]) (
.ob (((V.beq (.agg b.vs) (.agg b.vs)) && true) = true) (
.ob (dOff [.agg b.vs]) (
.ob (dPair [.agg (fineO a).vs, .agg (fineO b).vs] ∧ pPair [.agg (fineO a).vs, .agg (fineO b).vs] 7 = pairRows (fineO a) (fineO b) 7) (
.ob (dOff [.agg a.vs]) (
.ob (dOff [.agg (fineO a).vs]) (
.ob (pMayQ [.agg (fineO a).vs] = (.bool true)) (
.ob (dAsk [.agg [.int .i64 6, .int .i64 0, .int .u32 0, .str []]]) (
.ob (pAskQ [.agg [.int .i64 6, .int .i64 0, .int .u32 0, .str []]] = (.bool true)) (
.ob (((V.beq (.agg [.int .i64 6, .int .i64 0, .int .u32 0, .str []]) (.agg [.int .i64 6, .int .i64 0, .int .u32 0, .str []])) && true) = true) (
.ob (dAsk [.agg [.int .i64 6, .int .i64 0, .int .u32 0, .str []]]) (
.ob (pAskQ [.agg [.int .i64 6, .int .i64 0, .int .u32 0, .str []]] = (.bool true)) (
.leaf (.bool true))))))))))))))
set_option maxRecDepth 1000000 in
theorem treeLKs63_eq (a : Gw.Offer) (b : Gw.Offer) : funT (mkXT (noPX) (oxLKs63 a b)) (mkXP (noPX)) (mkX (noPX) (oxLKs63 a b)) D (fun _ => noOrc) (fun k => match k with | 3 => [19, 48, 61, 69, 86, 107, 111, 116, 121, 126, 140, 152, 166, 168, 169, 170, 173] | 9 => [8, 11, 15, 19, 23] | 11 => [10, 15, 20, 25, 30, 31, 37, 41, 45] | _ => []) 12 noOrc [19, 48, 61, 69, 86, 107, 111, 116, 121, 126, 140, 152, 166, 168, 169, 170, 173] (noLt) (dOf 3) [.agg a.vs, .agg b.vs, .bool false, .agg [.int .i64 6, .int .i64 0, .int .u32 0, .str []]] (tabH kT0 kT1 kT2 3) (fun v _ => v) = treeLKs63 a b := by kernel_rfl
theorem satLKs63 (a : Gw.Offer) (b : Gw.Offer)  : (treeLKs63 a b).sat fun v => v = .bool true :=
 sat_ob (by decide) (
sat_ob trivial (
sat_ob (by simp only [V.beq_refl, Bool.and_true]) (
sat_ob trivial (
sat_ob ⟨⟨(mayO_fine a), (mayO_fine b)⟩, rfl⟩ (
sat_ob trivial (
sat_ob trivial (
sat_ob (may_of (mayO_fine a)) (
sat_ob trivial (
sat_ob (by show V.bool (mayAsk _) = _; simp [mayAsk, cut70_len, cut70_nil]) (
sat_ob (by simp only [V.beq_refl, Bool.and_true]) (
sat_ob trivial (
sat_ob (by show V.bool (mayAsk _) = _; simp [mayAsk, cut70_len, cut70_nil]) (
sat_leaf (rfl))))))))))))))
theorem runLKs63 (a : Gw.Offer) (b : Gw.Offer)  : Run Tryz.prog 3 [.agg a.vs, .agg b.vs, .bool false, .agg [.int .i64 6, .int .i64 0, .int .u32 0, .str []]] (tabH kT0 kT1 kT2 3) fun v _ => v = .bool true := run_plainU mixed (show TabX Tryz.prog noPX (oxLKs63 a b) from (((((TabX.nil.addO ans_begun).addT (ans_fine noV)).addT (ans_may (fun n => match n with | 17 => some (.bool true) | _ => none))).addT (ans_pair (fun n => match n with | 7 => some (pairRows (fineO a) (fineO b) 7) | _ => none))).addT (ans_ask (fun n => match n with | 26 => some (.bool true) | 28 => some (.bool true) | _ => none)))) tabD (dIs (by kernel_rfl)) (treeLKs63_eq a b) (satLKs63 a b )
def oxLKs1f (a : Gw.Offer) (b : Gw.Offer) (n : Int) (id : Int) (body : Str) : OTab := (consT 29 (gD dAsk pAskQ (fun n => match n with | 26 => some (.bool false) | 28 => some (.bool false) | _ => none)) (consT 7 (gNew kT0 kT1 kT2 dPair pPair prPair (fun n => match n with | 7 => some (pairRows (fineO a) (fineO b) 7) | _ => none)) (consT 28 (gD dOff pMayQ (fun n => match n with | 17 => some (.bool true) | _ => none)) (consT 8 (gD dOff pFine noV) (consO 5 (gTrue kT0 kT1 kT2) noOX)))))
def treeLKs1f (a : Gw.Offer) (b : Gw.Offer) (n : Int) (id : Int) (body : Str) : DT V :=
  .ob ((0 ≤ ((if (70 : Int) < ((body : Str).length : Int) then 70 else ((body : Str).length : Int)) : Int) ∧ ((if (70 : Int) < ((body : Str).length : Int) then 70 else ((body : Str).length : Int)) : Int) ≤ (((body : Str).length : Nat) : Int)) ∧ (True)) (
.ob (dOff [.agg a.vs]) (
.ob (((V.beq (.agg b.vs) (.agg b.vs)) && true) = true) (
.ob (dOff [.agg b.vs]) (
.ob (dPair [.agg (fineO a).vs, .agg (fineO b).vs] ∧ pPair [.agg (fineO a).vs, .agg (fineO b).vs] 7 = pairRows (fineO a) (fineO b) 7) (
.ob (dOff [.agg a.vs]) (
.ob (dOff [.agg (fineO a).vs]) (
.ob (pMayQ [.agg (fineO a).vs] = (.bool true)) (
.ob (dAsk [.agg [.int .i64 1, .int .i64 n, .int .u32 id, .str (cut70 body)]]) (
.ob (pAskQ [.agg [.int .i64 1, .int .i64 n, .int .u32 id, .str (cut70 body)]] = (.bool false)) (
.ob (((V.beq (.agg [.int .i64 1, .int .i64 n, .int .u32 id, .str (cut70 body)]) (.agg [.int .i64 1, .int .i64 n, .int .u32 id, .str (cut70 body)])) && true) = true) (
.ob (dAsk [.agg [.int .i64 1, .int .i64 n, .int .u32 id, .str (cut70 body)]]) (
.ob (pAskQ [.agg [.int .i64 1, .int .i64 n, .int .u32 id, .str (cut70 body)]] = (.bool false)) (
.ob ((((id : Int) != 0) == true) = true → ((True) ∧ ((True) ∧ ((True) ∧ (True))))) (
.leaf (.bool true)))))))))))))))
set_option maxRecDepth 1000000 in
theorem treeLKs1f_eq (a : Gw.Offer) (b : Gw.Offer) (n : Int) (id : Int) (body : Str) : funT (mkXT (noPX) (oxLKs1f a b n id body)) (mkXP (noPX)) (mkX (noPX) (oxLKs1f a b n id body)) D (fun _ => noOrc) (fun k => match k with | 3 => [19, 48, 69, 86, 107, 132, 135] | 9 => [8, 11, 15, 19, 23] | 11 => [10] | _ => []) 12 noOrc [19, 48, 69, 86, 107, 132, 135] (noLt) (dOf 3) [.agg a.vs, .agg b.vs, .bool false, .agg [.int .i64 1, .int .i64 n, .int .u32 id, .str body]] (tabH kT0 kT1 kT2 3) (fun v _ => v) = treeLKs1f a b n id body := by kernel_rfl
theorem satLKs1f (a : Gw.Offer) (b : Gw.Offer) (n : Int) (id : Int) (body : Str) (hm : mayAsk ⟨1, n, id, cut70 body⟩ = false) : (treeLKs1f a b n id body).sat fun v => v = .bool true :=
 sat_ob ⟨by split <;> omega, trivial⟩ (
sat_ob trivial (
sat_ob (by simp only [V.beq_refl, Bool.and_true]) (
sat_ob trivial (
sat_ob ⟨⟨(mayO_fine a), (mayO_fine b)⟩, rfl⟩ (
sat_ob trivial (
sat_ob trivial (
sat_ob (may_of (mayO_fine a)) (
sat_ob trivial (
sat_ob (by show V.bool _ = _; rw [hm]) (
sat_ob (by simp only [V.beq_refl, Bool.and_true]) (
sat_ob trivial (
sat_ob (by show V.bool _ = _; rw [hm]) (
sat_ob (by first | rfl | simp [V.beq, V.beqs, allOne, V.one, byteVs, binV, binI, eqV, eqCells]) (
sat_leaf (rfl)))))))))))))))
theorem runLKs1f (a : Gw.Offer) (b : Gw.Offer) (n : Int) (id : Int) (body : Str) (hm : mayAsk ⟨1, n, id, cut70 body⟩ = false) : Run Tryz.prog 3 [.agg a.vs, .agg b.vs, .bool false, .agg [.int .i64 1, .int .i64 n, .int .u32 id, .str body]] (tabH kT0 kT1 kT2 3) fun v _ => v = .bool true := run_plainU mixed (show TabX Tryz.prog noPX (oxLKs1f a b n id body) from (((((TabX.nil.addO ans_begun).addT (ans_fine noV)).addT (ans_may (fun n => match n with | 17 => some (.bool true) | _ => none))).addT (ans_pair (fun n => match n with | 7 => some (pairRows (fineO a) (fineO b) 7) | _ => none))).addT (ans_ask (fun n => match n with | 26 => some (.bool false) | 28 => some (.bool false) | _ => none)))) tabD (dIs (by kernel_rfl)) (treeLKs1f_eq a b n id body) (satLKs1f a b n id body hm)
def oxLKs7f (a : Gw.Offer) (b : Gw.Offer) (n : Int) (id : Int) (body : Str) : OTab := (consT 29 (gD dAsk pAskQ (fun n => match n with | 26 => some (.bool false) | 28 => some (.bool false) | _ => none)) (consT 7 (gNew kT0 kT1 kT2 dPair pPair prPair (fun n => match n with | 7 => some (pairRows (fineO a) (fineO b) 7) | _ => none)) (consT 28 (gD dOff pMayQ (fun n => match n with | 17 => some (.bool true) | _ => none)) (consT 8 (gD dOff pFine noV) (consO 5 (gTrue kT0 kT1 kT2) noOX)))))
def treeLKs7f (a : Gw.Offer) (b : Gw.Offer) (n : Int) (id : Int) (body : Str) : DT V :=
  .ob ((0 ≤ ((if (70 : Int) < ((body : Str).length : Int) then 70 else ((body : Str).length : Int)) : Int) ∧ ((if (70 : Int) < ((body : Str).length : Int) then 70 else ((body : Str).length : Int)) : Int) ≤ (((body : Str).length : Nat) : Int)) ∧ (True)) (
.ob (dOff [.agg a.vs]) (
.ob (((V.beq (.agg b.vs) (.agg b.vs)) && true) = true) (
.ob (dOff [.agg b.vs]) (
.ob (dPair [.agg (fineO a).vs, .agg (fineO b).vs] ∧ pPair [.agg (fineO a).vs, .agg (fineO b).vs] 7 = pairRows (fineO a) (fineO b) 7) (
.ob (dOff [.agg a.vs]) (
.ob (dOff [.agg (fineO a).vs]) (
.ob (pMayQ [.agg (fineO a).vs] = (.bool true)) (
.ob (dAsk [.agg [.int .i64 7, .int .i64 n, .int .u32 id, .str (cut70 body)]]) (
.ob (pAskQ [.agg [.int .i64 7, .int .i64 n, .int .u32 id, .str (cut70 body)]] = (.bool false)) (
.ob (((V.beq (.agg [.int .i64 7, .int .i64 n, .int .u32 id, .str (cut70 body)]) (.agg [.int .i64 7, .int .i64 n, .int .u32 id, .str (cut70 body)])) && true) = true) (
.ob (dAsk [.agg [.int .i64 7, .int .i64 n, .int .u32 id, .str (cut70 body)]]) (
.ob (pAskQ [.agg [.int .i64 7, .int .i64 n, .int .u32 id, .str (cut70 body)]] = (.bool false)) (
.ob ((((id : Int) != 0) == true) = true → ((True) ∧ ((True) ∧ ((True) ∧ (True))))) (
.leaf (.bool true)))))))))))))))
set_option maxRecDepth 1000000 in
theorem treeLKs7f_eq (a : Gw.Offer) (b : Gw.Offer) (n : Int) (id : Int) (body : Str) : funT (mkXT (noPX) (oxLKs7f a b n id body)) (mkXP (noPX)) (mkX (noPX) (oxLKs7f a b n id body)) D (fun _ => noOrc) (fun k => match k with | 3 => [19, 48, 69, 86, 107, 111, 132, 135] | 9 => [8, 11, 15, 19, 23] | 11 => [10] | _ => []) 12 noOrc [19, 48, 69, 86, 107, 111, 132, 135] (noLt) (dOf 3) [.agg a.vs, .agg b.vs, .bool false, .agg [.int .i64 7, .int .i64 n, .int .u32 id, .str body]] (tabH kT0 kT1 kT2 3) (fun v _ => v) = treeLKs7f a b n id body := by kernel_rfl
theorem satLKs7f (a : Gw.Offer) (b : Gw.Offer) (n : Int) (id : Int) (body : Str) (hm : mayAsk ⟨7, n, id, cut70 body⟩ = false) : (treeLKs7f a b n id body).sat fun v => v = .bool true :=
 sat_ob ⟨by split <;> omega, trivial⟩ (
sat_ob trivial (
sat_ob (by simp only [V.beq_refl, Bool.and_true]) (
sat_ob trivial (
sat_ob ⟨⟨(mayO_fine a), (mayO_fine b)⟩, rfl⟩ (
sat_ob trivial (
sat_ob trivial (
sat_ob (may_of (mayO_fine a)) (
sat_ob trivial (
sat_ob (by show V.bool _ = _; rw [hm]) (
sat_ob (by simp only [V.beq_refl, Bool.and_true]) (
sat_ob trivial (
sat_ob (by show V.bool _ = _; rw [hm]) (
sat_ob (by first | rfl | simp [V.beq, V.beqs, allOne, V.one, byteVs, binV, binI, eqV, eqCells]) (
sat_leaf (rfl)))))))))))))))
theorem runLKs7f (a : Gw.Offer) (b : Gw.Offer) (n : Int) (id : Int) (body : Str) (hm : mayAsk ⟨7, n, id, cut70 body⟩ = false) : Run Tryz.prog 3 [.agg a.vs, .agg b.vs, .bool false, .agg [.int .i64 7, .int .i64 n, .int .u32 id, .str body]] (tabH kT0 kT1 kT2 3) fun v _ => v = .bool true := run_plainU mixed (show TabX Tryz.prog noPX (oxLKs7f a b n id body) from (((((TabX.nil.addO ans_begun).addT (ans_fine noV)).addT (ans_may (fun n => match n with | 17 => some (.bool true) | _ => none))).addT (ans_pair (fun n => match n with | 7 => some (pairRows (fineO a) (fineO b) 7) | _ => none))).addT (ans_ask (fun n => match n with | 26 => some (.bool false) | 28 => some (.bool false) | _ => none)))) tabD (dIs (by kernel_rfl)) (treeLKs7f_eq a b n id body) (satLKs7f a b n id body hm)
def oxLKs1t (a : Gw.Offer) (b : Gw.Offer) (n : Int) : OTab := (consT 29 (gD dAsk pAskQ (fun n => match n with | 26 => some (.bool true) | 28 => some (.bool true) | _ => none)) (consT 7 (gNew kT0 kT1 kT2 dPair pPair prPair (fun n => match n with | 7 => some (pairRows (fineO a) (fineO b) 7) | _ => none)) (consT 28 (gD dOff pMayQ (fun n => match n with | 17 => some (.bool true) | _ => none)) (consT 8 (gD dOff pFine noV) (consO 5 (gTrue kT0 kT1 kT2) noOX)))))
def treeLKs1t (a : Gw.Offer) (b : Gw.Offer) (n : Int) : DT V :=
  .ob ((0 ≤ (0 : Int) ∧ (0 : Int) ≤ ((0 : Nat) : Int)) ∧ (True)) (
.ob (dOff [.agg a.vs]) (
.ob (((V.beq (.agg b.vs) (.agg b.vs)) && true) = true) (
.ob (dOff [.agg b.vs]) (
.ob (dPair [.agg (fineO a).vs, .agg (fineO b).vs] ∧ pPair [.agg (fineO a).vs, .agg (fineO b).vs] 7 = pairRows (fineO a) (fineO b) 7) (
.ob (dOff [.agg a.vs]) (
.ob (dOff [.agg (fineO a).vs]) (
.ob (pMayQ [.agg (fineO a).vs] = (.bool true)) (
.ob (dAsk [.agg [.int .i64 1, .int .i64 n, .int .u32 0, .str []]]) (
.ob (pAskQ [.agg [.int .i64 1, .int .i64 n, .int .u32 0, .str []]] = (.bool true)) (
.ob (((V.beq (.agg [.int .i64 1, .int .i64 n, .int .u32 0, .str []]) (.agg [.int .i64 1, .int .i64 n, .int .u32 0, .str []])) && true) = true) (
.ob (dAsk [.agg [.int .i64 1, .int .i64 n, .int .u32 0, .str []]]) (
.ob (pAskQ [.agg [.int .i64 1, .int .i64 n, .int .u32 0, .str []]] = (.bool true)) (
.leaf (.bool true))))))))))))))
set_option maxRecDepth 1000000 in
theorem treeLKs1t_eq (a : Gw.Offer) (b : Gw.Offer) (n : Int) : funT (mkXT (noPX) (oxLKs1t a b n)) (mkXP (noPX)) (mkX (noPX) (oxLKs1t a b n)) D (fun _ => noOrc) (fun k => match k with | 3 => [19, 48, 61, 69, 86, 107, 132, 135] | 9 => [8, 11, 15, 19, 23] | 11 => [10, 15] | _ => []) 12 noOrc [19, 48, 61, 69, 86, 107, 132, 135] (noLt) (dOf 3) [.agg a.vs, .agg b.vs, .bool false, .agg [.int .i64 1, .int .i64 n, .int .u32 0, .str []]] (tabH kT0 kT1 kT2 3) (fun v _ => v) = treeLKs1t a b n := by kernel_rfl
theorem satLKs1t (a : Gw.Offer) (b : Gw.Offer) (n : Int) (hn : n = 1 ∨ n = 6 ∨ n = 8) : (treeLKs1t a b n).sat fun v => v = .bool true :=
 sat_ob (by decide) (
sat_ob trivial (
sat_ob (by simp only [V.beq_refl, Bool.and_true]) (
sat_ob trivial (
sat_ob ⟨⟨(mayO_fine a), (mayO_fine b)⟩, rfl⟩ (
sat_ob trivial (
sat_ob trivial (
sat_ob (may_of (mayO_fine a)) (
sat_ob trivial (
sat_ob (by rcases hn with rfl | rfl | rfl <;> rfl) (
sat_ob (by simp only [V.beq_refl, Bool.and_true]) (
sat_ob trivial (
sat_ob (by rcases hn with rfl | rfl | rfl <;> rfl) (
sat_leaf (rfl))))))))))))))
theorem runLKs1t (a : Gw.Offer) (b : Gw.Offer) (n : Int) (hn : n = 1 ∨ n = 6 ∨ n = 8) : Run Tryz.prog 3 [.agg a.vs, .agg b.vs, .bool false, .agg [.int .i64 1, .int .i64 n, .int .u32 0, .str []]] (tabH kT0 kT1 kT2 3) fun v _ => v = .bool true := run_plainU mixed (show TabX Tryz.prog noPX (oxLKs1t a b n) from (((((TabX.nil.addO ans_begun).addT (ans_fine noV)).addT (ans_may (fun n => match n with | 17 => some (.bool true) | _ => none))).addT (ans_pair (fun n => match n with | 7 => some (pairRows (fineO a) (fineO b) 7) | _ => none))).addT (ans_ask (fun n => match n with | 26 => some (.bool true) | 28 => some (.bool true) | _ => none)))) tabD (dIs (by kernel_rfl)) (treeLKs1t_eq a b n) (satLKs1t a b n hn)
def oxLKs7t (a : Gw.Offer) (b : Gw.Offer) (id : Int) : OTab := (consT 29 (gD dAsk pAskQ (fun n => match n with | 26 => some (.bool true) | 28 => some (.bool true) | _ => none)) (consT 7 (gNew kT0 kT1 kT2 dPair pPair prPair (fun n => match n with | 7 => some (pairRows (fineO a) (fineO b) 7) | _ => none)) (consT 28 (gD dOff pMayQ (fun n => match n with | 17 => some (.bool true) | _ => none)) (consT 8 (gD dOff pFine noV) (consO 5 (gTrue kT0 kT1 kT2) noOX)))))
def treeLKs7t (a : Gw.Offer) (b : Gw.Offer) (id : Int) : DT V :=
  .ob ((0 ≤ (0 : Int) ∧ (0 : Int) ≤ ((0 : Nat) : Int)) ∧ (True)) (
.ob (dOff [.agg a.vs]) (
.ob (((V.beq (.agg b.vs) (.agg b.vs)) && true) = true) (
.ob (dOff [.agg b.vs]) (
.ob (dPair [.agg (fineO a).vs, .agg (fineO b).vs] ∧ pPair [.agg (fineO a).vs, .agg (fineO b).vs] 7 = pairRows (fineO a) (fineO b) 7) (
.ob (dOff [.agg a.vs]) (
.ob (dOff [.agg (fineO a).vs]) (
.ob (pMayQ [.agg (fineO a).vs] = (.bool true)) (
.ob (dAsk [.agg [.int .i64 7, .int .i64 0, .int .u32 id, .str []]]) (
.ob (pAskQ [.agg [.int .i64 7, .int .i64 0, .int .u32 id, .str []]] = (.bool true)) (
.ob (((V.beq (.agg [.int .i64 7, .int .i64 0, .int .u32 id, .str []]) (.agg [.int .i64 7, .int .i64 0, .int .u32 id, .str []])) && true) = true) (
.ob (dAsk [.agg [.int .i64 7, .int .i64 0, .int .u32 id, .str []]]) (
.ob (pAskQ [.agg [.int .i64 7, .int .i64 0, .int .u32 id, .str []]] = (.bool true)) (
.ob (binV .neq (.int .u32 id) (.int .u32 0) = some (.bool true)) (
.ob (binV .neq (.int .u32 id) (.int .u32 4294967295) = some (.bool true)) (
.leaf (.bool true))))))))))))))))
set_option maxRecDepth 1000000 in
theorem treeLKs7t_eq (a : Gw.Offer) (b : Gw.Offer) (id : Int) : funT (mkXT (noPX) (oxLKs7t a b id)) (mkXP (noPX)) (mkX (noPX) (oxLKs7t a b id)) D (fun _ => noOrc) (fun k => match k with | 3 => [19, 48, 61, 65, 69, 86, 107, 111, 132, 135] | 9 => [8, 11, 15, 19, 23] | 11 => [10, 15, 20] | _ => []) 12 (fun k => match k with | 61 => some fun t h => (.bool true, h) | 65 => some fun t h => (.bool true, h) | _ => none) [19, 48, 61, 65, 69, 86, 107, 111, 132, 135] (noLt) (dOf 3) [.agg a.vs, .agg b.vs, .bool false, .agg [.int .i64 7, .int .i64 0, .int .u32 id, .str []]] (tabH kT0 kT1 kT2 3) (fun v _ => v) = treeLKs7t a b id := by kernel_rfl
theorem satLKs7t (a : Gw.Offer) (b : Gw.Offer) (id : Int) (hi0 : id ≠ 0) (hi1 : id ≠ 4294967295) : (treeLKs7t a b id).sat fun v => v = .bool true :=
 sat_ob (by decide) (
sat_ob trivial (
sat_ob (by simp only [V.beq_refl, Bool.and_true]) (
sat_ob trivial (
sat_ob ⟨⟨(mayO_fine a), (mayO_fine b)⟩, rfl⟩ (
sat_ob trivial (
sat_ob trivial (
sat_ob (may_of (mayO_fine a)) (
sat_ob trivial (
sat_ob (by show V.bool (mayAsk _) = _; simp [mayAsk, cut70_len, cut70_nil, hi0, hi1]) (
sat_ob (by simp only [V.beq_refl, Bool.and_true]) (
sat_ob trivial (
sat_ob (by show V.bool (mayAsk _) = _; simp [mayAsk, cut70_len, cut70_nil, hi0, hi1]) (
sat_ob (by simp [binV, binI, hi0, hi1]) (
sat_ob (by simp [binV, binI, hi0, hi1]) (
sat_leaf (rfl))))))))))))))))
theorem runLKs7t (a : Gw.Offer) (b : Gw.Offer) (id : Int) (hi0 : id ≠ 0) (hi1 : id ≠ 4294967295) : Run Tryz.prog 3 [.agg a.vs, .agg b.vs, .bool false, .agg [.int .i64 7, .int .i64 0, .int .u32 id, .str []]] (tabH kT0 kT1 kT2 3) fun v _ => v = .bool true := run_plainU mixed (show TabX Tryz.prog noPX (oxLKs7t a b id) from (((((TabX.nil.addO ans_begun).addT (ans_fine noV)).addT (ans_may (fun n => match n with | 17 => some (.bool true) | _ => none))).addT (ans_pair (fun n => match n with | 7 => some (pairRows (fineO a) (fineO b) 7) | _ => none))).addT (ans_ask (fun n => match n with | 26 => some (.bool true) | 28 => some (.bool true) | _ => none)))) tabD (dIs (by kernel_rfl)) (treeLKs7t_eq a b id) (satLKs7t a b id hi0 hi1)
def oxLKsx0 (a : Gw.Offer) (b : Gw.Offer) (kind : Int) (n : Int) (id : Int) (body : Str) : OTab := (consT 29 (gD dAsk pAskQ (fun n => match n with | 26 => some (.bool false) | 28 => some (.bool false) | _ => none)) (consT 7 (gNew kT0 kT1 kT2 dPair pPair prPair (fun n => match n with | 7 => some (pairRows (fineO a) (fineO b) 7) | _ => none)) (consT 28 (gD dOff pMayQ (fun n => match n with | 17 => some (.bool true) | _ => none)) (consT 8 (gD dOff pFine noV) (consO 5 (gTrue kT0 kT1 kT2) noOX)))))
def treeLKsx0 (a : Gw.Offer) (b : Gw.Offer) (kind : Int) (n : Int) (id : Int) (body : Str) : DT V :=
  .ob ((0 ≤ ((if (70 : Int) < ((body : Str).length : Int) then 70 else ((body : Str).length : Int)) : Int) ∧ ((if (70 : Int) < ((body : Str).length : Int) then 70 else ((body : Str).length : Int)) : Int) ≤ (((body : Str).length : Nat) : Int)) ∧ (True)) (
.ob (dOff [.agg a.vs]) (
.ob (((V.beq (.agg b.vs) (.agg b.vs)) && true) = true) (
.ob (dOff [.agg b.vs]) (
.ob (dPair [.agg (fineO a).vs, .agg (fineO b).vs] ∧ pPair [.agg (fineO a).vs, .agg (fineO b).vs] 7 = pairRows (fineO a) (fineO b) 7) (
.ob (dOff [.agg a.vs]) (
.ob (dOff [.agg (fineO a).vs]) (
.ob (pMayQ [.agg (fineO a).vs] = (.bool true)) (
.ob (dAsk [.agg [.int .i64 kind, .int .i64 n, .int .u32 id, .str (cut70 body)]]) (
.ob (pAskQ [.agg [.int .i64 kind, .int .i64 n, .int .u32 id, .str (cut70 body)]] = (.bool false)) (
.ob (((V.beq (.agg [.int .i64 kind, .int .i64 n, .int .u32 id, .str (cut70 body)]) (.agg [.int .i64 kind, .int .i64 n, .int .u32 id, .str (cut70 body)])) && true) = true) (
.ob (dAsk [.agg [.int .i64 kind, .int .i64 n, .int .u32 id, .str (cut70 body)]]) (
.ob (pAskQ [.agg [.int .i64 kind, .int .i64 n, .int .u32 id, .str (cut70 body)]] = (.bool false)) (
.ob ((((id : Int) != 0) == true) = true → ((True) ∧ ((True) ∧ ((True) ∧ (True))))) (
.ob (binV .eql (.int .i64 kind) (.int .i64 2) = some (.bool false)) (
.ob (binV .eql (.int .i64 kind) (.int .i64 3) = some (.bool false)) (
.ob (binV .geq (.int .i64 kind) (.int .i64 4) = some (.bool false)) (
.leaf (.bool true))))))))))))))))))
set_option maxRecDepth 1000000 in
theorem treeLKsx0_eq (a : Gw.Offer) (b : Gw.Offer) (kind : Int) (n : Int) (id : Int) (body : Str) : funT (mkXT (noPX) (oxLKsx0 a b kind n id body)) (mkXP (noPX)) (mkX (noPX) (oxLKsx0 a b kind n id body)) D (fun _ => noOrc) (fun k => match k with | 3 => [19, 48, 69, 86, 107, 132, 135] | 9 => [8, 11, 15, 19, 23] | 11 => [10] | _ => []) 12 (fun k => match k with | 69 => some fun t h => (.bool false, h) | 86 => some fun t h => (.bool false, h) | 107 => some fun t h => (.bool false, h) | _ => none) [19, 48, 69, 86, 107, 132, 135] (noLt) (dOf 3) [.agg a.vs, .agg b.vs, .bool false, .agg [.int .i64 kind, .int .i64 n, .int .u32 id, .str body]] (tabH kT0 kT1 kT2 3) (fun v _ => v) = treeLKsx0 a b kind n id body := by kernel_rfl
theorem satLKsx0 (a : Gw.Offer) (b : Gw.Offer) (kind : Int) (n : Int) (id : Int) (body : Str) (hk : kind < 1) : (treeLKsx0 a b kind n id body).sat fun v => v = .bool true :=
 sat_ob ⟨by split <;> omega, trivial⟩ (
sat_ob trivial (
sat_ob (by simp only [V.beq_refl, Bool.and_true]) (
sat_ob trivial (
sat_ob ⟨⟨(mayO_fine a), (mayO_fine b)⟩, rfl⟩ (
sat_ob trivial (
sat_ob trivial (
sat_ob (may_of (mayO_fine a)) (
sat_ob trivial (
sat_ob (by show V.bool (mayAsk _) = _; simp [mayAsk, cut70_len, cut70_nil, show ¬ kind = 1 by omega, show ¬ kind = 2 by omega, show ¬ kind = 3 by omega, show ¬ kind = 4 by omega, show ¬ kind = 5 by omega, show ¬ kind = 6 by omega, show ¬ kind = 7 by omega]) (
sat_ob (by simp only [V.beq_refl, Bool.and_true]) (
sat_ob trivial (
sat_ob (by show V.bool (mayAsk _) = _; simp [mayAsk, cut70_len, cut70_nil, show ¬ kind = 1 by omega, show ¬ kind = 2 by omega, show ¬ kind = 3 by omega, show ¬ kind = 4 by omega, show ¬ kind = 5 by omega, show ¬ kind = 6 by omega, show ¬ kind = 7 by omega]) (
sat_ob (by first | rfl | simp [V.beq, V.beqs, allOne, V.one, byteVs, binV, binI, eqV, eqCells]) (
sat_ob (by simp [binV, binI]; omega) (
sat_ob (by simp [binV, binI]; omega) (
sat_ob (by simp [binV, binI]; omega) (
sat_leaf (rfl))))))))))))))))))
theorem runLKsx0 (a : Gw.Offer) (b : Gw.Offer) (kind : Int) (n : Int) (id : Int) (body : Str) (hk : kind < 1) : Run Tryz.prog 3 [.agg a.vs, .agg b.vs, .bool false, .agg [.int .i64 kind, .int .i64 n, .int .u32 id, .str body]] (tabH kT0 kT1 kT2 3) fun v _ => v = .bool true := run_plainU mixed (show TabX Tryz.prog noPX (oxLKsx0 a b kind n id body) from (((((TabX.nil.addO ans_begun).addT (ans_fine noV)).addT (ans_may (fun n => match n with | 17 => some (.bool true) | _ => none))).addT (ans_pair (fun n => match n with | 7 => some (pairRows (fineO a) (fineO b) 7) | _ => none))).addT (ans_ask (fun n => match n with | 26 => some (.bool false) | 28 => some (.bool false) | _ => none)))) tabD (dIs (by kernel_rfl)) (treeLKsx0_eq a b kind n id body) (satLKsx0 a b kind n id body hk)
def oxLKsx8 (a : Gw.Offer) (b : Gw.Offer) (kind : Int) (n : Int) (id : Int) (body : Str) : OTab := (consT 29 (gD dAsk pAskQ (fun n => match n with | 26 => some (.bool false) | 28 => some (.bool false) | _ => none)) (consT 7 (gNew kT0 kT1 kT2 dPair pPair prPair (fun n => match n with | 7 => some (pairRows (fineO a) (fineO b) 7) | _ => none)) (consT 28 (gD dOff pMayQ (fun n => match n with | 17 => some (.bool true) | _ => none)) (consT 8 (gD dOff pFine noV) (consO 5 (gTrue kT0 kT1 kT2) noOX)))))
def treeLKsx8 (a : Gw.Offer) (b : Gw.Offer) (kind : Int) (n : Int) (id : Int) (body : Str) : DT V :=
  .ob ((0 ≤ ((if (70 : Int) < ((body : Str).length : Int) then 70 else ((body : Str).length : Int)) : Int) ∧ ((if (70 : Int) < ((body : Str).length : Int) then 70 else ((body : Str).length : Int)) : Int) ≤ (((body : Str).length : Nat) : Int)) ∧ (True)) (
.ob (dOff [.agg a.vs]) (
.ob (((V.beq (.agg b.vs) (.agg b.vs)) && true) = true) (
.ob (dOff [.agg b.vs]) (
.ob (dPair [.agg (fineO a).vs, .agg (fineO b).vs] ∧ pPair [.agg (fineO a).vs, .agg (fineO b).vs] 7 = pairRows (fineO a) (fineO b) 7) (
.ob (dOff [.agg a.vs]) (
.ob (dOff [.agg (fineO a).vs]) (
.ob (pMayQ [.agg (fineO a).vs] = (.bool true)) (
.ob (dAsk [.agg [.int .i64 kind, .int .i64 n, .int .u32 id, .str (cut70 body)]]) (
.ob (pAskQ [.agg [.int .i64 kind, .int .i64 n, .int .u32 id, .str (cut70 body)]] = (.bool false)) (
.ob (((V.beq (.agg [.int .i64 kind, .int .i64 n, .int .u32 id, .str (cut70 body)]) (.agg [.int .i64 kind, .int .i64 n, .int .u32 id, .str (cut70 body)])) && true) = true) (
.ob (dAsk [.agg [.int .i64 kind, .int .i64 n, .int .u32 id, .str (cut70 body)]]) (
.ob (pAskQ [.agg [.int .i64 kind, .int .i64 n, .int .u32 id, .str (cut70 body)]] = (.bool false)) (
.ob ((((id : Int) != 0) == true) = true → ((True) ∧ ((True) ∧ ((True) ∧ (True))))) (
.ob (binV .eql (.int .i64 kind) (.int .i64 2) = some (.bool false)) (
.ob (binV .eql (.int .i64 kind) (.int .i64 3) = some (.bool false)) (
.ob (binV .geq (.int .i64 kind) (.int .i64 4) = some (.bool true)) (
.ob (binV .leq (.int .i64 kind) (.int .i64 6) = some (.bool false)) (
.leaf (.bool true)))))))))))))))))))
set_option maxRecDepth 1000000 in
theorem treeLKsx8_eq (a : Gw.Offer) (b : Gw.Offer) (kind : Int) (n : Int) (id : Int) (body : Str) : funT (mkXT (noPX) (oxLKsx8 a b kind n id body)) (mkXP (noPX)) (mkX (noPX) (oxLKsx8 a b kind n id body)) D (fun _ => noOrc) (fun k => match k with | 3 => [19, 48, 69, 86, 107, 111, 132, 135] | 9 => [8, 11, 15, 19, 23] | 11 => [10] | _ => []) 12 (fun k => match k with | 69 => some fun t h => (.bool false, h) | 86 => some fun t h => (.bool false, h) | 107 => some fun t h => (.bool true, h) | 111 => some fun t h => (.bool false, h) | _ => none) [19, 48, 69, 86, 107, 111, 132, 135] (noLt) (dOf 3) [.agg a.vs, .agg b.vs, .bool false, .agg [.int .i64 kind, .int .i64 n, .int .u32 id, .str body]] (tabH kT0 kT1 kT2 3) (fun v _ => v) = treeLKsx8 a b kind n id body := by kernel_rfl
theorem satLKsx8 (a : Gw.Offer) (b : Gw.Offer) (kind : Int) (n : Int) (id : Int) (body : Str) (hk : 7 < kind) : (treeLKsx8 a b kind n id body).sat fun v => v = .bool true :=
 sat_ob ⟨by split <;> omega, trivial⟩ (
sat_ob trivial (
sat_ob (by simp only [V.beq_refl, Bool.and_true]) (
sat_ob trivial (
sat_ob ⟨⟨(mayO_fine a), (mayO_fine b)⟩, rfl⟩ (
sat_ob trivial (
sat_ob trivial (
sat_ob (may_of (mayO_fine a)) (
sat_ob trivial (
sat_ob (by show V.bool (mayAsk _) = _; simp [mayAsk, cut70_len, cut70_nil, show ¬ kind = 1 by omega, show ¬ kind = 2 by omega, show ¬ kind = 3 by omega, show ¬ kind = 4 by omega, show ¬ kind = 5 by omega, show ¬ kind = 6 by omega, show ¬ kind = 7 by omega]) (
sat_ob (by simp only [V.beq_refl, Bool.and_true]) (
sat_ob trivial (
sat_ob (by show V.bool (mayAsk _) = _; simp [mayAsk, cut70_len, cut70_nil, show ¬ kind = 1 by omega, show ¬ kind = 2 by omega, show ¬ kind = 3 by omega, show ¬ kind = 4 by omega, show ¬ kind = 5 by omega, show ¬ kind = 6 by omega, show ¬ kind = 7 by omega]) (
sat_ob (by first | rfl | simp [V.beq, V.beqs, allOne, V.one, byteVs, binV, binI, eqV, eqCells]) (
sat_ob (by simp [binV, binI]; omega) (
sat_ob (by simp [binV, binI]; omega) (
sat_ob (by simp [binV, binI]; omega) (
sat_ob (by simp [binV, binI]; omega) (
sat_leaf (rfl)))))))))))))))))))
theorem runLKsx8 (a : Gw.Offer) (b : Gw.Offer) (kind : Int) (n : Int) (id : Int) (body : Str) (hk : 7 < kind) : Run Tryz.prog 3 [.agg a.vs, .agg b.vs, .bool false, .agg [.int .i64 kind, .int .i64 n, .int .u32 id, .str body]] (tabH kT0 kT1 kT2 3) fun v _ => v = .bool true := run_plainU mixed (show TabX Tryz.prog noPX (oxLKsx8 a b kind n id body) from (((((TabX.nil.addO ans_begun).addT (ans_fine noV)).addT (ans_may (fun n => match n with | 17 => some (.bool true) | _ => none))).addT (ans_pair (fun n => match n with | 7 => some (pairRows (fineO a) (fineO b) 7) | _ => none))).addT (ans_ask (fun n => match n with | 26 => some (.bool false) | 28 => some (.bool false) | _ => none)))) tabD (dIs (by kernel_rfl)) (treeLKsx8_eq a b kind n id body) (satLKsx8 a b kind n id body hk)
theorem runLKs (a b : Gw.Offer) (kind n id : Int) (body : Str) : Run Tryz.prog 3 [.agg a.vs, .agg b.vs, .bool false, .agg [.int .i64 kind, .int .i64 n, .int .u32 id, .str body]] (tabH kT0 kT1 kT2 3) fun v _ => v = .bool true := by
  by_cases k0 : kind < 1
  · exact runLKsx0 a b kind n id body k0
  by_cases k8 : 7 < kind
  · exact runLKsx8 a b kind n id body k8
  have hk : kind = 1 ∨ kind = 2 ∨ kind = 3 ∨ kind = 4 ∨ kind = 5 ∨ kind = 6 ∨ kind = 7 := by omega
  rcases hk with rfl | rfl | rfl | rfl | rfl | rfl | rfl
  · cases hm : mayAsk ⟨1, n, id, cut70 body⟩ with
    | false => exact runLKs1f a b n id body hm
    | true =>
      have h : (n = 1 ∨ n = 6 ∨ n = 8) ∧ id = 0 ∧ body = [] := by
        simp [mayAsk, cut70_nil] at hm
        exact ⟨by omega, by omega, hm.2⟩
      obtain ⟨hn, rfl, rfl⟩ := h
      exact runLKs1t a b n hn
  · by_cases i0 : id = 0
    · subst i0; exact runLKs20 a b n body
    by_cases i1 : id = 4294967295
    · subst i1; exact runLKs21 a b n body
    by_cases n0 : n = 0
    · subst n0
      by_cases hb : body = []
      · subst hb
        by_cases i9 : id = 9
        · subst i9; exact runLKs25 a b
        · exact runLKs24 a b id i0 i1 i9
      · exact runLKs23 a b id body i0 i1 hb
    · exact runLKs22 a b n id body n0 i0 i1
  · by_cases n0 : n = 0
    · subst n0
      by_cases i0 : id = 0
      · subst i0
        by_cases hl : body.length ≤ 64
        · by_cases hz : (body.length : Int) ≤ (dealL (fineO b) (fineO a)).size
          · exact runLKs34 a b body hl hz
          · exact runLKs33 a b body hl (by omega)
        · exact runLKs32 a b body (by omega)
      · exact runLKs31 a b id body i0
    · exact runLKs30 a b n id body n0
  · by_cases n0 : n = 0
    · subst n0
      by_cases i0 : id = 0
      · subst i0
        by_cases hb : body = []
        · subst hb; exact runLKs43 a b
        · exact runLKs42 a b body hb
      · exact runLKs41 a b id body i0
    · exact runLKs40 a b n id body n0
  · by_cases n0 : n = 0
    · subst n0
      by_cases i0 : id = 0
      · subst i0
        by_cases hb : body = []
        · subst hb; exact runLKs53 a b
        · exact runLKs52 a b body hb
      · exact runLKs51 a b id body i0
    · exact runLKs50 a b n id body n0
  · by_cases n0 : n = 0
    · subst n0
      by_cases i0 : id = 0
      · subst i0
        by_cases hb : body = []
        · subst hb; exact runLKs63 a b
        · exact runLKs62 a b body hb
      · exact runLKs61 a b id body i0
    · exact runLKs60 a b n id body n0
  · cases hm : mayAsk ⟨7, n, id, cut70 body⟩ with
    | false => exact runLKs7f a b n id body hm
    | true =>
      have h : n = 0 ∧ id ≠ 0 ∧ id ≠ 4294967295 ∧ body = [] := by
        simp [mayAsk, cut70_nil] at hm
        exact ⟨by omega, by omega, by omega, hm.2⟩
      obtain ⟨rfl, i0, i1, rfl⟩ := h
      exact runLKs7t a b id i0 i1
end Go.Proofs.YtjcninlcdnkofabGreatDoor
