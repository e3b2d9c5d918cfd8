/- LinkAsk: its trees, by classes. -/
import Derived.Test.YtjcninlcdnkofabGreatDoorGxE3
import Derived.Test.YtjcninlcdnkofabGreatDoorGxPR
import Derived.Test.YtjcninlcdnkofabGreatDoorGxAM
import Derived.Test.YtjcninlcdnkofabGreatDoorGxQ
noncomputable section
namespace Go.Proofs.YtjcninlcdnkofabGreatDoor
open Go Gw Go.RowKit
set_option linter.unusedSimpArgs false
set_option linter.unusedVariables false
def oxLKp20 (a : Gw.Offer) (b : Gw.Offer) (n : Int) (body : Str) : OTab := (consT 29 (gD dAsk pAskQ (fun n => match n with | 26 => some (.bool false) | 28 => some (.bool false) | _ => none)) (consT 7 (gNew kT0 kT1 kT2 dPair pPair prPair (fun n => match n with | 7 => some (pairRows (fineO a) (fineO b) 7) | _ => none)) (consT 28 (gD dOff pMayQ (fun n => match n with | 17 => some (.bool true) | _ => none)) (consT 8 (gD dOff pFine noV) (consO 5 (gTrue kT0 kT1 kT2) noOX)))))
def treeLKp20 (a : Gw.Offer) (b : Gw.Offer) (n : Int) (body : Str) : DT V :=
  .ob ((0 ≤ ((if (70 : Int) < ((body : Str).length : Int) then 70 else ((body : Str).length : Int)) : Int) ∧ ((if (70 : Int) < ((body : Str).length : Int) then 70 else ((body : Str).length : Int)) : Int) ≤ (((body : Str).length : Nat) : Int)) ∧ (True)) (
.ob (dOff [.agg a.vs]) (
.ob (((V.beq (.agg b.vs) (.agg b.vs)) && true) = true) (
.ob (dOff [.agg b.vs]) (
.ob (dPair [.agg (fineO a).vs, .agg (fineO b).vs] ∧ pPair [.agg (fineO a).vs, .agg (fineO b).vs] 7 = pairRows (fineO a) (fineO b) 7) (
.ob (dOff [.agg a.vs]) (
.ob (dOff [.agg (fineO a).vs]) (
.ob (pMayQ [.agg (fineO a).vs] = (.bool true)) (
.ob (dAsk [.agg [.int .i64 2, .int .i64 n, .int .u32 0, .str (cut70 body)]]) (
.ob (pAskQ [.agg [.int .i64 2, .int .i64 n, .int .u32 0, .str (cut70 body)]] = (.bool false)) (
.ob (((V.beq (.agg [.int .i64 2, .int .i64 n, .int .u32 0, .str (cut70 body)]) (.agg [.int .i64 2, .int .i64 n, .int .u32 0, .str (cut70 body)])) && true) = true) (
.ob (dAsk [.agg [.int .i64 2, .int .i64 n, .int .u32 0, .str (cut70 body)]]) (
.ob (pAskQ [.agg [.int .i64 2, .int .i64 n, .int .u32 0, .str (cut70 body)]] = (.bool false)) (
.leaf (.bool true))))))))))))))
set_option maxRecDepth 1000000 in
theorem treeLKp20_eq (a : Gw.Offer) (b : Gw.Offer) (n : Int) (body : Str) : funT (mkXT (noPX) (oxLKp20 a b n body)) (mkXP (noPX)) (mkX (noPX) (oxLKp20 a b n body)) D (fun _ => noOrc) (fun k => match k with | 3 => [19, 48, 61, 69, 86, 107, 132, 135] | 9 => [8, 11, 15, 19, 23] | 11 => [10] | _ => []) 12 noOrc [19, 48, 61, 69, 86, 107, 132, 135] (noLt) (dOf 3) [.agg a.vs, .agg b.vs, .bool true, .agg [.int .i64 2, .int .i64 n, .int .u32 0, .str body]] (tabH kT0 kT1 kT2 3) (fun v _ => v) = treeLKp20 a b n body := by kernel_rfl
theorem satLKp20 (a : Gw.Offer) (b : Gw.Offer) (n : Int) (body : Str)  : (treeLKp20 a b n body).sat fun v => v = .bool true :=
 sat_ob ⟨by split <;> omega, trivial⟩ (
sat_ob trivial (
sat_ob (by simp only [V.beq_refl, Bool.and_true]) (
sat_ob trivial (
sat_ob ⟨⟨(mayO_fine a), (mayO_fine b)⟩, rfl⟩ (
sat_ob trivial (
sat_ob trivial (
sat_ob (may_of (mayO_fine a)) (
sat_ob trivial (
sat_ob (by show V.bool (mayAsk _) = _; simp [mayAsk, cut70_len, cut70_nil]) (
sat_ob (by simp only [V.beq_refl, Bool.and_true]) (
sat_ob trivial (
sat_ob (by show V.bool (mayAsk _) = _; simp [mayAsk, cut70_len, cut70_nil]) (
sat_leaf (rfl))))))))))))))
theorem runLKp20 (a : Gw.Offer) (b : Gw.Offer) (n : Int) (body : Str)  : Run Tryz.prog 3 [.agg a.vs, .agg b.vs, .bool true, .agg [.int .i64 2, .int .i64 n, .int .u32 0, .str body]] (tabH kT0 kT1 kT2 3) fun v _ => v = .bool true := run_plainU mixed (show TabX Tryz.prog noPX (oxLKp20 a b n body) from (((((TabX.nil.addO ans_begun).addT (ans_fine noV)).addT (ans_may (fun n => match n with | 17 => some (.bool true) | _ => none))).addT (ans_pair (fun n => match n with | 7 => some (pairRows (fineO a) (fineO b) 7) | _ => none))).addT (ans_ask (fun n => match n with | 26 => some (.bool false) | 28 => some (.bool false) | _ => none)))) tabD (dIs (by kernel_rfl)) (treeLKp20_eq a b n body) (satLKp20 a b n body )
def oxLKp21 (a : Gw.Offer) (b : Gw.Offer) (n : Int) (body : Str) : OTab := (consT 29 (gD dAsk pAskQ (fun n => match n with | 26 => some (.bool false) | 28 => some (.bool false) | _ => none)) (consT 7 (gNew kT0 kT1 kT2 dPair pPair prPair (fun n => match n with | 7 => some (pairRows (fineO a) (fineO b) 7) | _ => none)) (consT 28 (gD dOff pMayQ (fun n => match n with | 17 => some (.bool true) | _ => none)) (consT 8 (gD dOff pFine noV) (consO 5 (gTrue kT0 kT1 kT2) noOX)))))
def treeLKp21 (a : Gw.Offer) (b : Gw.Offer) (n : Int) (body : Str) : DT V :=
  .ob ((0 ≤ ((if (70 : Int) < ((body : Str).length : Int) then 70 else ((body : Str).length : Int)) : Int) ∧ ((if (70 : Int) < ((body : Str).length : Int) then 70 else ((body : Str).length : Int)) : Int) ≤ (((body : Str).length : Nat) : Int)) ∧ (True)) (
.ob (dOff [.agg a.vs]) (
.ob (((V.beq (.agg b.vs) (.agg b.vs)) && true) = true) (
.ob (dOff [.agg b.vs]) (
.ob (dPair [.agg (fineO a).vs, .agg (fineO b).vs] ∧ pPair [.agg (fineO a).vs, .agg (fineO b).vs] 7 = pairRows (fineO a) (fineO b) 7) (
.ob (dOff [.agg a.vs]) (
.ob (dOff [.agg (fineO a).vs]) (
.ob (pMayQ [.agg (fineO a).vs] = (.bool true)) (
.ob (dAsk [.agg [.int .i64 2, .int .i64 n, .int .u32 4294967295, .str (cut70 body)]]) (
.ob (pAskQ [.agg [.int .i64 2, .int .i64 n, .int .u32 4294967295, .str (cut70 body)]] = (.bool false)) (
.ob (((V.beq (.agg [.int .i64 2, .int .i64 n, .int .u32 4294967295, .str (cut70 body)]) (.agg [.int .i64 2, .int .i64 n, .int .u32 4294967295, .str (cut70 body)])) && true) = true) (
.ob (dAsk [.agg [.int .i64 2, .int .i64 n, .int .u32 4294967295, .str (cut70 body)]]) (
.ob (pAskQ [.agg [.int .i64 2, .int .i64 n, .int .u32 4294967295, .str (cut70 body)]] = (.bool false)) (
.leaf (.bool true))))))))))))))
set_option maxRecDepth 1000000 in
theorem treeLKp21_eq (a : Gw.Offer) (b : Gw.Offer) (n : Int) (body : Str) : funT (mkXT (noPX) (oxLKp21 a b n body)) (mkXP (noPX)) (mkX (noPX) (oxLKp21 a b n body)) D (fun _ => noOrc) (fun k => match k with | 3 => [19, 48, 61, 65, 69, 86, 107, 132, 135] | 9 => [8, 11, 15, 19, 23] | 11 => [10] | _ => []) 12 noOrc [19, 48, 61, 65, 69, 86, 107, 132, 135] (noLt) (dOf 3) [.agg a.vs, .agg b.vs, .bool true, .agg [.int .i64 2, .int .i64 n, .int .u32 4294967295, .str body]] (tabH kT0 kT1 kT2 3) (fun v _ => v) = treeLKp21 a b n body := by kernel_rfl
theorem satLKp21 (a : Gw.Offer) (b : Gw.Offer) (n : Int) (body : Str)  : (treeLKp21 a b n body).sat fun v => v = .bool true :=
 sat_ob ⟨by split <;> omega, trivial⟩ (
sat_ob trivial (
sat_ob (by simp only [V.beq_refl, Bool.and_true]) (
sat_ob trivial (
sat_ob ⟨⟨(mayO_fine a), (mayO_fine b)⟩, rfl⟩ (
sat_ob trivial (
sat_ob trivial (
sat_ob (may_of (mayO_fine a)) (
sat_ob trivial (
sat_ob (by show V.bool (mayAsk _) = _; simp [mayAsk, cut70_len, cut70_nil]) (
sat_ob (by simp only [V.beq_refl, Bool.and_true]) (
sat_ob trivial (
sat_ob (by show V.bool (mayAsk _) = _; simp [mayAsk, cut70_len, cut70_nil]) (
sat_leaf (rfl))))))))))))))
theorem runLKp21 (a : Gw.Offer) (b : Gw.Offer) (n : Int) (body : Str)  : Run Tryz.prog 3 [.agg a.vs, .agg b.vs, .bool true, .agg [.int .i64 2, .int .i64 n, .int .u32 4294967295, .str body]] (tabH kT0 kT1 kT2 3) fun v _ => v = .bool true := run_plainU mixed (show TabX Tryz.prog noPX (oxLKp21 a b n body) from (((((TabX.nil.addO ans_begun).addT (ans_fine noV)).addT (ans_may (fun n => match n with | 17 => some (.bool true) | _ => none))).addT (ans_pair (fun n => match n with | 7 => some (pairRows (fineO a) (fineO b) 7) | _ => none))).addT (ans_ask (fun n => match n with | 26 => some (.bool false) | 28 => some (.bool false) | _ => none)))) tabD (dIs (by kernel_rfl)) (treeLKp21_eq a b n body) (satLKp21 a b n body )
def oxLKp22 (a : Gw.Offer) (b : Gw.Offer) (n : Int) (id : Int) (body : Str) : OTab := (consT 29 (gD dAsk pAskQ (fun n => match n with | 26 => some (.bool false) | 28 => some (.bool false) | _ => none)) (consT 7 (gNew kT0 kT1 kT2 dPair pPair prPair (fun n => match n with | 7 => some (pairRows (fineO a) (fineO b) 7) | _ => none)) (consT 28 (gD dOff pMayQ (fun n => match n with | 17 => some (.bool true) | _ => none)) (consT 8 (gD dOff pFine noV) (consO 5 (gTrue kT0 kT1 kT2) noOX)))))
def treeLKp22 (a : Gw.Offer) (b : Gw.Offer) (n : Int) (id : Int) (body : Str) : DT V :=
  .ob ((0 ≤ ((if (70 : Int) < ((body : Str).length : Int) then 70 else ((body : Str).length : Int)) : Int) ∧ ((if (70 : Int) < ((body : Str).length : Int) then 70 else ((body : Str).length : Int)) : Int) ≤ (((body : Str).length : Nat) : Int)) ∧ (True)) (
.ob (dOff [.agg a.vs]) (
.ob (((V.beq (.agg b.vs) (.agg b.vs)) && true) = true) (
.ob (dOff [.agg b.vs]) (
.ob (dPair [.agg (fineO a).vs, .agg (fineO b).vs] ∧ pPair [.agg (fineO a).vs, .agg (fineO b).vs] 7 = pairRows (fineO a) (fineO b) 7) (
.ob (dOff [.agg a.vs]) (
.ob (dOff [.agg (fineO a).vs]) (
.ob (pMayQ [.agg (fineO a).vs] = (.bool true)) (
.ob (dAsk [.agg [.int .i64 2, .int .i64 n, .int .u32 id, .str (cut70 body)]]) (
.ob (pAskQ [.agg [.int .i64 2, .int .i64 n, .int .u32 id, .str (cut70 body)]] = (.bool false)) (
.ob (((V.beq (.agg [.int .i64 2, .int .i64 n, .int .u32 id, .str (cut70 body)]) (.agg [.int .i64 2, .int .i64 n, .int .u32 id, .str (cut70 body)])) && true) = true) (
.ob (dAsk [.agg [.int .i64 2, .int .i64 n, .int .u32 id, .str (cut70 body)]]) (
.ob (pAskQ [.agg [.int .i64 2, .int .i64 n, .int .u32 id, .str (cut70 body)]] = (.bool false)) (
.ob (binV .neq (.int .u32 id) (.int .u32 0) = some (.bool true)) (
.ob (binV .neq (.int .u32 id) (.int .u32 4294967295) = some (.bool true)) (
.ob (binV .eql (.int .i64 n) (.int .i64 0) = some (.bool false)) (
.leaf (.bool true)))))))))))))))))
set_option maxRecDepth 1000000 in
theorem treeLKp22_eq (a : Gw.Offer) (b : Gw.Offer) (n : Int) (id : Int) (body : Str) : funT (mkXT (noPX) (oxLKp22 a b n id body)) (mkXP (noPX)) (mkX (noPX) (oxLKp22 a b n id body)) D (fun _ => noOrc) (fun k => match k with | 3 => [19, 48, 61, 65, 69, 76, 86, 107, 132, 135] | 9 => [8, 11, 15, 19, 23] | 11 => [10] | _ => []) 12 (fun k => match k with | 61 => some fun t h => (.bool true, h) | 65 => some fun t h => (.bool true, h) | 76 => some fun t h => (.bool false, h) | _ => none) [19, 48, 61, 65, 69, 76, 86, 107, 132, 135] (noLt) (dOf 3) [.agg a.vs, .agg b.vs, .bool true, .agg [.int .i64 2, .int .i64 n, .int .u32 id, .str body]] (tabH kT0 kT1 kT2 3) (fun v _ => v) = treeLKp22 a b n id body := by kernel_rfl
theorem satLKp22 (a : Gw.Offer) (b : Gw.Offer) (n : Int) (id : Int) (body : Str) (hn : n ≠ 0) (hi0 : id ≠ 0) (hi1 : id ≠ 4294967295) : (treeLKp22 a b n id body).sat fun v => v = .bool true :=
 sat_ob ⟨by split <;> omega, trivial⟩ (
sat_ob trivial (
sat_ob (by simp only [V.beq_refl, Bool.and_true]) (
sat_ob trivial (
sat_ob ⟨⟨(mayO_fine a), (mayO_fine b)⟩, rfl⟩ (
sat_ob trivial (
sat_ob trivial (
sat_ob (may_of (mayO_fine a)) (
sat_ob trivial (
sat_ob (by show V.bool (mayAsk _) = _; simp [mayAsk, cut70_len, cut70_nil, hn, hi0, hi1]) (
sat_ob (by simp only [V.beq_refl, Bool.and_true]) (
sat_ob trivial (
sat_ob (by show V.bool (mayAsk _) = _; simp [mayAsk, cut70_len, cut70_nil, hn, hi0, hi1]) (
sat_ob (by simp [binV, binI, hn, hi0, hi1]) (
sat_ob (by simp [binV, binI, hn, hi0, hi1]) (
sat_ob (by simp [binV, binI, hn, hi0, hi1]) (
sat_leaf (rfl)))))))))))))))))
theorem runLKp22 (a : Gw.Offer) (b : Gw.Offer) (n : Int) (id : Int) (body : Str) (hn : n ≠ 0) (hi0 : id ≠ 0) (hi1 : id ≠ 4294967295) : Run Tryz.prog 3 [.agg a.vs, .agg b.vs, .bool true, .agg [.int .i64 2, .int .i64 n, .int .u32 id, .str body]] (tabH kT0 kT1 kT2 3) fun v _ => v = .bool true := run_plainU mixed (show TabX Tryz.prog noPX (oxLKp22 a b n id body) from (((((TabX.nil.addO ans_begun).addT (ans_fine noV)).addT (ans_may (fun n => match n with | 17 => some (.bool true) | _ => none))).addT (ans_pair (fun n => match n with | 7 => some (pairRows (fineO a) (fineO b) 7) | _ => none))).addT (ans_ask (fun n => match n with | 26 => some (.bool false) | 28 => some (.bool false) | _ => none)))) tabD (dIs (by kernel_rfl)) (treeLKp22_eq a b n id body) (satLKp22 a b n id body hn hi0 hi1)
def oxLKp23 (a : Gw.Offer) (b : Gw.Offer) (id : Int) (body : Str) : OTab := (consT 29 (gD dAsk pAskQ (fun n => match n with | 26 => some (.bool false) | 28 => some (.bool false) | _ => none)) (consT 7 (gNew kT0 kT1 kT2 dPair pPair prPair (fun n => match n with | 7 => some (pairRows (fineO a) (fineO b) 7) | _ => none)) (consT 28 (gD dOff pMayQ (fun n => match n with | 17 => some (.bool true) | _ => none)) (consT 8 (gD dOff pFine noV) (consO 5 (gTrue kT0 kT1 kT2) noOX)))))
def treeLKp23 (a : Gw.Offer) (b : Gw.Offer) (id : Int) (body : Str) : DT V :=
  .ob ((0 ≤ ((if (70 : Int) < ((body : Str).length : Int) then 70 else ((body : Str).length : Int)) : Int) ∧ ((if (70 : Int) < ((body : Str).length : Int) then 70 else ((body : Str).length : Int)) : Int) ≤ (((body : Str).length : Nat) : Int)) ∧ (True)) (
.ob (dOff [.agg a.vs]) (
.ob (((V.beq (.agg b.vs) (.agg b.vs)) && true) = true) (
.ob (dOff [.agg b.vs]) (
.ob (dPair [.agg (fineO a).vs, .agg (fineO b).vs] ∧ pPair [.agg (fineO a).vs, .agg (fineO b).vs] 7 = pairRows (fineO a) (fineO b) 7) (
.ob (dOff [.agg a.vs]) (
.ob (dOff [.agg (fineO a).vs]) (
.ob (pMayQ [.agg (fineO a).vs] = (.bool true)) (
.ob (dAsk [.agg [.int .i64 2, .int .i64 0, .int .u32 id, .str (cut70 body)]]) (
.ob (pAskQ [.agg [.int .i64 2, .int .i64 0, .int .u32 id, .str (cut70 body)]] = (.bool false)) (
.ob (((V.beq (.agg [.int .i64 2, .int .i64 0, .int .u32 id, .str (cut70 body)]) (.agg [.int .i64 2, .int .i64 0, .int .u32 id, .str (cut70 body)])) && true) = true) (
.ob (dAsk [.agg [.int .i64 2, .int .i64 0, .int .u32 id, .str (cut70 body)]]) (
.ob (pAskQ [.agg [.int .i64 2, .int .i64 0, .int .u32 id, .str (cut70 body)]] = (.bool false)) (
.ob (binV .neq (.int .u32 id) (.int .u32 0) = some (.bool true)) (
.ob (binV .neq (.int .u32 id) (.int .u32 4294967295) = some (.bool true)) (
.ob (binV .eql (.str (cut70 body)) (.str []) = some (.bool false)) (
.leaf (.bool true)))))))))))))))))
set_option maxRecDepth 1000000 in
theorem treeLKp23_eq (a : Gw.Offer) (b : Gw.Offer) (id : Int) (body : Str) : funT (mkXT (noPX) (oxLKp23 a b id body)) (mkXP (noPX)) (mkX (noPX) (oxLKp23 a b id body)) D (fun _ => noOrc) (fun k => match k with | 3 => [19, 48, 61, 65, 69, 76, 81, 86, 107, 132, 135] | 9 => [8, 11, 15, 19, 23] | 11 => [10] | _ => []) 12 (fun k => match k with | 61 => some fun t h => (.bool true, h) | 65 => some fun t h => (.bool true, h) | 81 => some fun t h => (.bool false, h) | _ => none) [19, 48, 61, 65, 69, 76, 81, 86, 107, 132, 135] (noLt) (dOf 3) [.agg a.vs, .agg b.vs, .bool true, .agg [.int .i64 2, .int .i64 0, .int .u32 id, .str body]] (tabH kT0 kT1 kT2 3) (fun v _ => v) = treeLKp23 a b id body := by kernel_rfl
theorem satLKp23 (a : Gw.Offer) (b : Gw.Offer) (id : Int) (body : Str) (hi0 : id ≠ 0) (hi1 : id ≠ 4294967295) (hb : body ≠ []) : (treeLKp23 a b id body).sat fun v => v = .bool true :=
 sat_ob ⟨by split <;> omega, trivial⟩ (
sat_ob trivial (
sat_ob (by simp only [V.beq_refl, Bool.and_true]) (
sat_ob trivial (
sat_ob ⟨⟨(mayO_fine a), (mayO_fine b)⟩, rfl⟩ (
sat_ob trivial (
sat_ob trivial (
sat_ob (may_of (mayO_fine a)) (
sat_ob trivial (
sat_ob (by show V.bool (mayAsk _) = _; simp [mayAsk, cut70_len, cut70_nil, hi0, hi1, hb]) (
sat_ob (by simp only [V.beq_refl, Bool.and_true]) (
sat_ob trivial (
sat_ob (by show V.bool (mayAsk _) = _; simp [mayAsk, cut70_len, cut70_nil, hi0, hi1, hb]) (
sat_ob (by simp [binV, binI, hi0, hi1, hb]) (
sat_ob (by simp [binV, binI, hi0, hi1, hb]) (
sat_ob (by simp [binV, cut70_nil, hi0, hi1, hb]) (
sat_leaf (rfl)))))))))))))))))
theorem runLKp23 (a : Gw.Offer) (b : Gw.Offer) (id : Int) (body : Str) (hi0 : id ≠ 0) (hi1 : id ≠ 4294967295) (hb : body ≠ []) : Run Tryz.prog 3 [.agg a.vs, .agg b.vs, .bool true, .agg [.int .i64 2, .int .i64 0, .int .u32 id, .str body]] (tabH kT0 kT1 kT2 3) fun v _ => v = .bool true := run_plainU mixed (show TabX Tryz.prog noPX (oxLKp23 a b id body) from (((((TabX.nil.addO ans_begun).addT (ans_fine noV)).addT (ans_may (fun n => match n with | 17 => some (.bool true) | _ => none))).addT (ans_pair (fun n => match n with | 7 => some (pairRows (fineO a) (fineO b) 7) | _ => none))).addT (ans_ask (fun n => match n with | 26 => some (.bool false) | 28 => some (.bool false) | _ => none)))) tabD (dIs (by kernel_rfl)) (treeLKp23_eq a b id body) (satLKp23 a b id body hi0 hi1 hb)
def oxLKp24 (a : Gw.Offer) (b : Gw.Offer) (id : Int) : OTab := (consT 29 (gD dAsk pAskQ (fun n => match n with | 26 => some (.bool true) | 28 => some (.bool true) | _ => none)) (consT 7 (gNew kT0 kT1 kT2 dPair pPair prPair (fun n => match n with | 7 => some (pairRows (fineO a) (fineO b) 7) | _ => none)) (consT 28 (gD dOff pMayQ (fun n => match n with | 17 => some (.bool true) | _ => none)) (consT 8 (gD dOff pFine noV) (consO 5 (gTrue kT0 kT1 kT2) noOX)))))
def treeLKp24 (a : Gw.Offer) (b : Gw.Offer) (id : Int) : DT V :=
  .ob ((0 ≤ (0 : Int) ∧ (0 : Int) ≤ ((0 : Nat) : Int)) ∧ (True)) (
.ob (dOff [.agg a.vs]) (
.ob (((V.beq (.agg b.vs) (.agg b.vs)) && true) = true) (
.ob (dOff [.agg b.vs]) (
.ob (dPair [.agg (fineO a).vs, .agg (fineO b).vs] ∧ pPair [.agg (fineO a).vs, .agg (fineO b).vs] 7 = pairRows (fineO a) (fineO b) 7) (
.ob (dOff [.agg a.vs]) (
.ob (dOff [.agg (fineO a).vs]) (
.ob (pMayQ [.agg (fineO a).vs] = (.bool true)) (
.ob (dAsk [.agg [.int .i64 2, .int .i64 0, .int .u32 id, .str []]]) (
.ob (pAskQ [.agg [.int .i64 2, .int .i64 0, .int .u32 id, .str []]] = (.bool true)) (
.ob (((V.beq (.agg [.int .i64 2, .int .i64 0, .int .u32 id, .str []]) (.agg [.int .i64 2, .int .i64 0, .int .u32 id, .str []])) && true) = true) (
.ob (dAsk [.agg [.int .i64 2, .int .i64 0, .int .u32 id, .str []]]) (
.ob (pAskQ [.agg [.int .i64 2, .int .i64 0, .int .u32 id, .str []]] = (.bool true)) (
.ob (binV .eql (.int .u32 id) (.int .u32 9) = some (.bool false)) (
.ob (IntKind.i64 = IntKind.i64 ∧ (250 : Int) ≠ 0) (
.ob (((V.beq (.int .u32 id) (.int .u32 id)) && true) = true) (
.ob (((V.beq (.int .u32 id) (.int .u32 id)) && true) = true) (
.ob (binV .neq (.int .u32 id) (.int .u32 0) = some (.bool true)) (
.ob (binV .neq (.int .u32 id) (.int .u32 4294967295) = some (.bool true)) (
.ob (binV .neq (.int .u32 id) (.int .u32 9) = some (.bool true)) (
.leaf (.bool true)))))))))))))))))))))
set_option maxRecDepth 1000000 in
theorem treeLKp24_eq (a : Gw.Offer) (b : Gw.Offer) (id : Int) : funT (mkXT (noPX) (oxLKp24 a b id)) (mkXP (noPX)) (mkX (noPX) (oxLKp24 a b id)) D (fun g => match g with | 11 => (fun k => match k with | 57 => some fun t h => (.bool false, h) | _ => none) | _ => noOrc) (fun k => match k with | 3 => [19, 48, 61, 65, 69, 76, 81, 140, 142, 145, 148, 149] | 9 => [8, 11, 15, 19, 23] | 11 => [10, 15, 20, 25, 30, 31, 37, 41, 50, 57] | _ => []) 12 (fun k => match k with | 61 => some fun t h => (.bool true, h) | 65 => some fun t h => (.bool true, h) | 148 => some fun t h => (.bool true, h) | _ => none) [19, 48, 61, 65, 69, 76, 81, 140, 142, 145, 148, 149] (noLt) (dOf 3) [.agg a.vs, .agg b.vs, .bool true, .agg [.int .i64 2, .int .i64 0, .int .u32 id, .str []]] (tabH kT0 kT1 kT2 3) (fun v _ => v) = treeLKp24 a b id := by kernel_rfl
theorem satLKp24 (a : Gw.Offer) (b : Gw.Offer) (id : Int) (hi0 : id ≠ 0) (hi1 : id ≠ 4294967295) (hi9 : id ≠ 9) : (treeLKp24 a b id).sat fun v => v = .bool true :=
 sat_ob (by decide) (
sat_ob trivial (
sat_ob (by simp only [V.beq_refl, Bool.and_true]) (
sat_ob trivial (
sat_ob ⟨⟨(mayO_fine a), (mayO_fine b)⟩, rfl⟩ (
sat_ob trivial (
sat_ob trivial (
sat_ob (may_of (mayO_fine a)) (
sat_ob trivial (
sat_ob (by show V.bool (mayAsk _) = _; simp [mayAsk, cut70_len, cut70_nil, hi0, hi1, hi9]) (
sat_ob (by simp only [V.beq_refl, Bool.and_true]) (
sat_ob trivial (
sat_ob (by show V.bool (mayAsk _) = _; simp [mayAsk, cut70_len, cut70_nil, hi0, hi1, hi9]) (
sat_ob (by simp [binV, binI, hi0, hi1, hi9]) (
sat_ob (by decide) (
sat_ob (by simp only [V.beq_refl, Bool.and_true]) (
sat_ob (by simp only [V.beq_refl, Bool.and_true]) (
sat_ob (by simp [binV, binI, hi0, hi1, hi9]) (
sat_ob (by simp [binV, binI, hi0, hi1, hi9]) (
sat_ob (by simp [binV, binI, hi0, hi1, hi9]) (
sat_leaf (rfl)))))))))))))))))))))
theorem runLKp24 (a : Gw.Offer) (b : Gw.Offer) (id : Int) (hi0 : id ≠ 0) (hi1 : id ≠ 4294967295) (hi9 : id ≠ 9) : Run Tryz.prog 3 [.agg a.vs, .agg b.vs, .bool true, .agg [.int .i64 2, .int .i64 0, .int .u32 id, .str []]] (tabH kT0 kT1 kT2 3) fun v _ => v = .bool true := run_plainU mixed (show TabX Tryz.prog noPX (oxLKp24 a b id) from (((((TabX.nil.addO ans_begun).addT (ans_fine noV)).addT (ans_may (fun n => match n with | 17 => some (.bool true) | _ => none))).addT (ans_pair (fun n => match n with | 7 => some (pairRows (fineO a) (fineO b) 7) | _ => none))).addT (ans_ask (fun n => match n with | 26 => some (.bool true) | 28 => some (.bool true) | _ => none)))) tabD (dIs (by kernel_rfl)) (treeLKp24_eq a b id) (satLKp24 a b id hi0 hi1 hi9)
def oxLKp25 (a : Gw.Offer) (b : Gw.Offer) : OTab := (consT 29 (gD dAsk pAskQ (fun n => match n with | 26 => some (.bool true) | 28 => some (.bool true) | _ => none)) (consT 7 (gNew kT0 kT1 kT2 dPair pPair prPair (fun n => match n with | 7 => some (pairRows (fineO a) (fineO b) 7) | _ => none)) (consT 28 (gD dOff pMayQ (fun n => match n with | 17 => some (.bool true) | _ => none)) (consT 8 (gD dOff pFine noV) (consO 5 (gTrue kT0 kT1 kT2) noOX)))))
def treeLKp25 (a : Gw.Offer) (b : Gw.Offer) : DT V :=
  .ob ((0 ≤ (0 : Int) ∧ (0 : Int) ≤ ((0 : Nat) : Int)) ∧ (True)) (
.ob (dOff [.agg a.vs]) (
.ob (((V.beq (.agg b.vs) (.agg b.vs)) && true) = true) (
.ob (dOff [.agg b.vs]) (
.ob (dPair [.agg (fineO a).vs, .agg (fineO b).vs] ∧ pPair [.agg (fineO a).vs, .agg (fineO b).vs] 7 = pairRows (fineO a) (fineO b) 7) (
.ob (dOff [.agg a.vs]) (
.ob (dOff [.agg (fineO a).vs]) (
.ob (pMayQ [.agg (fineO a).vs] = (.bool true)) (
.ob (dAsk [.agg [.int .i64 2, .int .i64 0, .int .u32 9, .str []]]) (
.ob (pAskQ [.agg [.int .i64 2, .int .i64 0, .int .u32 9, .str []]] = (.bool true)) (
.ob (((V.beq (.agg [.int .i64 2, .int .i64 0, .int .u32 9, .str []]) (.agg [.int .i64 2, .int .i64 0, .int .u32 9, .str []])) && true) = true) (
.ob (dAsk [.agg [.int .i64 2, .int .i64 0, .int .u32 9, .str []]]) (
.ob (pAskQ [.agg [.int .i64 2, .int .i64 0, .int .u32 9, .str []]] = (.bool true)) (
.leaf (.bool true))))))))))))))
set_option maxRecDepth 1000000 in
theorem treeLKp25_eq (a : Gw.Offer) (b : Gw.Offer) : funT (mkXT (noPX) (oxLKp25 a b)) (mkXP (noPX)) (mkX (noPX) (oxLKp25 a b)) D (fun _ => noOrc) (fun k => match k with | 3 => [19, 48, 61, 65, 69, 76, 81, 140, 142, 145, 148, 149] | 9 => [8, 11, 15, 19, 23] | 11 => [10, 15, 20, 25, 30, 31, 37, 41, 50, 57] | _ => []) 12 noOrc [19, 48, 61, 65, 69, 76, 81, 140, 142, 145, 148, 149] (noLt) (dOf 3) [.agg a.vs, .agg b.vs, .bool true, .agg [.int .i64 2, .int .i64 0, .int .u32 9, .str []]] (tabH kT0 kT1 kT2 3) (fun v _ => v) = treeLKp25 a b := by kernel_rfl
theorem satLKp25 (a : Gw.Offer) (b : Gw.Offer)  : (treeLKp25 a b).sat fun v => v = .bool true :=
 sat_ob (by decide) (
sat_ob trivial (
sat_ob (by simp only [V.beq_refl, Bool.and_true]) (
sat_ob trivial (
sat_ob ⟨⟨(mayO_fine a), (mayO_fine b)⟩, rfl⟩ (
sat_ob trivial (
sat_ob trivial (
sat_ob (may_of (mayO_fine a)) (
sat_ob trivial (
sat_ob (by show V.bool (mayAsk _) = _; simp [mayAsk, cut70_len, cut70_nil]) (
sat_ob (by simp only [V.beq_refl, Bool.and_true]) (
sat_ob trivial (
sat_ob (by show V.bool (mayAsk _) = _; simp [mayAsk, cut70_len, cut70_nil]) (
sat_leaf (rfl))))))))))))))
theorem runLKp25 (a : Gw.Offer) (b : Gw.Offer)  : Run Tryz.prog 3 [.agg a.vs, .agg b.vs, .bool true, .agg [.int .i64 2, .int .i64 0, .int .u32 9, .str []]] (tabH kT0 kT1 kT2 3) fun v _ => v = .bool true := run_plainU mixed (show TabX Tryz.prog noPX (oxLKp25 a b) from (((((TabX.nil.addO ans_begun).addT (ans_fine noV)).addT (ans_may (fun n => match n with | 17 => some (.bool true) | _ => none))).addT (ans_pair (fun n => match n with | 7 => some (pairRows (fineO a) (fineO b) 7) | _ => none))).addT (ans_ask (fun n => match n with | 26 => some (.bool true) | 28 => some (.bool true) | _ => none)))) tabD (dIs (by kernel_rfl)) (treeLKp25_eq a b) (satLKp25 a b )
def oxLKp30 (a : Gw.Offer) (b : Gw.Offer) (n : Int) (id : Int) (body : Str) : OTab := (consT 29 (gD dAsk pAskQ (fun n => match n with | 26 => some (.bool false) | 28 => some (.bool false) | _ => none)) (consT 7 (gNew kT0 kT1 kT2 dPair pPair prPair (fun n => match n with | 7 => some (pairRows (fineO a) (fineO b) 7) | _ => none)) (consT 28 (gD dOff pMayQ (fun n => match n with | 17 => some (.bool true) | _ => none)) (consT 8 (gD dOff pFine noV) (consO 5 (gTrue kT0 kT1 kT2) noOX)))))
def treeLKp30 (a : Gw.Offer) (b : Gw.Offer) (n : Int) (id : Int) (body : Str) : DT V :=
  .ob ((0 ≤ ((if (70 : Int) < ((body : Str).length : Int) then 70 else ((body : Str).length : Int)) : Int) ∧ ((if (70 : Int) < ((body : Str).length : Int) then 70 else ((body : Str).length : Int)) : Int) ≤ (((body : Str).length : Nat) : Int)) ∧ (True)) (
.ob (dOff [.agg a.vs]) (
.ob (((V.beq (.agg b.vs) (.agg b.vs)) && true) = true) (
.ob (dOff [.agg b.vs]) (
.ob (dPair [.agg (fineO a).vs, .agg (fineO b).vs] ∧ pPair [.agg (fineO a).vs, .agg (fineO b).vs] 7 = pairRows (fineO a) (fineO b) 7) (
.ob (dOff [.agg a.vs]) (
.ob (dOff [.agg (fineO a).vs]) (
.ob (pMayQ [.agg (fineO a).vs] = (.bool true)) (
.ob (dAsk [.agg [.int .i64 3, .int .i64 n, .int .u32 id, .str (cut70 body)]]) (
.ob (pAskQ [.agg [.int .i64 3, .int .i64 n, .int .u32 id, .str (cut70 body)]] = (.bool false)) (
.ob (((V.beq (.agg [.int .i64 3, .int .i64 n, .int .u32 id, .str (cut70 body)]) (.agg [.int .i64 3, .int .i64 n, .int .u32 id, .str (cut70 body)])) && true) = true) (
.ob (dAsk [.agg [.int .i64 3, .int .i64 n, .int .u32 id, .str (cut70 body)]]) (
.ob (pAskQ [.agg [.int .i64 3, .int .i64 n, .int .u32 id, .str (cut70 body)]] = (.bool false)) (
.ob ((((id : Int) != 0) == true) = true → ((True) ∧ ((True) ∧ ((True) ∧ (True))))) (
.ob (binV .eql (.int .i64 n) (.int .i64 0) = some (.bool false)) (
.leaf (.bool true))))))))))))))))
set_option maxRecDepth 1000000 in
theorem treeLKp30_eq (a : Gw.Offer) (b : Gw.Offer) (n : Int) (id : Int) (body : Str) : funT (mkXT (noPX) (oxLKp30 a b n id body)) (mkXP (noPX)) (mkX (noPX) (oxLKp30 a b n id body)) D (fun _ => noOrc) (fun k => match k with | 3 => [19, 48, 69, 86, 90, 107, 132, 135] | 9 => [8, 11, 15, 19, 23] | 11 => [10] | _ => []) 12 (fun k => match k with | 90 => some fun t h => (.bool false, h) | _ => none) [19, 48, 69, 86, 90, 107, 132, 135] (noLt) (dOf 3) [.agg a.vs, .agg b.vs, .bool true, .agg [.int .i64 3, .int .i64 n, .int .u32 id, .str body]] (tabH kT0 kT1 kT2 3) (fun v _ => v) = treeLKp30 a b n id body := by kernel_rfl
theorem satLKp30 (a : Gw.Offer) (b : Gw.Offer) (n : Int) (id : Int) (body : Str) (hn : n ≠ 0) : (treeLKp30 a b n id body).sat fun v => v = .bool true :=
 sat_ob ⟨by split <;> omega, trivial⟩ (
sat_ob trivial (
sat_ob (by simp only [V.beq_refl, Bool.and_true]) (
sat_ob trivial (
sat_ob ⟨⟨(mayO_fine a), (mayO_fine b)⟩, rfl⟩ (
sat_ob trivial (
sat_ob trivial (
sat_ob (may_of (mayO_fine a)) (
sat_ob trivial (
sat_ob (by show V.bool (mayAsk _) = _; simp [mayAsk, cut70_len, cut70_nil, hn]) (
sat_ob (by simp only [V.beq_refl, Bool.and_true]) (
sat_ob trivial (
sat_ob (by show V.bool (mayAsk _) = _; simp [mayAsk, cut70_len, cut70_nil, hn]) (
sat_ob (by first | rfl | simp [V.beq, V.beqs, allOne, V.one, byteVs, binV, binI, eqV, eqCells]) (
sat_ob (by simp [binV, binI, hn]) (
sat_leaf (rfl))))))))))))))))
theorem runLKp30 (a : Gw.Offer) (b : Gw.Offer) (n : Int) (id : Int) (body : Str) (hn : n ≠ 0) : Run Tryz.prog 3 [.agg a.vs, .agg b.vs, .bool true, .agg [.int .i64 3, .int .i64 n, .int .u32 id, .str body]] (tabH kT0 kT1 kT2 3) fun v _ => v = .bool true := run_plainU mixed (show TabX Tryz.prog noPX (oxLKp30 a b n id body) from (((((TabX.nil.addO ans_begun).addT (ans_fine noV)).addT (ans_may (fun n => match n with | 17 => some (.bool true) | _ => none))).addT (ans_pair (fun n => match n with | 7 => some (pairRows (fineO a) (fineO b) 7) | _ => none))).addT (ans_ask (fun n => match n with | 26 => some (.bool false) | 28 => some (.bool false) | _ => none)))) tabD (dIs (by kernel_rfl)) (treeLKp30_eq a b n id body) (satLKp30 a b n id body hn)
def oxLKp31 (a : Gw.Offer) (b : Gw.Offer) (id : Int) (body : Str) : OTab := (consT 29 (gD dAsk pAskQ (fun n => match n with | 26 => some (.bool false) | 28 => some (.bool false) | _ => none)) (consT 7 (gNew kT0 kT1 kT2 dPair pPair prPair (fun n => match n with | 7 => some (pairRows (fineO a) (fineO b) 7) | _ => none)) (consT 28 (gD dOff pMayQ (fun n => match n with | 17 => some (.bool true) | _ => none)) (consT 8 (gD dOff pFine noV) (consO 5 (gTrue kT0 kT1 kT2) noOX)))))
def treeLKp31 (a : Gw.Offer) (b : Gw.Offer) (id : Int) (body : Str) : DT V :=
  .ob ((0 ≤ ((if (70 : Int) < ((body : Str).length : Int) then 70 else ((body : Str).length : Int)) : Int) ∧ ((if (70 : Int) < ((body : Str).length : Int) then 70 else ((body : Str).length : Int)) : Int) ≤ (((body : Str).length : Nat) : Int)) ∧ (True)) (
.ob (dOff [.agg a.vs]) (
.ob (((V.beq (.agg b.vs) (.agg b.vs)) && true) = true) (
.ob (dOff [.agg b.vs]) (
.ob (dPair [.agg (fineO a).vs, .agg (fineO b).vs] ∧ pPair [.agg (fineO a).vs, .agg (fineO b).vs] 7 = pairRows (fineO a) (fineO b) 7) (
.ob (dOff [.agg a.vs]) (
.ob (dOff [.agg (fineO a).vs]) (
.ob (pMayQ [.agg (fineO a).vs] = (.bool true)) (
.ob (dAsk [.agg [.int .i64 3, .int .i64 0, .int .u32 id, .str (cut70 body)]]) (
.ob (pAskQ [.agg [.int .i64 3, .int .i64 0, .int .u32 id, .str (cut70 body)]] = (.bool false)) (
.ob (((V.beq (.agg [.int .i64 3, .int .i64 0, .int .u32 id, .str (cut70 body)]) (.agg [.int .i64 3, .int .i64 0, .int .u32 id, .str (cut70 body)])) && true) = true) (
.ob (dAsk [.agg [.int .i64 3, .int .i64 0, .int .u32 id, .str (cut70 body)]]) (
.ob (pAskQ [.agg [.int .i64 3, .int .i64 0, .int .u32 id, .str (cut70 body)]] = (.bool false)) (
.ob (binV .neq (.int .u32 id) (.int .u32 0) = some (.bool true)) (
.ob (binV .eql (.int .u32 id) (.int .u32 0) = some (.bool false)) (
.leaf (.bool true))))))))))))))))
set_option maxRecDepth 1000000 in
theorem treeLKp31_eq (a : Gw.Offer) (b : Gw.Offer) (id : Int) (body : Str) : funT (mkXT (noPX) (oxLKp31 a b id body)) (mkXP (noPX)) (mkX (noPX) (oxLKp31 a b id body)) D (fun _ => noOrc) (fun k => match k with | 3 => [19, 48, 61, 69, 86, 90, 95, 107, 132, 135] | 9 => [8, 11, 15, 19, 23] | 11 => [10] | _ => []) 12 (fun k => match k with | 61 => some fun t h => (.bool true, h) | 95 => some fun t h => (.bool false, h) | _ => none) [19, 48, 61, 69, 86, 90, 95, 107, 132, 135] (noLt) (dOf 3) [.agg a.vs, .agg b.vs, .bool true, .agg [.int .i64 3, .int .i64 0, .int .u32 id, .str body]] (tabH kT0 kT1 kT2 3) (fun v _ => v) = treeLKp31 a b id body := by kernel_rfl
theorem satLKp31 (a : Gw.Offer) (b : Gw.Offer) (id : Int) (body : Str) (hi : id ≠ 0) : (treeLKp31 a b id body).sat fun v => v = .bool true :=
 sat_ob ⟨by split <;> omega, trivial⟩ (
sat_ob trivial (
sat_ob (by simp only [V.beq_refl, Bool.and_true]) (
sat_ob trivial (
sat_ob ⟨⟨(mayO_fine a), (mayO_fine b)⟩, rfl⟩ (
sat_ob trivial (
sat_ob trivial (
sat_ob (may_of (mayO_fine a)) (
sat_ob trivial (
sat_ob (by show V.bool (mayAsk _) = _; simp [mayAsk, cut70_len, cut70_nil, hi]) (
sat_ob (by simp only [V.beq_refl, Bool.and_true]) (
sat_ob trivial (
sat_ob (by show V.bool (mayAsk _) = _; simp [mayAsk, cut70_len, cut70_nil, hi]) (
sat_ob (by simp [binV, binI, hi]) (
sat_ob (by simp [binV, binI, hi]) (
sat_leaf (rfl))))))))))))))))
theorem runLKp31 (a : Gw.Offer) (b : Gw.Offer) (id : Int) (body : Str) (hi : id ≠ 0) : Run Tryz.prog 3 [.agg a.vs, .agg b.vs, .bool true, .agg [.int .i64 3, .int .i64 0, .int .u32 id, .str body]] (tabH kT0 kT1 kT2 3) fun v _ => v = .bool true := run_plainU mixed (show TabX Tryz.prog noPX (oxLKp31 a b id body) from (((((TabX.nil.addO ans_begun).addT (ans_fine noV)).addT (ans_may (fun n => match n with | 17 => some (.bool true) | _ => none))).addT (ans_pair (fun n => match n with | 7 => some (pairRows (fineO a) (fineO b) 7) | _ => none))).addT (ans_ask (fun n => match n with | 26 => some (.bool false) | 28 => some (.bool false) | _ => none)))) tabD (dIs (by kernel_rfl)) (treeLKp31_eq a b id body) (satLKp31 a b id body hi)
def oxLKp32 (a : Gw.Offer) (b : Gw.Offer) (body : Str) : OTab := (consT 29 (gD dAsk pAskQ (fun n => match n with | 26 => some (.bool false) | 28 => some (.bool false) | _ => none)) (consT 7 (gNew kT0 kT1 kT2 dPair pPair prPair (fun n => match n with | 7 => some (pairRows (fineO a) (fineO b) 7) | _ => none)) (consT 28 (gD dOff pMayQ (fun n => match n with | 17 => some (.bool true) | _ => none)) (consT 8 (gD dOff pFine noV) (consO 5 (gTrue kT0 kT1 kT2) noOX)))))
def treeLKp32 (a : Gw.Offer) (b : Gw.Offer) (body : Str) : DT V :=
  .ob ((0 ≤ ((if (70 : Int) < ((body : Str).length : Int) then 70 else ((body : Str).length : Int)) : Int) ∧ ((if (70 : Int) < ((body : Str).length : Int) then 70 else ((body : Str).length : Int)) : Int) ≤ (((body : Str).length : Nat) : Int)) ∧ (True)) (
.ob (dOff [.agg a.vs]) (
.ob (((V.beq (.agg b.vs) (.agg b.vs)) && true) = true) (
.ob (dOff [.agg b.vs]) (
.ob (dPair [.agg (fineO a).vs, .agg (fineO b).vs] ∧ pPair [.agg (fineO a).vs, .agg (fineO b).vs] 7 = pairRows (fineO a) (fineO b) 7) (
.ob (dOff [.agg a.vs]) (
.ob (dOff [.agg (fineO a).vs]) (
.ob (pMayQ [.agg (fineO a).vs] = (.bool true)) (
.ob (dAsk [.agg [.int .i64 3, .int .i64 0, .int .u32 0, .str (cut70 body)]]) (
.ob (pAskQ [.agg [.int .i64 3, .int .i64 0, .int .u32 0, .str (cut70 body)]] = (.bool false)) (
.ob (((V.beq (.agg [.int .i64 3, .int .i64 0, .int .u32 0, .str (cut70 body)]) (.agg [.int .i64 3, .int .i64 0, .int .u32 0, .str (cut70 body)])) && true) = true) (
.ob (dAsk [.agg [.int .i64 3, .int .i64 0, .int .u32 0, .str (cut70 body)]]) (
.ob (pAskQ [.agg [.int .i64 3, .int .i64 0, .int .u32 0, .str (cut70 body)]] = (.bool false)) (
.ob (binV .leq (.int .i64 (((cut70 body) : Str).length : Int)) (.int .i64 64) = some (.bool false)) (
.leaf (.bool true)))))))))))))))
set_option maxRecDepth 1000000 in
theorem treeLKp32_eq (a : Gw.Offer) (b : Gw.Offer) (body : Str) : funT (mkXT (noPX) (oxLKp32 a b body)) (mkXP (noPX)) (mkX (noPX) (oxLKp32 a b body)) D (fun _ => noOrc) (fun k => match k with | 3 => [19, 48, 61, 69, 86, 90, 95, 101, 107, 132, 135] | 9 => [8, 11, 15, 19, 23] | 11 => [10] | _ => []) 12 (fun k => match k with | 101 => some fun t h => (.bool false, h) | _ => none) [19, 48, 61, 69, 86, 90, 95, 101, 107, 132, 135] (noLt) (dOf 3) [.agg a.vs, .agg b.vs, .bool true, .agg [.int .i64 3, .int .i64 0, .int .u32 0, .str body]] (tabH kT0 kT1 kT2 3) (fun v _ => v) = treeLKp32 a b body := by kernel_rfl
theorem satLKp32 (a : Gw.Offer) (b : Gw.Offer) (body : Str) (hl : 64 < body.length) : (treeLKp32 a b body).sat fun v => v = .bool true :=
 sat_ob ⟨by split <;> omega, trivial⟩ (
sat_ob trivial (
sat_ob (by simp only [V.beq_refl, Bool.and_true]) (
sat_ob trivial (
sat_ob ⟨⟨(mayO_fine a), (mayO_fine b)⟩, rfl⟩ (
sat_ob trivial (
sat_ob trivial (
sat_ob (may_of (mayO_fine a)) (
sat_ob trivial (
sat_ob (by show V.bool (mayAsk _) = _; simp [mayAsk, cut70_len, cut70_nil]; omega) (
sat_ob (by simp only [V.beq_refl, Bool.and_true]) (
sat_ob trivial (
sat_ob (by show V.bool (mayAsk _) = _; simp [mayAsk, cut70_len, cut70_nil]; omega) (
sat_ob (by have := cut70_len body; simp [binV, binI]; omega) (
sat_leaf (rfl)))))))))))))))
theorem runLKp32 (a : Gw.Offer) (b : Gw.Offer) (body : Str) (hl : 64 < body.length) : Run Tryz.prog 3 [.agg a.vs, .agg b.vs, .bool true, .agg [.int .i64 3, .int .i64 0, .int .u32 0, .str body]] (tabH kT0 kT1 kT2 3) fun v _ => v = .bool true := run_plainU mixed (show TabX Tryz.prog noPX (oxLKp32 a b body) from (((((TabX.nil.addO ans_begun).addT (ans_fine noV)).addT (ans_may (fun n => match n with | 17 => some (.bool true) | _ => none))).addT (ans_pair (fun n => match n with | 7 => some (pairRows (fineO a) (fineO b) 7) | _ => none))).addT (ans_ask (fun n => match n with | 26 => some (.bool false) | 28 => some (.bool false) | _ => none)))) tabD (dIs (by kernel_rfl)) (treeLKp32_eq a b body) (satLKp32 a b body hl)
def oxLKp33 (a : Gw.Offer) (b : Gw.Offer) (body : Str) : OTab := (consT 29 (gD dAsk pAskQ (fun n => match n with | 26 => some (.bool true) | 28 => some (.bool true) | _ => none)) (consT 7 (gNew kT0 kT1 kT2 dPair pPair prPair (fun n => match n with | 7 => some (pairRows (fineO a) (fineO b) 7) | _ => none)) (consT 28 (gD dOff pMayQ (fun n => match n with | 17 => some (.bool true) | _ => none)) (consT 8 (gD dOff pFine noV) (consO 5 (gTrue kT0 kT1 kT2) noOX)))))
def treeLKp33 (a : Gw.Offer) (b : Gw.Offer) (body : Str) : DT V :=
  .ob ((0 ≤ ((if (70 : Int) < ((body : Str).length : Int) then 70 else ((body : Str).length : Int)) : Int) ∧ ((if (70 : Int) < ((body : Str).length : Int) then 70 else ((body : Str).length : Int)) : Int) ≤ (((body : Str).length : Nat) : Int)) ∧ (True)) (
.ob (dOff [.agg a.vs]) (
.ob (((V.beq (.agg b.vs) (.agg b.vs)) && true) = true) (
.ob (dOff [.agg b.vs]) (
.ob (dPair [.agg (fineO a).vs, .agg (fineO b).vs] ∧ pPair [.agg (fineO a).vs, .agg (fineO b).vs] 7 = pairRows (fineO a) (fineO b) 7) (
.ob (dOff [.agg a.vs]) (
.ob (dOff [.agg (fineO a).vs]) (
.ob (pMayQ [.agg (fineO a).vs] = (.bool true)) (
.ob (dAsk [.agg [.int .i64 3, .int .i64 0, .int .u32 0, .str (cut70 body)]]) (
.ob (pAskQ [.agg [.int .i64 3, .int .i64 0, .int .u32 0, .str (cut70 body)]] = (.bool true)) (
.ob (binV .gtr (.int .i64 (((cut70 body) : Str).length : Int)) (.int .i64 (if (64 : Int) < (dealL (fineO a) (fineO b)).size then 64 else (dealL (fineO a) (fineO b)).size)) = some (.bool true)) (
.ob (((V.beq (.agg [.int .i64 3, .int .i64 0, .int .u32 0, .str (cut70 body)]) (.agg [.int .i64 3, .int .i64 0, .int .u32 0, .str (cut70 body)])) && true) = true) (
.ob (dAsk [.agg [.int .i64 3, .int .i64 0, .int .u32 0, .str (cut70 body)]]) (
.ob (pAskQ [.agg [.int .i64 3, .int .i64 0, .int .u32 0, .str (cut70 body)]] = (.bool true)) (
.ob (binV .leq (.int .i64 (((cut70 body) : Str).length : Int)) (.int .i64 64) = some (.bool true)) (
.ob (binV .leq (.int .i64 (((cut70 body) : Str).length : Int)) (.int .i64 (dealL (fineO a) (fineO b)).size) = some (.bool false)) (
.leaf (.bool true)))))))))))))))))
set_option maxRecDepth 1000000 in
theorem treeLKp33_eq (a : Gw.Offer) (b : Gw.Offer) (body : Str) : funT (mkXT (noPX) (oxLKp33 a b body)) (mkXP (noPX)) (mkX (noPX) (oxLKp33 a b body)) D (fun g => match g with | 31 => (fun k => match k with | 15 => some fun t h => (.bool true, h) | _ => none) | _ => noOrc) (fun k => match k with | 3 => [19, 48, 61, 69, 86, 90, 95, 101, 140, 152, 154, 159, 160, 163] | 9 => [8, 11, 15, 19, 23] | 11 => [10, 15, 20, 25, 30, 31, 37, 41, 50, 81] | 31 => [15] | _ => []) 12 (fun k => match k with | 101 => some fun t h => (.bool true, h) | 159 => some fun t h => (.bool false, h) | _ => none) [19, 48, 61, 69, 86, 90, 95, 101, 140, 152, 154, 159, 160, 163] (noLt) (dOf 3) [.agg a.vs, .agg b.vs, .bool true, .agg [.int .i64 3, .int .i64 0, .int .u32 0, .str body]] (tabH kT0 kT1 kT2 3) (fun v _ => v) = treeLKp33 a b body := by kernel_rfl
theorem satLKp33 (a : Gw.Offer) (b : Gw.Offer) (body : Str) (hl : body.length ≤ 64) (hz : (dealL (fineO a) (fineO b)).size < (body.length : Int)) : (treeLKp33 a b body).sat fun v => v = .bool true :=
 sat_ob ⟨by split <;> omega, trivial⟩ (
sat_ob trivial (
sat_ob (by simp only [V.beq_refl, Bool.and_true]) (
sat_ob trivial (
sat_ob ⟨⟨(mayO_fine a), (mayO_fine b)⟩, rfl⟩ (
sat_ob trivial (
sat_ob trivial (
sat_ob (may_of (mayO_fine a)) (
sat_ob trivial (
sat_ob (by show V.bool (mayAsk _) = _; simp [mayAsk, cut70_len, cut70_nil]; omega) (
sat_ob (by have := cut70_len body; simp [binV, binI]; (repeat' split) <;> omega) (
sat_ob (by simp only [V.beq_refl, Bool.and_true]) (
sat_ob trivial (
sat_ob (by show V.bool (mayAsk _) = _; simp [mayAsk, cut70_len, cut70_nil]; omega) (
sat_ob (by have := cut70_len body; simp [binV, binI]; omega) (
sat_ob (by have := cut70_len body; simp [binV, binI]; omega) (
sat_leaf (rfl)))))))))))))))))
theorem runLKp33 (a : Gw.Offer) (b : Gw.Offer) (body : Str) (hl : body.length ≤ 64) (hz : (dealL (fineO a) (fineO b)).size < (body.length : Int)) : Run Tryz.prog 3 [.agg a.vs, .agg b.vs, .bool true, .agg [.int .i64 3, .int .i64 0, .int .u32 0, .str body]] (tabH kT0 kT1 kT2 3) fun v _ => v = .bool true := run_plainU mixed (show TabX Tryz.prog noPX (oxLKp33 a b body) from (((((TabX.nil.addO ans_begun).addT (ans_fine noV)).addT (ans_may (fun n => match n with | 17 => some (.bool true) | _ => none))).addT (ans_pair (fun n => match n with | 7 => some (pairRows (fineO a) (fineO b) 7) | _ => none))).addT (ans_ask (fun n => match n with | 26 => some (.bool true) | 28 => some (.bool true) | _ => none)))) tabD (dIs (by kernel_rfl)) (treeLKp33_eq a b body) (satLKp33 a b body hl hz)
def oxLKp34 (a : Gw.Offer) (b : Gw.Offer) (body : Str) : OTab := (consT 29 (gD dAsk pAskQ (fun n => match n with | 26 => some (.bool true) | 40 => some (.bool true) | _ => none)) (consT 7 (gNew kT0 kT1 kT2 dPair pPair prPair (fun n => match n with | 7 => some (pairRows (fineO a) (fineO b) 7) | _ => none)) (consT 28 (gD dOff pMayQ (fun n => match n with | 17 => some (.bool true) | _ => none)) (consT 8 (gD dOff pFine noV) (consO 5 (gTrue kT0 kT1 kT2) noOX)))))
def treeLKp34 (a : Gw.Offer) (b : Gw.Offer) (body : Str) : DT V :=
  .ob ((0 ≤ ((if (70 : Int) < ((body : Str).length : Int) then 70 else ((body : Str).length : Int)) : Int) ∧ ((if (70 : Int) < ((body : Str).length : Int) then 70 else ((body : Str).length : Int)) : Int) ≤ (((body : Str).length : Nat) : Int)) ∧ (True)) (
.ob (dOff [.agg a.vs]) (
.ob (((V.beq (.agg b.vs) (.agg b.vs)) && true) = true) (
.ob (dOff [.agg b.vs]) (
.ob (dPair [.agg (fineO a).vs, .agg (fineO b).vs] ∧ pPair [.agg (fineO a).vs, .agg (fineO b).vs] 7 = pairRows (fineO a) (fineO b) 7) (
.ob (dOff [.agg a.vs]) (
.ob (dOff [.agg (fineO a).vs]) (
.ob (pMayQ [.agg (fineO a).vs] = (.bool true)) (
.ob (dAsk [.agg [.int .i64 3, .int .i64 0, .int .u32 0, .str (cut70 body)]]) (
.ob (pAskQ [.agg [.int .i64 3, .int .i64 0, .int .u32 0, .str (cut70 body)]] = (.bool true)) (
.ob (binV .gtr (.int .i64 (((cut70 body) : Str).length : Int)) (.int .i64 (if (64 : Int) < (dealL (fineO a) (fineO b)).size then 64 else (dealL (fineO a) (fineO b)).size)) = some (.bool false)) (
.ob ((1 = 1 ∧ ([.str (cut70 body)] : List V).length = 1 * 1) ∧ allOne [.str (cut70 body)] = true ∧ 1 * 16 ≤ 70368744177664) (
.ob (((V.beq (.agg [.int .i64 3, .int .i64 0, .int .u32 0, .str (cut70 body)]) (.agg [.int .i64 3, .int .i64 0, .int .u32 0, .str (cut70 body)])) && true) = true) (
.ob (dAsk [.agg [.int .i64 3, .int .i64 0, .int .u32 0, .str (cut70 body)]]) (
.ob (pAskQ [.agg [.int .i64 3, .int .i64 0, .int .u32 0, .str (cut70 body)]] = (.bool true)) (
.ob (binV .leq (.int .i64 (((cut70 body) : Str).length : Int)) (.int .i64 64) = some (.bool true)) (
.ob (binV .leq (.int .i64 (((cut70 body) : Str).length : Int)) (.int .i64 (dealL (fineO a) (fineO b)).size) = some (.bool true)) (
.leaf (.bool true))))))))))))))))))
set_option maxRecDepth 1000000 in
theorem treeLKp34_eq (a : Gw.Offer) (b : Gw.Offer) (body : Str) : funT (mkXT (noPX) (oxLKp34 a b body)) (mkXP (noPX)) (mkX (noPX) (oxLKp34 a b body)) D (fun g => match g with | 31 => (fun k => match k with | 15 => some fun t h => (.bool false, h) | _ => none) | _ => noOrc) (fun k => match k with | 3 => [19, 48, 61, 69, 86, 90, 95, 101, 140, 152, 154, 159, 160, 163] | 9 => [8, 11, 15, 19, 23] | 11 => [10, 15, 20, 25, 30, 31, 37, 41, 50, 81] | 31 => [15] | 60 => [14] | _ => []) 12 (fun k => match k with | 101 => some fun t h => (.bool true, h) | 159 => some fun t h => (.bool true, h) | _ => none) [19, 48, 61, 69, 86, 90, 95, 101, 140, 152, 154, 159, 160, 163] (noLt) (dOf 3) [.agg a.vs, .agg b.vs, .bool true, .agg [.int .i64 3, .int .i64 0, .int .u32 0, .str body]] (tabH kT0 kT1 kT2 3) (fun v _ => v) = treeLKp34 a b body := by kernel_rfl
theorem satLKp34 (a : Gw.Offer) (b : Gw.Offer) (body : Str) (hl : body.length ≤ 64) (hz : (body.length : Int) ≤ (dealL (fineO a) (fineO b)).size) : (treeLKp34 a b body).sat fun v => v = .bool true :=
 sat_ob ⟨by split <;> omega, trivial⟩ (
sat_ob trivial (
sat_ob (by simp only [V.beq_refl, Bool.and_true]) (
sat_ob trivial (
sat_ob ⟨⟨(mayO_fine a), (mayO_fine b)⟩, rfl⟩ (
sat_ob trivial (
sat_ob trivial (
sat_ob (may_of (mayO_fine a)) (
sat_ob trivial (
sat_ob (by show V.bool (mayAsk _) = _; simp [mayAsk, cut70_len, cut70_nil]; omega) (
sat_ob (by have := cut70_len body; simp [binV, binI]; (repeat' split) <;> omega) (
sat_ob (by first | rfl | simp [V.beq, V.beqs, allOne, V.one, byteVs, binV, binI, eqV, eqCells]) (
sat_ob (by simp only [V.beq_refl, Bool.and_true]) (
sat_ob trivial (
sat_ob (by show V.bool (mayAsk _) = _; simp [mayAsk, cut70_len, cut70_nil]; omega) (
sat_ob (by have := cut70_len body; simp [binV, binI]; omega) (
sat_ob (by have := cut70_len body; simp [binV, binI]; omega) (
sat_leaf (rfl))))))))))))))))))
theorem runLKp34 (a : Gw.Offer) (b : Gw.Offer) (body : Str) (hl : body.length ≤ 64) (hz : (body.length : Int) ≤ (dealL (fineO a) (fineO b)).size) : Run Tryz.prog 3 [.agg a.vs, .agg b.vs, .bool true, .agg [.int .i64 3, .int .i64 0, .int .u32 0, .str body]] (tabH kT0 kT1 kT2 3) fun v _ => v = .bool true := run_plainU mixed (show TabX Tryz.prog noPX (oxLKp34 a b body) from (((((TabX.nil.addO ans_begun).addT (ans_fine noV)).addT (ans_may (fun n => match n with | 17 => some (.bool true) | _ => none))).addT (ans_pair (fun n => match n with | 7 => some (pairRows (fineO a) (fineO b) 7) | _ => none))).addT (ans_ask (fun n => match n with | 26 => some (.bool true) | 40 => some (.bool true) | _ => none)))) tabD (dIs (by kernel_rfl)) (treeLKp34_eq a b body) (satLKp34 a b body hl hz)
def oxLKp40 (a : Gw.Offer) (b : Gw.Offer) (n : Int) (id : Int) (body : Str) : OTab := (consT 29 (gD dAsk pAskQ (fun n => match n with | 26 => some (.bool false) | 28 => some (.bool false) | _ => none)) (consT 7 (gNew kT0 kT1 kT2 dPair pPair prPair (fun n => match n with | 7 => some (pairRows (fineO a) (fineO b) 7) | _ => none)) (consT 28 (gD dOff pMayQ (fun n => match n with | 17 => some (.bool true) | _ => none)) (consT 8 (gD dOff pFine noV) (consO 5 (gTrue kT0 kT1 kT2) noOX)))))
def treeLKp40 (a : Gw.Offer) (b : Gw.Offer) (n : Int) (id : Int) (body : Str) : DT V :=
  .ob ((0 ≤ ((if (70 : Int) < ((body : Str).length : Int) then 70 else ((body : Str).length : Int)) : Int) ∧ ((if (70 : Int) < ((body : Str).length : Int) then 70 else ((body : Str).length : Int)) : Int) ≤ (((body : Str).length : Nat) : Int)) ∧ (True)) (
.ob (dOff [.agg a.vs]) (
.ob (((V.beq (.agg b.vs) (.agg b.vs)) && true) = true) (
.ob (dOff [.agg b.vs]) (
.ob (dPair [.agg (fineO a).vs, .agg (fineO b).vs] ∧ pPair [.agg (fineO a).vs, .agg (fineO b).vs] 7 = pairRows (fineO a) (fineO b) 7) (
.ob (dOff [.agg a.vs]) (
.ob (dOff [.agg (fineO a).vs]) (
.ob (pMayQ [.agg (fineO a).vs] = (.bool true)) (
.ob (dAsk [.agg [.int .i64 4, .int .i64 n, .int .u32 id, .str (cut70 body)]]) (
.ob (pAskQ [.agg [.int .i64 4, .int .i64 n, .int .u32 id, .str (cut70 body)]] = (.bool false)) (
.ob (((V.beq (.agg [.int .i64 4, .int .i64 n, .int .u32 id, .str (cut70 body)]) (.agg [.int .i64 4, .int .i64 n, .int .u32 id, .str (cut70 body)])) && true) = true) (
.ob (dAsk [.agg [.int .i64 4, .int .i64 n, .int .u32 id, .str (cut70 body)]]) (
.ob (pAskQ [.agg [.int .i64 4, .int .i64 n, .int .u32 id, .str (cut70 body)]] = (.bool false)) (
.ob ((((id : Int) != 0) == true) = true → ((True) ∧ ((True) ∧ ((True) ∧ (True))))) (
.ob (binV .eql (.int .i64 n) (.int .i64 0) = some (.bool false)) (
.leaf (.bool true))))))))))))))))
set_option maxRecDepth 1000000 in
theorem treeLKp40_eq (a : Gw.Offer) (b : Gw.Offer) (n : Int) (id : Int) (body : Str) : funT (mkXT (noPX) (oxLKp40 a b n id body)) (mkXP (noPX)) (mkX (noPX) (oxLKp40 a b n id body)) D (fun _ => noOrc) (fun k => match k with | 3 => [19, 48, 69, 86, 107, 111, 116, 132, 135] | 9 => [8, 11, 15, 19, 23] | 11 => [10] | _ => []) 12 (fun k => match k with | 116 => some fun t h => (.bool false, h) | _ => none) [19, 48, 69, 86, 107, 111, 116, 132, 135] (noLt) (dOf 3) [.agg a.vs, .agg b.vs, .bool true, .agg [.int .i64 4, .int .i64 n, .int .u32 id, .str body]] (tabH kT0 kT1 kT2 3) (fun v _ => v) = treeLKp40 a b n id body := by kernel_rfl
theorem satLKp40 (a : Gw.Offer) (b : Gw.Offer) (n : Int) (id : Int) (body : Str) (hn : n ≠ 0) : (treeLKp40 a b n id body).sat fun v => v = .bool true :=
 sat_ob ⟨by split <;> omega, trivial⟩ (
sat_ob trivial (
sat_ob (by simp only [V.beq_refl, Bool.and_true]) (
sat_ob trivial (
sat_ob ⟨⟨(mayO_fine a), (mayO_fine b)⟩, rfl⟩ (
sat_ob trivial (
sat_ob trivial (
sat_ob (may_of (mayO_fine a)) (
sat_ob trivial (
sat_ob (by show V.bool (mayAsk _) = _; simp [mayAsk, cut70_len, cut70_nil, hn]) (
sat_ob (by simp only [V.beq_refl, Bool.and_true]) (
sat_ob trivial (
sat_ob (by show V.bool (mayAsk _) = _; simp [mayAsk, cut70_len, cut70_nil, hn]) (
sat_ob (by first | rfl | simp [V.beq, V.beqs, allOne, V.one, byteVs, binV, binI, eqV, eqCells]) (
sat_ob (by simp [binV, binI, hn]) (
sat_leaf (rfl))))))))))))))))
theorem runLKp40 (a : Gw.Offer) (b : Gw.Offer) (n : Int) (id : Int) (body : Str) (hn : n ≠ 0) : Run Tryz.prog 3 [.agg a.vs, .agg b.vs, .bool true, .agg [.int .i64 4, .int .i64 n, .int .u32 id, .str body]] (tabH kT0 kT1 kT2 3) fun v _ => v = .bool true := run_plainU mixed (show TabX Tryz.prog noPX (oxLKp40 a b n id body) from (((((TabX.nil.addO ans_begun).addT (ans_fine noV)).addT (ans_may (fun n => match n with | 17 => some (.bool true) | _ => none))).addT (ans_pair (fun n => match n with | 7 => some (pairRows (fineO a) (fineO b) 7) | _ => none))).addT (ans_ask (fun n => match n with | 26 => some (.bool false) | 28 => some (.bool false) | _ => none)))) tabD (dIs (by kernel_rfl)) (treeLKp40_eq a b n id body) (satLKp40 a b n id body hn)
def oxLKp41 (a : Gw.Offer) (b : Gw.Offer) (id : Int) (body : Str) : OTab := (consT 29 (gD dAsk pAskQ (fun n => match n with | 26 => some (.bool false) | 28 => some (.bool false) | _ => none)) (consT 7 (gNew kT0 kT1 kT2 dPair pPair prPair (fun n => match n with | 7 => some (pairRows (fineO a) (fineO b) 7) | _ => none)) (consT 28 (gD dOff pMayQ (fun n => match n with | 17 => some (.bool true) | _ => none)) (consT 8 (gD dOff pFine noV) (consO 5 (gTrue kT0 kT1 kT2) noOX)))))
def treeLKp41 (a : Gw.Offer) (b : Gw.Offer) (id : Int) (body : Str) : DT V :=
  .ob ((0 ≤ ((if (70 : Int) < ((body : Str).length : Int) then 70 else ((body : Str).length : Int)) : Int) ∧ ((if (70 : Int) < ((body : Str).length : Int) then 70 else ((body : Str).length : Int)) : Int) ≤ (((body : Str).length : Nat) : Int)) ∧ (True)) (
.ob (dOff [.agg a.vs]) (
.ob (((V.beq (.agg b.vs) (.agg b.vs)) && true) = true) (
.ob (dOff [.agg b.vs]) (
.ob (dPair [.agg (fineO a).vs, .agg (fineO b).vs] ∧ pPair [.agg (fineO a).vs, .agg (fineO b).vs] 7 = pairRows (fineO a) (fineO b) 7) (
.ob (dOff [.agg a.vs]) (
.ob (dOff [.agg (fineO a).vs]) (
.ob (pMayQ [.agg (fineO a).vs] = (.bool true)) (
.ob (dAsk [.agg [.int .i64 4, .int .i64 0, .int .u32 id, .str (cut70 body)]]) (
.ob (pAskQ [.agg [.int .i64 4, .int .i64 0, .int .u32 id, .str (cut70 body)]] = (.bool false)) (
.ob (((V.beq (.agg [.int .i64 4, .int .i64 0, .int .u32 id, .str (cut70 body)]) (.agg [.int .i64 4, .int .i64 0, .int .u32 id, .str (cut70 body)])) && true) = true) (
.ob (dAsk [.agg [.int .i64 4, .int .i64 0, .int .u32 id, .str (cut70 body)]]) (
.ob (pAskQ [.agg [.int .i64 4, .int .i64 0, .int .u32 id, .str (cut70 body)]] = (.bool false)) (
.ob (binV .neq (.int .u32 id) (.int .u32 0) = some (.bool true)) (
.ob (binV .eql (.int .u32 id) (.int .u32 0) = some (.bool false)) (
.leaf (.bool true))))))))))))))))
set_option maxRecDepth 1000000 in
theorem treeLKp41_eq (a : Gw.Offer) (b : Gw.Offer) (id : Int) (body : Str) : funT (mkXT (noPX) (oxLKp41 a b id body)) (mkXP (noPX)) (mkX (noPX) (oxLKp41 a b id body)) D (fun _ => noOrc) (fun k => match k with | 3 => [19, 48, 61, 69, 86, 107, 111, 116, 121, 132, 135] | 9 => [8, 11, 15, 19, 23] | 11 => [10] | _ => []) 12 (fun k => match k with | 61 => some fun t h => (.bool true, h) | 121 => some fun t h => (.bool false, h) | _ => none) [19, 48, 61, 69, 86, 107, 111, 116, 121, 132, 135] (noLt) (dOf 3) [.agg a.vs, .agg b.vs, .bool true, .agg [.int .i64 4, .int .i64 0, .int .u32 id, .str body]] (tabH kT0 kT1 kT2 3) (fun v _ => v) = treeLKp41 a b id body := by kernel_rfl
theorem satLKp41 (a : Gw.Offer) (b : Gw.Offer) (id : Int) (body : Str) (hi : id ≠ 0) : (treeLKp41 a b id body).sat fun v => v = .bool true :=
 sat_ob ⟨by split <;> omega, trivial⟩ (
sat_ob trivial (
sat_ob (by simp only [V.beq_refl, Bool.and_true]) (
sat_ob trivial (
sat_ob ⟨⟨(mayO_fine a), (mayO_fine b)⟩, rfl⟩ (
sat_ob trivial (
sat_ob trivial (
sat_ob (may_of (mayO_fine a)) (
sat_ob trivial (
sat_ob (by show V.bool (mayAsk _) = _; simp [mayAsk, cut70_len, cut70_nil, hi]) (
sat_ob (by simp only [V.beq_refl, Bool.and_true]) (
sat_ob trivial (
sat_ob (by show V.bool (mayAsk _) = _; simp [mayAsk, cut70_len, cut70_nil, hi]) (
sat_ob (by simp [binV, binI, hi]) (
sat_ob (by simp [binV, binI, hi]) (
sat_leaf (rfl))))))))))))))))
theorem runLKp41 (a : Gw.Offer) (b : Gw.Offer) (id : Int) (body : Str) (hi : id ≠ 0) : Run Tryz.prog 3 [.agg a.vs, .agg b.vs, .bool true, .agg [.int .i64 4, .int .i64 0, .int .u32 id, .str body]] (tabH kT0 kT1 kT2 3) fun v _ => v = .bool true := run_plainU mixed (show TabX Tryz.prog noPX (oxLKp41 a b id body) from (((((TabX.nil.addO ans_begun).addT (ans_fine noV)).addT (ans_may (fun n => match n with | 17 => some (.bool true) | _ => none))).addT (ans_pair (fun n => match n with | 7 => some (pairRows (fineO a) (fineO b) 7) | _ => none))).addT (ans_ask (fun n => match n with | 26 => some (.bool false) | 28 => some (.bool false) | _ => none)))) tabD (dIs (by kernel_rfl)) (treeLKp41_eq a b id body) (satLKp41 a b id body hi)
def oxLKp42 (a : Gw.Offer) (b : Gw.Offer) (body : Str) : OTab := (consT 29 (gD dAsk pAskQ (fun n => match n with | 26 => some (.bool false) | 28 => some (.bool false) | _ => none)) (consT 7 (gNew kT0 kT1 kT2 dPair pPair prPair (fun n => match n with | 7 => some (pairRows (fineO a) (fineO b) 7) | _ => none)) (consT 28 (gD dOff pMayQ (fun n => match n with | 17 => some (.bool true) | _ => none)) (consT 8 (gD dOff pFine noV) (consO 5 (gTrue kT0 kT1 kT2) noOX)))))
def treeLKp42 (a : Gw.Offer) (b : Gw.Offer) (body : Str) : DT V :=
  .ob ((0 ≤ ((if (70 : Int) < ((body : Str).length : Int) then 70 else ((body : Str).length : Int)) : Int) ∧ ((if (70 : Int) < ((body : Str).length : Int) then 70 else ((body : Str).length : Int)) : Int) ≤ (((body : Str).length : Nat) : Int)) ∧ (True)) (
.ob (dOff [.agg a.vs]) (
.ob (((V.beq (.agg b.vs) (.agg b.vs)) && true) = true) (
.ob (dOff [.agg b.vs]) (
.ob (dPair [.agg (fineO a).vs, .agg (fineO b).vs] ∧ pPair [.agg (fineO a).vs, .agg (fineO b).vs] 7 = pairRows (fineO a) (fineO b) 7) (
.ob (dOff [.agg a.vs]) (
.ob (dOff [.agg (fineO a).vs]) (
.ob (pMayQ [.agg (fineO a).vs] = (.bool true)) (
.ob (dAsk [.agg [.int .i64 4, .int .i64 0, .int .u32 0, .str (cut70 body)]]) (
.ob (pAskQ [.agg [.int .i64 4, .int .i64 0, .int .u32 0, .str (cut70 body)]] = (.bool false)) (
.ob (((V.beq (.agg [.int .i64 4, .int .i64 0, .int .u32 0, .str (cut70 body)]) (.agg [.int .i64 4, .int .i64 0, .int .u32 0, .str (cut70 body)])) && true) = true) (
.ob (dAsk [.agg [.int .i64 4, .int .i64 0, .int .u32 0, .str (cut70 body)]]) (
.ob (pAskQ [.agg [.int .i64 4, .int .i64 0, .int .u32 0, .str (cut70 body)]] = (.bool false)) (
.ob (binV .eql (.str (cut70 body)) (.str []) = some (.bool false)) (
.leaf (.bool true)))))))))))))))
set_option maxRecDepth 1000000 in
theorem treeLKp42_eq (a : Gw.Offer) (b : Gw.Offer) (body : Str) : funT (mkXT (noPX) (oxLKp42 a b body)) (mkXP (noPX)) (mkX (noPX) (oxLKp42 a b body)) D (fun _ => noOrc) (fun k => match k with | 3 => [19, 48, 61, 69, 86, 107, 111, 116, 121, 126, 132, 135] | 9 => [8, 11, 15, 19, 23] | 11 => [10] | _ => []) 12 (fun k => match k with | 126 => some fun t h => (.bool false, h) | _ => none) [19, 48, 61, 69, 86, 107, 111, 116, 121, 126, 132, 135] (noLt) (dOf 3) [.agg a.vs, .agg b.vs, .bool true, .agg [.int .i64 4, .int .i64 0, .int .u32 0, .str body]] (tabH kT0 kT1 kT2 3) (fun v _ => v) = treeLKp42 a b body := by kernel_rfl
theorem satLKp42 (a : Gw.Offer) (b : Gw.Offer) (body : Str) (hb : body ≠ []) : (treeLKp42 a b body).sat fun v => v = .bool true :=
 sat_ob ⟨by split <;> omega, trivial⟩ (
sat_ob trivial (
sat_ob (by simp only [V.beq_refl, Bool.and_true]) (
sat_ob trivial (
sat_ob ⟨⟨(mayO_fine a), (mayO_fine b)⟩, rfl⟩ (
sat_ob trivial (
sat_ob trivial (
sat_ob (may_of (mayO_fine a)) (
sat_ob trivial (
sat_ob (by show V.bool (mayAsk _) = _; simp [mayAsk, cut70_len, cut70_nil, hb]) (
sat_ob (by simp only [V.beq_refl, Bool.and_true]) (
sat_ob trivial (
sat_ob (by show V.bool (mayAsk _) = _; simp [mayAsk, cut70_len, cut70_nil, hb]) (
sat_ob (by simp [binV, cut70_nil, hb]) (
sat_leaf (rfl)))))))))))))))
theorem runLKp42 (a : Gw.Offer) (b : Gw.Offer) (body : Str) (hb : body ≠ []) : Run Tryz.prog 3 [.agg a.vs, .agg b.vs, .bool true, .agg [.int .i64 4, .int .i64 0, .int .u32 0, .str body]] (tabH kT0 kT1 kT2 3) fun v _ => v = .bool true := run_plainU mixed (show TabX Tryz.prog noPX (oxLKp42 a b body) from (((((TabX.nil.addO ans_begun).addT (ans_fine noV)).addT (ans_may (fun n => match n with | 17 => some (.bool true) | _ => none))).addT (ans_pair (fun n => match n with | 7 => some (pairRows (fineO a) (fineO b) 7) | _ => none))).addT (ans_ask (fun n => match n with | 26 => some (.bool false) | 28 => some (.bool false) | _ => none)))) tabD (dIs (by kernel_rfl)) (treeLKp42_eq a b body) (satLKp42 a b body hb)
def oxLKp43 (a : Gw.Offer) (b : Gw.Offer) : OTab := (consT 29 (gD dAsk pAskQ (fun n => match n with | 26 => some (.bool true) | 28 => some (.bool true) | _ => none)) (consT 7 (gNew kT0 kT1 kT2 dPair pPair prPair (fun n => match n with | 7 => some (pairRows (fineO a) (fineO b) 7) | _ => none)) (consT 28 (gD dOff pMayQ (fun n => match n with | 17 => some (.bool true) | _ => none)) (consT 8 (gD dOff pFine noV) (consO 5 (gTrue kT0 kT1 kT2) noOX)))))
def treeLKp43 (a : Gw.Offer) (b : Gw.Offer) : DT V :=
  .ob ((0 ≤ (0 : Int) ∧ (0 : Int) ≤ ((0 : Nat) : Int)) ∧ (True)) (
.ob (dOff [.agg a.vs]) (
.ob (((V.beq (.agg b.vs) (.agg b.vs)) && true) = true) (
.ob (dOff [.agg b.vs]) (
.ob (dPair [.agg (fineO a).vs, .agg (fineO b).vs] ∧ pPair [.agg (fineO a).vs, .agg (fineO b).vs] 7 = pairRows (fineO a) (fineO b) 7) (
.ob (dOff [.agg a.vs]) (
.ob (dOff [.agg (fineO a).vs]) (
.ob (pMayQ [.agg (fineO a).vs] = (.bool true)) (
.ob (dAsk [.agg [.int .i64 4, .int .i64 0, .int .u32 0, .str []]]) (
.ob (pAskQ [.agg [.int .i64 4, .int .i64 0, .int .u32 0, .str []]] = (.bool true)) (
.ob (((V.beq (.agg [.int .i64 4, .int .i64 0, .int .u32 0, .str []]) (.agg [.int .i64 4, .int .i64 0, .int .u32 0, .str []])) && true) = true) (
.ob (dAsk [.agg [.int .i64 4, .int .i64 0, .int .u32 0, .str []]]) (
.ob (pAskQ [.agg [.int .i64 4, .int .i64 0, .int .u32 0, .str []]] = (.bool true)) (
.leaf (.bool true))))))))))))))
set_option maxRecDepth 1000000 in
theorem treeLKp43_eq (a : Gw.Offer) (b : Gw.Offer) : funT (mkXT (noPX) (oxLKp43 a b)) (mkXP (noPX)) (mkX (noPX) (oxLKp43 a b)) D (fun _ => noOrc) (fun k => match k with | 3 => [19, 48, 61, 69, 86, 107, 111, 116, 121, 126, 140, 152, 166, 176, 179] | 9 => [8, 11, 15, 19, 23] | 11 => [10, 15, 20, 25, 30, 31, 37, 41, 50, 81, 90] | _ => []) 12 noOrc [19, 48, 61, 69, 86, 107, 111, 116, 121, 126, 140, 152, 166, 176, 179] (noLt) (dOf 3) [.agg a.vs, .agg b.vs, .bool true, .agg [.int .i64 4, .int .i64 0, .int .u32 0, .str []]] (tabH kT0 kT1 kT2 3) (fun v _ => v) = treeLKp43 a b := by kernel_rfl
theorem satLKp43 (a : Gw.Offer) (b : Gw.Offer)  : (treeLKp43 a b).sat fun v => v = .bool true :=
 sat_ob (by decide) (
sat_ob trivial (
sat_ob (by simp only [V.beq_refl, Bool.and_true]) (
sat_ob trivial (
sat_ob ⟨⟨(mayO_fine a), (mayO_fine b)⟩, rfl⟩ (
sat_ob trivial (
sat_ob trivial (
sat_ob (may_of (mayO_fine a)) (
sat_ob trivial (
sat_ob (by show V.bool (mayAsk _) = _; simp [mayAsk, cut70_len, cut70_nil]) (
sat_ob (by simp only [V.beq_refl, Bool.and_true]) (
sat_ob trivial (
sat_ob (by show V.bool (mayAsk _) = _; simp [mayAsk, cut70_len, cut70_nil]) (
sat_leaf (rfl))))))))))))))
theorem runLKp43 (a : Gw.Offer) (b : Gw.Offer)  : Run Tryz.prog 3 [.agg a.vs, .agg b.vs, .bool true, .agg [.int .i64 4, .int .i64 0, .int .u32 0, .str []]] (tabH kT0 kT1 kT2 3) fun v _ => v = .bool true := run_plainU mixed (show TabX Tryz.prog noPX (oxLKp43 a b) from (((((TabX.nil.addO ans_begun).addT (ans_fine noV)).addT (ans_may (fun n => match n with | 17 => some (.bool true) | _ => none))).addT (ans_pair (fun n => match n with | 7 => some (pairRows (fineO a) (fineO b) 7) | _ => none))).addT (ans_ask (fun n => match n with | 26 => some (.bool true) | 28 => some (.bool true) | _ => none)))) tabD (dIs (by kernel_rfl)) (treeLKp43_eq a b) (satLKp43 a b )
def oxLKp50 (a : Gw.Offer) (b : Gw.Offer) (n : Int) (id : Int) (body : Str) : OTab := (consT 29 (gD dAsk pAskQ (fun n => match n with | 26 => some (.bool false) | 28 => some (.bool false) | _ => none)) (consT 7 (gNew kT0 kT1 kT2 dPair pPair prPair (fun n => match n with | 7 => some (pairRows (fineO a) (fineO b) 7) | _ => none)) (consT 28 (gD dOff pMayQ (fun n => match n with | 17 => some (.bool true) | _ => none)) (consT 8 (gD dOff pFine noV) (consO 5 (gTrue kT0 kT1 kT2) noOX)))))
def treeLKp50 (a : Gw.Offer) (b : Gw.Offer) (n : Int) (id : Int) (body : Str) : DT V :=
  .ob ((0 ≤ ((if (70 : Int) < ((body : Str).length : Int) then 70 else ((body : Str).length : Int)) : Int) ∧ ((if (70 : Int) < ((body : Str).length : Int) then 70 else ((body : Str).length : Int)) : Int) ≤ (((body : Str).length : Nat) : Int)) ∧ (True)) (
.ob (dOff [.agg a.vs]) (
.ob (((V.beq (.agg b.vs) (.agg b.vs)) && true) = true) (
.ob (dOff [.agg b.vs]) (
.ob (dPair [.agg (fineO a).vs, .agg (fineO b).vs] ∧ pPair [.agg (fineO a).vs, .agg (fineO b).vs] 7 = pairRows (fineO a) (fineO b) 7) (
.ob (dOff [.agg a.vs]) (
.ob (dOff [.agg (fineO a).vs]) (
.ob (pMayQ [.agg (fineO a).vs] = (.bool true)) (
.ob (dAsk [.agg [.int .i64 5, .int .i64 n, .int .u32 id, .str (cut70 body)]]) (
.ob (pAskQ [.agg [.int .i64 5, .int .i64 n, .int .u32 id, .str (cut70 body)]] = (.bool false)) (
.ob (((V.beq (.agg [.int .i64 5, .int .i64 n, .int .u32 id, .str (cut70 body)]) (.agg [.int .i64 5, .int .i64 n, .int .u32 id, .str (cut70 body)])) && true) = true) (
.ob (dAsk [.agg [.int .i64 5, .int .i64 n, .int .u32 id, .str (cut70 body)]]) (
.ob (pAskQ [.agg [.int .i64 5, .int .i64 n, .int .u32 id, .str (cut70 body)]] = (.bool false)) (
.ob ((((id : Int) != 0) == true) = true → ((True) ∧ ((True) ∧ ((True) ∧ (True))))) (
.ob (binV .eql (.int .i64 n) (.int .i64 0) = some (.bool false)) (
.leaf (.bool true))))))))))))))))
set_option maxRecDepth 1000000 in
theorem treeLKp50_eq (a : Gw.Offer) (b : Gw.Offer) (n : Int) (id : Int) (body : Str) : funT (mkXT (noPX) (oxLKp50 a b n id body)) (mkXP (noPX)) (mkX (noPX) (oxLKp50 a b n id body)) D (fun _ => noOrc) (fun k => match k with | 3 => [19, 48, 69, 86, 107, 111, 116, 132, 135] | 9 => [8, 11, 15, 19, 23] | 11 => [10] | _ => []) 12 (fun k => match k with | 116 => some fun t h => (.bool false, h) | _ => none) [19, 48, 69, 86, 107, 111, 116, 132, 135] (noLt) (dOf 3) [.agg a.vs, .agg b.vs, .bool true, .agg [.int .i64 5, .int .i64 n, .int .u32 id, .str body]] (tabH kT0 kT1 kT2 3) (fun v _ => v) = treeLKp50 a b n id body := by kernel_rfl
theorem satLKp50 (a : Gw.Offer) (b : Gw.Offer) (n : Int) (id : Int) (body : Str) (hn : n ≠ 0) : (treeLKp50 a b n id body).sat fun v => v = .bool true :=
 sat_ob ⟨by split <;> omega, trivial⟩ (
sat_ob trivial (
sat_ob (by simp only [V.beq_refl, Bool.and_true]) (
sat_ob trivial (
sat_ob ⟨⟨(mayO_fine a), (mayO_fine b)⟩, rfl⟩ (
sat_ob trivial (
sat_ob trivial (
sat_ob (may_of (mayO_fine a)) (
sat_ob trivial (
sat_ob (by show V.bool (mayAsk _) = _; simp [mayAsk, cut70_len, cut70_nil, hn]) (
sat_ob (by simp only [V.beq_refl, Bool.and_true]) (
sat_ob trivial (
sat_ob (by show V.bool (mayAsk _) = _; simp [mayAsk, cut70_len, cut70_nil, hn]) (
sat_ob (by first | rfl | simp [V.beq, V.beqs, allOne, V.one, byteVs, binV, binI, eqV, eqCells]) (
sat_ob (by simp [binV, binI, hn]) (
sat_leaf (rfl))))))))))))))))
theorem runLKp50 (a : Gw.Offer) (b : Gw.Offer) (n : Int) (id : Int) (body : Str) (hn : n ≠ 0) : Run Tryz.prog 3 [.agg a.vs, .agg b.vs, .bool true, .agg [.int .i64 5, .int .i64 n, .int .u32 id, .str body]] (tabH kT0 kT1 kT2 3) fun v _ => v = .bool true := run_plainU mixed (show TabX Tryz.prog noPX (oxLKp50 a b n id body) from (((((TabX.nil.addO ans_begun).addT (ans_fine noV)).addT (ans_may (fun n => match n with | 17 => some (.bool true) | _ => none))).addT (ans_pair (fun n => match n with | 7 => some (pairRows (fineO a) (fineO b) 7) | _ => none))).addT (ans_ask (fun n => match n with | 26 => some (.bool false) | 28 => some (.bool false) | _ => none)))) tabD (dIs (by kernel_rfl)) (treeLKp50_eq a b n id body) (satLKp50 a b n id body hn)
def oxLKp51 (a : Gw.Offer) (b : Gw.Offer) (id : Int) (body : Str) : OTab := (consT 29 (gD dAsk pAskQ (fun n => match n with | 26 => some (.bool false) | 28 => some (.bool false) | _ => none)) (consT 7 (gNew kT0 kT1 kT2 dPair pPair prPair (fun n => match n with | 7 => some (pairRows (fineO a) (fineO b) 7) | _ => none)) (consT 28 (gD dOff pMayQ (fun n => match n with | 17 => some (.bool true) | _ => none)) (consT 8 (gD dOff pFine noV) (consO 5 (gTrue kT0 kT1 kT2) noOX)))))
def treeLKp51 (a : Gw.Offer) (b : Gw.Offer) (id : Int) (body : Str) : DT V :=
  .ob ((0 ≤ ((if (70 : Int) < ((body : Str).length : Int) then 70 else ((body : Str).length : Int)) : Int) ∧ ((if (70 : Int) < ((body : Str).length : Int) then 70 else ((body : Str).length : Int)) : Int) ≤ (((body : Str).length : Nat) : Int)) ∧ (True)) (
.ob (dOff [.agg a.vs]) (
.ob (((V.beq (.agg b.vs) (.agg b.vs)) && true) = true) (
.ob (dOff [.agg b.vs]) (
.ob (dPair [.agg (fineO a).vs, .agg (fineO b).vs] ∧ pPair [.agg (fineO a).vs, .agg (fineO b).vs] 7 = pairRows (fineO a) (fineO b) 7) (
.ob (dOff [.agg a.vs]) (
.ob (dOff [.agg (fineO a).vs]) (
.ob (pMayQ [.agg (fineO a).vs] = (.bool true)) (
.ob (dAsk [.agg [.int .i64 5, .int .i64 0, .int .u32 id, .str (cut70 body)]]) (
.ob (pAskQ [.agg [.int .i64 5, .int .i64 0, .int .u32 id, .str (cut70 body)]] = (.bool false)) (
.ob (((V.beq (.agg [.int .i64 5, .int .i64 0, .int .u32 id, .str (cut70 body)]) (.agg [.int .i64 5, .int .i64 0, .int .u32 id, .str (cut70 body)])) && true) = true) (
.ob (dAsk [.agg [.int .i64 5, .int .i64 0, .int .u32 id, .str (cut70 body)]]) (
.ob (pAskQ [.agg [.int .i64 5, .int .i64 0, .int .u32 id, .str (cut70 body)]] = (.bool false)) (
.ob (binV .neq (.int .u32 id) (.int .u32 0) = some (.bool true)) (
.ob (binV .eql (.int .u32 id) (.int .u32 0) = some (.bool false)) (
.leaf (.bool true))))))))))))))))
set_option maxRecDepth 1000000 in
theorem treeLKp51_eq (a : Gw.Offer) (b : Gw.Offer) (id : Int) (body : Str) : funT (mkXT (noPX) (oxLKp51 a b id body)) (mkXP (noPX)) (mkX (noPX) (oxLKp51 a b id body)) D (fun _ => noOrc) (fun k => match k with | 3 => [19, 48, 61, 69, 86, 107, 111, 116, 121, 132, 135] | 9 => [8, 11, 15, 19, 23] | 11 => [10] | _ => []) 12 (fun k => match k with | 61 => some fun t h => (.bool true, h) | 121 => some fun t h => (.bool false, h) | _ => none) [19, 48, 61, 69, 86, 107, 111, 116, 121, 132, 135] (noLt) (dOf 3) [.agg a.vs, .agg b.vs, .bool true, .agg [.int .i64 5, .int .i64 0, .int .u32 id, .str body]] (tabH kT0 kT1 kT2 3) (fun v _ => v) = treeLKp51 a b id body := by kernel_rfl
theorem satLKp51 (a : Gw.Offer) (b : Gw.Offer) (id : Int) (body : Str) (hi : id ≠ 0) : (treeLKp51 a b id body).sat fun v => v = .bool true :=
 sat_ob ⟨by split <;> omega, trivial⟩ (
sat_ob trivial (
sat_ob (by simp only [V.beq_refl, Bool.and_true]) (
sat_ob trivial (
sat_ob ⟨⟨(mayO_fine a), (mayO_fine b)⟩, rfl⟩ (
sat_ob trivial (
sat_ob trivial (
sat_ob (may_of (mayO_fine a)) (
sat_ob trivial (
sat_ob (by show V.bool (mayAsk _) = _; simp [mayAsk, cut70_len, cut70_nil, hi]) (
sat_ob (by simp only [V.beq_refl, Bool.and_true]) (
sat_ob trivial (
sat_ob (by show V.bool (mayAsk _) = _; simp [mayAsk, cut70_len, cut70_nil, hi]) (
sat_ob (by simp [binV, binI, hi]) (
sat_ob (by simp [binV, binI, hi]) (
sat_leaf (rfl))))))))))))))))
theorem runLKp51 (a : Gw.Offer) (b : Gw.Offer) (id : Int) (body : Str) (hi : id ≠ 0) : Run Tryz.prog 3 [.agg a.vs, .agg b.vs, .bool true, .agg [.int .i64 5, .int .i64 0, .int .u32 id, .str body]] (tabH kT0 kT1 kT2 3) fun v _ => v = .bool true := run_plainU mixed (show TabX Tryz.prog noPX (oxLKp51 a b id body) from (((((TabX.nil.addO ans_begun).addT (ans_fine noV)).addT (ans_may (fun n => match n with | 17 => some (.bool true) | _ => none))).addT (ans_pair (fun n => match n with | 7 => some (pairRows (fineO a) (fineO b) 7) | _ => none))).addT (ans_ask (fun n => match n with | 26 => some (.bool false) | 28 => some (.bool false) | _ => none)))) tabD (dIs (by kernel_rfl)) (treeLKp51_eq a b id body) (satLKp51 a b id body hi)
def oxLKp52 (a : Gw.Offer) (b : Gw.Offer) (body : Str) : OTab := (consT 29 (gD dAsk pAskQ (fun n => match n with | 26 => some (.bool false) | 28 => some (.bool false) | _ => none)) (consT 7 (gNew kT0 kT1 kT2 dPair pPair prPair (fun n => match n with | 7 => some (pairRows (fineO a) (fineO b) 7) | _ => none)) (consT 28 (gD dOff pMayQ (fun n => match n with | 17 => some (.bool true) | _ => none)) (consT 8 (gD dOff pFine noV) (consO 5 (gTrue kT0 kT1 kT2) noOX)))))
def treeLKp52 (a : Gw.Offer) (b : Gw.Offer) (body : Str) : DT V :=
  .ob ((0 ≤ ((if (70 : Int) < ((body : Str).length : Int) then 70 else ((body : Str).length : Int)) : Int) ∧ ((if (70 : Int) < ((body : Str).length : Int) then 70 else ((body : Str).length : Int)) : Int) ≤ (((body : Str).length : Nat) : Int)) ∧ (True)) (
.ob (dOff [.agg a.vs]) (
.ob (((V.beq (.agg b.vs) (.agg b.vs)) && true) = true) (
.ob (dOff [.agg b.vs]) (
.ob (dPair [.agg (fineO a).vs, .agg (fineO b).vs] ∧ pPair [.agg (fineO a).vs, .agg (fineO b).vs] 7 = pairRows (fineO a) (fineO b) 7) (
.ob (dOff [.agg a.vs]) (
.ob (dOff [.agg (fineO a).vs]) (
.ob (pMayQ [.agg (fineO a).vs] = (.bool true)) (
.ob (dAsk [.agg [.int .i64 5, .int .i64 0, .int .u32 0, .str (cut70 body)]]) (
.ob (pAskQ [.agg [.int .i64 5, .int .i64 0, .int .u32 0, .str (cut70 body)]] = (.bool false)) (
.ob (((V.beq (.agg [.int .i64 5, .int .i64 0, .int .u32 0, .str (cut70 body)]) (.agg [.int .i64 5, .int .i64 0, .int .u32 0, .str (cut70 body)])) && true) = true) (
.ob (dAsk [.agg [.int .i64 5, .int .i64 0, .int .u32 0, .str (cut70 body)]]) (
.ob (pAskQ [.agg [.int .i64 5, .int .i64 0, .int .u32 0, .str (cut70 body)]] = (.bool false)) (
.ob (binV .eql (.str (cut70 body)) (.str []) = some (.bool false)) (
.leaf (.bool true)))))))))))))))
set_option maxRecDepth 1000000 in
theorem treeLKp52_eq (a : Gw.Offer) (b : Gw.Offer) (body : Str) : funT (mkXT (noPX) (oxLKp52 a b body)) (mkXP (noPX)) (mkX (noPX) (oxLKp52 a b body)) D (fun _ => noOrc) (fun k => match k with | 3 => [19, 48, 61, 69, 86, 107, 111, 116, 121, 126, 132, 135] | 9 => [8, 11, 15, 19, 23] | 11 => [10] | _ => []) 12 (fun k => match k with | 126 => some fun t h => (.bool false, h) | _ => none) [19, 48, 61, 69, 86, 107, 111, 116, 121, 126, 132, 135] (noLt) (dOf 3) [.agg a.vs, .agg b.vs, .bool true, .agg [.int .i64 5, .int .i64 0, .int .u32 0, .str body]] (tabH kT0 kT1 kT2 3) (fun v _ => v) = treeLKp52 a b body := by kernel_rfl
theorem satLKp52 (a : Gw.Offer) (b : Gw.Offer) (body : Str) (hb : body ≠ []) : (treeLKp52 a b body).sat fun v => v = .bool true :=
 sat_ob ⟨by split <;> omega, trivial⟩ (
sat_ob trivial (
sat_ob (by simp only [V.beq_refl, Bool.and_true]) (
sat_ob trivial (
sat_ob ⟨⟨(mayO_fine a), (mayO_fine b)⟩, rfl⟩ (
sat_ob trivial (
sat_ob trivial (
sat_ob (may_of (mayO_fine a)) (
sat_ob trivial (
sat_ob (by show V.bool (mayAsk _) = _; simp [mayAsk, cut70_len, cut70_nil, hb]) (
sat_ob (by simp only [V.beq_refl, Bool.and_true]) (
sat_ob trivial (
sat_ob (by show V.bool (mayAsk _) = _; simp [mayAsk, cut70_len, cut70_nil, hb]) (
sat_ob (by simp [binV, cut70_nil, hb]) (
sat_leaf (rfl)))))))))))))))
theorem runLKp52 (a : Gw.Offer) (b : Gw.Offer) (body : Str) (hb : body ≠ []) : Run Tryz.prog 3 [.agg a.vs, .agg b.vs, .bool true, .agg [.int .i64 5, .int .i64 0, .int .u32 0, .str body]] (tabH kT0 kT1 kT2 3) fun v _ => v = .bool true := run_plainU mixed (show TabX Tryz.prog noPX (oxLKp52 a b body) from (((((TabX.nil.addO ans_begun).addT (ans_fine noV)).addT (ans_may (fun n => match n with | 17 => some (.bool true) | _ => none))).addT (ans_pair (fun n => match n with | 7 => some (pairRows (fineO a) (fineO b) 7) | _ => none))).addT (ans_ask (fun n => match n with | 26 => some (.bool false) | 28 => some (.bool false) | _ => none)))) tabD (dIs (by kernel_rfl)) (treeLKp52_eq a b body) (satLKp52 a b body hb)
def oxLKp53 (a : Gw.Offer) (b : Gw.Offer) : OTab := (consT 29 (gD dAsk pAskQ (fun n => match n with | 26 => some (.bool true) | 29 => some (.bool true) | _ => none)) (consT 7 (gNew kT0 kT1 kT2 dPair pPair prPair (fun n => match n with | 7 => some (pairRows (fineO a) (fineO b) 7) | _ => none)) (consT 28 (gD dOff pMayQ (fun n => match n with | 17 => some (.bool true) | _ => none)) (consT 8 (gD dOff pFine noV) (consO 5 (gTrue kT0 kT1 kT2) noOX)))))
def treeLKp53 (a : Gw.Offer) (b : Gw.Offer) : DT V :=
  .ob ((0 ≤ (0 : Int) ∧ (0 : Int) ≤ ((0 : Nat) : Int)) ∧ (True)) (
.ob (dOff [.agg a.vs]) (
.ob (((V.beq (.agg b.vs) (.agg b.vs)) && true) = true) (
.ob (dOff [.agg b.vs]) (
.ob (dPair [.agg (fineO a).vs, .agg (fineO b).vs] ∧ pPair [.agg (fineO a).vs, .agg (fineO b).vs] 7 = pairRows (fineO a) (fineO b) 7) (
.ob (dOff [.agg a.vs]) (
.ob (dOff [.agg (fineO a).vs]) (
.ob (pMayQ [.agg (fineO a).vs] = (.bool true)) (
.ob (dAsk [.agg [.int .i64 5, .int .i64 0, .int .u32 0, .str []]]) (
.ob (pAskQ [.agg [.int .i64 5, .int .i64 0, .int .u32 0, .str []]] = (.bool true)) (
.ob (IntKind.i64 = IntKind.i64 ∧ (250 : Int) ≠ 0) (
.ob (((V.beq (.agg [.int .i64 5, .int .i64 0, .int .u32 0, .str []]) (.agg [.int .i64 5, .int .i64 0, .int .u32 0, .str []])) && true) = true) (
.ob (dAsk [.agg [.int .i64 5, .int .i64 0, .int .u32 0, .str []]]) (
.ob (pAskQ [.agg [.int .i64 5, .int .i64 0, .int .u32 0, .str []]] = (.bool true)) (
.leaf (.bool true)))))))))))))))
set_option maxRecDepth 1000000 in
theorem treeLKp53_eq (a : Gw.Offer) (b : Gw.Offer) : funT (mkXT (noPX) (oxLKp53 a b)) (mkXP (noPX)) (mkX (noPX) (oxLKp53 a b)) D (fun _ => noOrc) (fun k => match k with | 3 => [19, 48, 61, 69, 86, 107, 111, 116, 121, 126, 140, 152, 166, 176, 179] | 9 => [8, 11, 15, 19, 23] | 11 => [10, 15, 20, 25, 30, 31, 37, 41, 50, 81, 90, 98] | 32 => [4, 9] | _ => []) 12 noOrc [19, 48, 61, 69, 86, 107, 111, 116, 121, 126, 140, 152, 166, 176, 179] (noLt) (dOf 3) [.agg a.vs, .agg b.vs, .bool true, .agg [.int .i64 5, .int .i64 0, .int .u32 0, .str []]] (tabH kT0 kT1 kT2 3) (fun v _ => v) = treeLKp53 a b := by kernel_rfl
theorem satLKp53 (a : Gw.Offer) (b : Gw.Offer)  : (treeLKp53 a b).sat fun v => v = .bool true :=
 sat_ob (by decide) (
sat_ob trivial (
sat_ob (by simp only [V.beq_refl, Bool.and_true]) (
sat_ob trivial (
sat_ob ⟨⟨(mayO_fine a), (mayO_fine b)⟩, rfl⟩ (
sat_ob trivial (
sat_ob trivial (
sat_ob (may_of (mayO_fine a)) (
sat_ob trivial (
sat_ob (by show V.bool (mayAsk _) = _; simp [mayAsk, cut70_len, cut70_nil]) (
sat_ob (by decide) (
sat_ob (by simp only [V.beq_refl, Bool.and_true]) (
sat_ob trivial (
sat_ob (by show V.bool (mayAsk _) = _; simp [mayAsk, cut70_len, cut70_nil]) (
sat_leaf (rfl)))))))))))))))
theorem runLKp53 (a : Gw.Offer) (b : Gw.Offer)  : Run Tryz.prog 3 [.agg a.vs, .agg b.vs, .bool true, .agg [.int .i64 5, .int .i64 0, .int .u32 0, .str []]] (tabH kT0 kT1 kT2 3) fun v _ => v = .bool true := run_plainU mixed (show TabX Tryz.prog noPX (oxLKp53 a b) from (((((TabX.nil.addO ans_begun).addT (ans_fine noV)).addT (ans_may (fun n => match n with | 17 => some (.bool true) | _ => none))).addT (ans_pair (fun n => match n with | 7 => some (pairRows (fineO a) (fineO b) 7) | _ => none))).addT (ans_ask (fun n => match n with | 26 => some (.bool true) | 29 => some (.bool true) | _ => none)))) tabD (dIs (by kernel_rfl)) (treeLKp53_eq a b) (satLKp53 a b )
def oxLKp60 (a : Gw.Offer) (b : Gw.Offer) (n : Int) (id : Int) (body : Str) : OTab := (consT 29 (gD dAsk pAskQ (fun n => match n with | 26 => some (.bool false) | 28 => some (.bool false) | _ => none)) (consT 7 (gNew kT0 kT1 kT2 dPair pPair prPair (fun n => match n with | 7 => some (pairRows (fineO a) (fineO b) 7) | _ => none)) (consT 28 (gD dOff pMayQ (fun n => match n with | 17 => some (.bool true) | _ => none)) (consT 8 (gD dOff pFine noV) (consO 5 (gTrue kT0 kT1 kT2) noOX)))))
def treeLKp60 (a : Gw.Offer) (b : Gw.Offer) (n : Int) (id : Int) (body : Str) : DT V :=
  .ob ((0 ≤ ((if (70 : Int) < ((body : Str).length : Int) then 70 else ((body : Str).length : Int)) : Int) ∧ ((if (70 : Int) < ((body : Str).length : Int) then 70 else ((body : Str).length : Int)) : Int) ≤ (((body : Str).length : Nat) : Int)) ∧ (True)) (
.ob (dOff [.agg a.vs]) (
.ob (((V.beq (.agg b.vs) (.agg b.vs)) && true) = true) (
.ob (dOff [.agg b.vs]) (
.ob (dPair [.agg (fineO a).vs, .agg (fineO b).vs] ∧ pPair [.agg (fineO a).vs, .agg (fineO b).vs] 7 = pairRows (fineO a) (fineO b) 7) (
.ob (dOff [.agg a.vs]) (
.ob (dOff [.agg (fineO a).vs]) (
.ob (pMayQ [.agg (fineO a).vs] = (.bool true)) (
.ob (dAsk [.agg [.int .i64 6, .int .i64 n, .int .u32 id, .str (cut70 body)]]) (
.ob (pAskQ [.agg [.int .i64 6, .int .i64 n, .int .u32 id, .str (cut70 body)]] = (.bool false)) (
.ob (((V.beq (.agg [.int .i64 6, .int .i64 n, .int .u32 id, .str (cut70 body)]) (.agg [.int .i64 6, .int .i64 n, .int .u32 id, .str (cut70 body)])) && true) = true) (
.ob (dAsk [.agg [.int .i64 6, .int .i64 n, .int .u32 id, .str (cut70 body)]]) (
.ob (pAskQ [.agg [.int .i64 6, .int .i64 n, .int .u32 id, .str (cut70 body)]] = (.bool false)) (
.ob ((((id : Int) != 0) == true) = true → ((True) ∧ ((True) ∧ ((True) ∧ (True))))) (
.ob (binV .eql (.int .i64 n) (.int .i64 0) = some (.bool false)) (
.leaf (.bool true))))))))))))))))
set_option maxRecDepth 1000000 in
theorem treeLKp60_eq (a : Gw.Offer) (b : Gw.Offer) (n : Int) (id : Int) (body : Str) : funT (mkXT (noPX) (oxLKp60 a b n id body)) (mkXP (noPX)) (mkX (noPX) (oxLKp60 a b n id body)) D (fun _ => noOrc) (fun k => match k with | 3 => [19, 48, 69, 86, 107, 111, 116, 132, 135] | 9 => [8, 11, 15, 19, 23] | 11 => [10] | _ => []) 12 (fun k => match k with | 116 => some fun t h => (.bool false, h) | _ => none) [19, 48, 69, 86, 107, 111, 116, 132, 135] (noLt) (dOf 3) [.agg a.vs, .agg b.vs, .bool true, .agg [.int .i64 6, .int .i64 n, .int .u32 id, .str body]] (tabH kT0 kT1 kT2 3) (fun v _ => v) = treeLKp60 a b n id body := by kernel_rfl
theorem satLKp60 (a : Gw.Offer) (b : Gw.Offer) (n : Int) (id : Int) (body : Str) (hn : n ≠ 0) : (treeLKp60 a b n id body).sat fun v => v = .bool true :=
 sat_ob ⟨by split <;> omega, trivial⟩ (
sat_ob trivial (
sat_ob (by simp only [V.beq_refl, Bool.and_true]) (
sat_ob trivial (
sat_ob ⟨⟨(mayO_fine a), (mayO_fine b)⟩, rfl⟩ (
sat_ob trivial (
sat_ob trivial (
sat_ob (may_of (mayO_fine a)) (
sat_ob trivial (
sat_ob (by show V.bool (mayAsk _) = _; simp [mayAsk, cut70_len, cut70_nil, hn]) (
sat_ob (by simp only [V.beq_refl, Bool.and_true]) (
sat_ob trivial (
sat_ob (by show V.bool (mayAsk _) = _; simp [mayAsk, cut70_len, cut70_nil, hn]) (
sat_ob (by first | rfl | simp [V.beq, V.beqs, allOne, V.one, byteVs, binV, binI, eqV, eqCells]) (
sat_ob (by simp [binV, binI, hn]) (
sat_leaf (rfl))))))))))))))))
theorem runLKp60 (a : Gw.Offer) (b : Gw.Offer) (n : Int) (id : Int) (body : Str) (hn : n ≠ 0) : Run Tryz.prog 3 [.agg a.vs, .agg b.vs, .bool true, .agg [.int .i64 6, .int .i64 n, .int .u32 id, .str body]] (tabH kT0 kT1 kT2 3) fun v _ => v = .bool true := run_plainU mixed (show TabX Tryz.prog noPX (oxLKp60 a b n id body) from (((((TabX.nil.addO ans_begun).addT (ans_fine noV)).addT (ans_may (fun n => match n with | 17 => some (.bool true) | _ => none))).addT (ans_pair (fun n => match n with | 7 => some (pairRows (fineO a) (fineO b) 7) | _ => none))).addT (ans_ask (fun n => match n with | 26 => some (.bool false) | 28 => some (.bool false) | _ => none)))) tabD (dIs (by kernel_rfl)) (treeLKp60_eq a b n id body) (satLKp60 a b n id body hn)
def oxLKp61 (a : Gw.Offer) (b : Gw.Offer) (id : Int) (body : Str) : OTab := (consT 29 (gD dAsk pAskQ (fun n => match n with | 26 => some (.bool false) | 28 => some (.bool false) | _ => none)) (consT 7 (gNew kT0 kT1 kT2 dPair pPair prPair (fun n => match n with | 7 => some (pairRows (fineO a) (fineO b) 7) | _ => none)) (consT 28 (gD dOff pMayQ (fun n => match n with | 17 => some (.bool true) | _ => none)) (consT 8 (gD dOff pFine noV) (consO 5 (gTrue kT0 kT1 kT2) noOX)))))
def treeLKp61 (a : Gw.Offer) (b : Gw.Offer) (id : Int) (body : Str) : DT V :=
  .ob ((0 ≤ ((if (70 : Int) < ((body : Str).length : Int) then 70 else ((body : Str).length : Int)) : Int) ∧ ((if (70 : Int) < ((body : Str).length : Int) then 70 else ((body : Str).length : Int)) : Int) ≤ (((body : Str).length : Nat) : Int)) ∧ (True)) (
.ob (dOff [.agg a.vs]) (
.ob (((V.beq (.agg b.vs) (.agg b.vs)) && true) = true) (
.ob (dOff [.agg b.vs]) (
.ob (dPair [.agg (fineO a).vs, .agg (fineO b).vs] ∧ pPair [.agg (fineO a).vs, .agg (fineO b).vs] 7 = pairRows (fineO a) (fineO b) 7) (
.ob (dOff [.agg a.vs]) (
.ob (dOff [.agg (fineO a).vs]) (
.ob (pMayQ [.agg (fineO a).vs] = (.bool true)) (
.ob (dAsk [.agg [.int .i64 6, .int .i64 0, .int .u32 id, .str (cut70 body)]]) (
.ob (pAskQ [.agg [.int .i64 6, .int .i64 0, .int .u32 id, .str (cut70 body)]] = (.bool false)) (
.ob (((V.beq (.agg [.int .i64 6, .int .i64 0, .int .u32 id, .str (cut70 body)]) (.agg [.int .i64 6, .int .i64 0, .int .u32 id, .str (cut70 body)])) && true) = true) (
.ob (dAsk [.agg [.int .i64 6, .int .i64 0, .int .u32 id, .str (cut70 body)]]) (
.ob (pAskQ [.agg [.int .i64 6, .int .i64 0, .int .u32 id, .str (cut70 body)]] = (.bool false)) (
.ob (binV .neq (.int .u32 id) (.int .u32 0) = some (.bool true)) (
.ob (binV .eql (.int .u32 id) (.int .u32 0) = some (.bool false)) (
.leaf (.bool true))))))))))))))))
set_option maxRecDepth 1000000 in
theorem treeLKp61_eq (a : Gw.Offer) (b : Gw.Offer) (id : Int) (body : Str) : funT (mkXT (noPX) (oxLKp61 a b id body)) (mkXP (noPX)) (mkX (noPX) (oxLKp61 a b id body)) D (fun _ => noOrc) (fun k => match k with | 3 => [19, 48, 61, 69, 86, 107, 111, 116, 121, 132, 135] | 9 => [8, 11, 15, 19, 23] | 11 => [10] | _ => []) 12 (fun k => match k with | 61 => some fun t h => (.bool true, h) | 121 => some fun t h => (.bool false, h) | _ => none) [19, 48, 61, 69, 86, 107, 111, 116, 121, 132, 135] (noLt) (dOf 3) [.agg a.vs, .agg b.vs, .bool true, .agg [.int .i64 6, .int .i64 0, .int .u32 id, .str body]] (tabH kT0 kT1 kT2 3) (fun v _ => v) = treeLKp61 a b id body := by kernel_rfl
theorem satLKp61 (a : Gw.Offer) (b : Gw.Offer) (id : Int) (body : Str) (hi : id ≠ 0) : (treeLKp61 a b id body).sat fun v => v = .bool true :=
 sat_ob ⟨by split <;> omega, trivial⟩ (
sat_ob trivial (
sat_ob (by simp only [V.beq_refl, Bool.and_true]) (
sat_ob trivial (
sat_ob ⟨⟨(mayO_fine a), (mayO_fine b)⟩, rfl⟩ (
sat_ob trivial (
sat_ob trivial (
sat_ob (may_of (mayO_fine a)) (
sat_ob trivial (
sat_ob (by show V.bool (mayAsk _) = _; simp [mayAsk, cut70_len, cut70_nil, hi]) (
sat_ob (by simp only [V.beq_refl, Bool.and_true]) (
sat_ob trivial (
sat_ob (by show V.bool (mayAsk _) = _; simp [mayAsk, cut70_len, cut70_nil, hi]) (
sat_ob (by simp [binV, binI, hi]) (
sat_ob (by simp [binV, binI, hi]) (
sat_leaf (rfl))))))))))))))))
theorem runLKp61 (a : Gw.Offer) (b : Gw.Offer) (id : Int) (body : Str) (hi : id ≠ 0) : Run Tryz.prog 3 [.agg a.vs, .agg b.vs, .bool true, .agg [.int .i64 6, .int .i64 0, .int .u32 id, .str body]] (tabH kT0 kT1 kT2 3) fun v _ => v = .bool true := run_plainU mixed (show TabX Tryz.prog noPX (oxLKp61 a b id body) from (((((TabX.nil.addO ans_begun).addT (ans_fine noV)).addT (ans_may (fun n => match n with | 17 => some (.bool true) | _ => none))).addT (ans_pair (fun n => match n with | 7 => some (pairRows (fineO a) (fineO b) 7) | _ => none))).addT (ans_ask (fun n => match n with | 26 => some (.bool false) | 28 => some (.bool false) | _ => none)))) tabD (dIs (by kernel_rfl)) (treeLKp61_eq a b id body) (satLKp61 a b id body hi)
def oxLKp62 (a : Gw.Offer) (b : Gw.Offer) (body : Str) : OTab := (consT 29 (gD dAsk pAskQ (fun n => match n with | 26 => some (.bool false) | 28 => some (.bool false) | _ => none)) (consT 7 (gNew kT0 kT1 kT2 dPair pPair prPair (fun n => match n with | 7 => some (pairRows (fineO a) (fineO b) 7) | _ => none)) (consT 28 (gD dOff pMayQ (fun n => match n with | 17 => some (.bool true) | _ => none)) (consT 8 (gD dOff pFine noV) (consO 5 (gTrue kT0 kT1 kT2) noOX)))))
def treeLKp62 (a : Gw.Offer) (b : Gw.Offer) (body : Str) : DT V :=
  .ob ((0 ≤ ((if (70 : Int) < ((body : Str).length : Int) then 70 else ((body : Str).length : Int)) : Int) ∧ ((if (70 : Int) < ((body : Str).length : Int) then 70 else ((body : Str).length : Int)) : Int) ≤ (((body : Str).length : Nat) : Int)) ∧ (True)) (
.ob (dOff [.agg a.vs]) (
.ob (((V.beq (.agg b.vs) (.agg b.vs)) && true) = true) (
.ob (dOff [.agg b.vs]) (
.ob (dPair [.agg (fineO a).vs, .agg (fineO b).vs] ∧ pPair [.agg (fineO a).vs, .agg (fineO b).vs] 7 = pairRows (fineO a) (fineO b) 7) (
.ob (dOff [.agg a.vs]) (
.ob (dOff [.agg (fineO a).vs]) (
.ob (pMayQ [.agg (fineO a).vs] = (.bool true)) (
.ob (dAsk [.agg [.int .i64 6, .int .i64 0, .int .u32 0, .str (cut70 body)]]) (
.ob (pAskQ [.agg [.int .i64 6, .int .i64 0, .int .u32 0, .str (cut70 body)]] = (.bool false)) (
.ob (((V.beq (.agg [.int .i64 6, .int .i64 0, .int .u32 0, .str (cut70 body)]) (.agg [.int .i64 6, .int .i64 0, .int .u32 0, .str (cut70 body)])) && true) = true) (
.ob (dAsk [.agg [.int .i64 6, .int .i64 0, .int .u32 0, .str (cut70 body)]]) (
.ob (pAskQ [.agg [.int .i64 6, .int .i64 0, .int .u32 0, .str (cut70 body)]] = (.bool false)) (
.ob (binV .eql (.str (cut70 body)) (.str []) = some (.bool false)) (
.leaf (.bool true)))))))))))))))
set_option maxRecDepth 1000000 in
theorem treeLKp62_eq (a : Gw.Offer) (b : Gw.Offer) (body : Str) : funT (mkXT (noPX) (oxLKp62 a b body)) (mkXP (noPX)) (mkX (noPX) (oxLKp62 a b body)) D (fun _ => noOrc) (fun k => match k with | 3 => [19, 48, 61, 69, 86, 107, 111, 116, 121, 126, 132, 135] | 9 => [8, 11, 15, 19, 23] | 11 => [10] | _ => []) 12 (fun k => match k with | 126 => some fun t h => (.bool false, h) | _ => none) [19, 48, 61, 69, 86, 107, 111, 116, 121, 126, 132, 135] (noLt) (dOf 3) [.agg a.vs, .agg b.vs, .bool true, .agg [.int .i64 6, .int .i64 0, .int .u32 0, .str body]] (tabH kT0 kT1 kT2 3) (fun v _ => v) = treeLKp62 a b body := by kernel_rfl
theorem satLKp62 (a : Gw.Offer) (b : Gw.Offer) (body : Str) (hb : body ≠ []) : (treeLKp62 a b body).sat fun v => v = .bool true :=
 sat_ob ⟨by split <;> omega, trivial⟩ (
sat_ob trivial (
sat_ob (by simp only [V.beq_refl, Bool.and_true]) (
sat_ob trivial (
sat_ob ⟨⟨(mayO_fine a), (mayO_fine b)⟩, rfl⟩ (
sat_ob trivial (
sat_ob trivial (
sat_ob (may_of (mayO_fine a)) (
sat_ob trivial (
sat_ob (by show V.bool (mayAsk _) = _; simp [mayAsk, cut70_len, cut70_nil, hb]) (
sat_ob (by simp only [V.beq_refl, Bool.and_true]) (
sat_ob trivial (
sat_ob (by show V.bool (mayAsk _) = _; simp [mayAsk, cut70_len, cut70_nil, hb]) (
sat_ob (by simp [binV, cut70_nil, hb]) (
sat_leaf (rfl)))))))))))))))
theorem runLKp62 (a : Gw.Offer) (b : Gw.Offer) (body : Str) (hb : body ≠ []) : Run Tryz.prog 3 [.agg a.vs, .agg b.vs, .bool true, .agg [.int .i64 6, .int .i64 0, .int .u32 0, .str body]] (tabH kT0 kT1 kT2 3) fun v _ => v = .bool true := run_plainU mixed (show TabX Tryz.prog noPX (oxLKp62 a b body) from (((((TabX.nil.addO ans_begun).addT (ans_fine noV)).addT (ans_may (fun n => match n with | 17 => some (.bool true) | _ => none))).addT (ans_pair (fun n => match n with | 7 => some (pairRows (fineO a) (fineO b) 7) | _ => none))).addT (ans_ask (fun n => match n with | 26 => some (.bool false) | 28 => some (.bool false) | _ => none)))) tabD (dIs (by kernel_rfl)) (treeLKp62_eq a b body) (satLKp62 a b body hb)
def oxLKp63 (a : Gw.Offer) (b : Gw.Offer) : OTab := (consT 29 (gD dAsk pAskQ (fun n => match n with | 26 => some (.bool true) | 28 => some (.bool true) | _ => none)) (consT 7 (gNew kT0 kT1 kT2 dPair pPair prPair (fun n => match n with | 7 => some (pairRows (fineO a) (fineO b) 7) | _ => none)) (consT 28 (gD dOff pMayQ (fun n => match n with | 17 => some (.bool true) | _ => none)) (consT 8 (gD dOff pFine noV) (consO 5 (gTrue kT0 kT1 kT2) noOX)))))
def treeLKp63 (a : Gw.Offer) (b : Gw.Offer) : DT V :=
  .ob ((0 ≤ (0 : Int) ∧ (0 : Int) ≤ ((0 : Nat) : Int)) ∧ (True)) (
.ob (dOff [.agg a.vs]) (
.ob (((V.beq (.agg b.vs) (.agg b.vs)) && true) = true) (
.ob (dOff [.agg b.vs]) (
.ob (dPair [.agg (fineO a).vs, .agg (fineO b).vs] ∧ pPair [.agg (fineO a).vs, .agg (fineO b).vs] 7 = pairRows (fineO a) (fineO b) 7) (
.ob (dOff [.agg a.vs]) (
.ob (dOff [.agg (fineO a).vs]) (
.ob (pMayQ [.agg (fineO a).vs] = (.bool true)) (
.ob (dAsk [.agg [.int .i64 6, .int .i64 0, .int .u32 0, .str []]]) (
.ob (pAskQ [.agg [.int .i64 6, .int .i64 0, .int .u32 0, .str []]] = (.bool true)) (
.ob (((V.beq (.agg [.int .i64 6, .int .i64 0, .int .u32 0, .str []]) (.agg [.int .i64 6, .int .i64 0, .int .u32 0, .str []])) && true) = true) (
.ob (dAsk [.agg [.int .i64 6, .int .i64 0, .int .u32 0, .str []]]) (
.ob (pAskQ [.agg [.int .i64 6, .int .i64 0, .int .u32 0, .str []]] = (.bool true)) (
.leaf (.bool true))))))))))))))
set_option maxRecDepth 1000000 in
theorem treeLKp63_eq (a : Gw.Offer) (b : Gw.Offer) : funT (mkXT (noPX) (oxLKp63 a b)) (mkXP (noPX)) (mkX (noPX) (oxLKp63 a b)) D (fun _ => noOrc) (fun k => match k with | 3 => [19, 48, 61, 69, 86, 107, 111, 116, 121, 126, 140, 152, 166, 168, 169, 170, 173] | 9 => [8, 11, 15, 19, 23] | 11 => [10, 15, 20, 25, 30, 31, 37, 41, 45, 50, 81, 90, 98, 102] | _ => []) 12 noOrc [19, 48, 61, 69, 86, 107, 111, 116, 121, 126, 140, 152, 166, 168, 169, 170, 173] (noLt) (dOf 3) [.agg a.vs, .agg b.vs, .bool true, .agg [.int .i64 6, .int .i64 0, .int .u32 0, .str []]] (tabH kT0 kT1 kT2 3) (fun v _ => v) = treeLKp63 a b := by kernel_rfl
theorem satLKp63 (a : Gw.Offer) (b : Gw.Offer)  : (treeLKp63 a b).sat fun v => v = .bool true :=
 sat_ob (by decide) (
sat_ob trivial (
sat_ob (by simp only [V.beq_refl, Bool.and_true]) (
sat_ob trivial (
sat_ob ⟨⟨(mayO_fine a), (mayO_fine b)⟩, rfl⟩ (
sat_ob trivial (
sat_ob trivial (
sat_ob (may_of (mayO_fine a)) (
sat_ob trivial (
sat_ob (by show V.bool (mayAsk _) = _; simp [mayAsk, cut70_len, cut70_nil]) (
sat_ob (by simp only [V.beq_refl, Bool.and_true]) (
sat_ob trivial (
sat_ob (by show V.bool (mayAsk _) = _; simp [mayAsk, cut70_len, cut70_nil]) (
sat_leaf (rfl))))))))))))))
theorem runLKp63 (a : Gw.Offer) (b : Gw.Offer)  : Run Tryz.prog 3 [.agg a.vs, .agg b.vs, .bool true, .agg [.int .i64 6, .int .i64 0, .int .u32 0, .str []]] (tabH kT0 kT1 kT2 3) fun v _ => v = .bool true := run_plainU mixed (show TabX Tryz.prog noPX (oxLKp63 a b) from (((((TabX.nil.addO ans_begun).addT (ans_fine noV)).addT (ans_may (fun n => match n with | 17 => some (.bool true) | _ => none))).addT (ans_pair (fun n => match n with | 7 => some (pairRows (fineO a) (fineO b) 7) | _ => none))).addT (ans_ask (fun n => match n with | 26 => some (.bool true) | 28 => some (.bool true) | _ => none)))) tabD (dIs (by kernel_rfl)) (treeLKp63_eq a b) (satLKp63 a b )
def oxLKp1f (a : Gw.Offer) (b : Gw.Offer) (n : Int) (id : Int) (body : Str) : OTab := (consT 29 (gD dAsk pAskQ (fun n => match n with | 26 => some (.bool false) | 28 => some (.bool false) | _ => none)) (consT 7 (gNew kT0 kT1 kT2 dPair pPair prPair (fun n => match n with | 7 => some (pairRows (fineO a) (fineO b) 7) | _ => none)) (consT 28 (gD dOff pMayQ (fun n => match n with | 17 => some (.bool true) | _ => none)) (consT 8 (gD dOff pFine noV) (consO 5 (gTrue kT0 kT1 kT2) noOX)))))
def treeLKp1f (a : Gw.Offer) (b : Gw.Offer) (n : Int) (id : Int) (body : Str) : DT V :=
  .ob ((0 ≤ ((if (70 : Int) < ((body : Str).length : Int) then 70 else ((body : Str).length : Int)) : Int) ∧ ((if (70 : Int) < ((body : Str).length : Int) then 70 else ((body : Str).length : Int)) : Int) ≤ (((body : Str).length : Nat) : Int)) ∧ (True)) (
.ob (dOff [.agg a.vs]) (
.ob (((V.beq (.agg b.vs) (.agg b.vs)) && true) = true) (
.ob (dOff [.agg b.vs]) (
.ob (dPair [.agg (fineO a).vs, .agg (fineO b).vs] ∧ pPair [.agg (fineO a).vs, .agg (fineO b).vs] 7 = pairRows (fineO a) (fineO b) 7) (
.ob (dOff [.agg a.vs]) (
.ob (dOff [.agg (fineO a).vs]) (
.ob (pMayQ [.agg (fineO a).vs] = (.bool true)) (
.ob (dAsk [.agg [.int .i64 1, .int .i64 n, .int .u32 id, .str (cut70 body)]]) (
.ob (pAskQ [.agg [.int .i64 1, .int .i64 n, .int .u32 id, .str (cut70 body)]] = (.bool false)) (
.ob (((V.beq (.agg [.int .i64 1, .int .i64 n, .int .u32 id, .str (cut70 body)]) (.agg [.int .i64 1, .int .i64 n, .int .u32 id, .str (cut70 body)])) && true) = true) (
.ob (dAsk [.agg [.int .i64 1, .int .i64 n, .int .u32 id, .str (cut70 body)]]) (
.ob (pAskQ [.agg [.int .i64 1, .int .i64 n, .int .u32 id, .str (cut70 body)]] = (.bool false)) (
.ob ((((id : Int) != 0) == true) = true → ((True) ∧ ((True) ∧ ((True) ∧ (True))))) (
.leaf (.bool true)))))))))))))))
set_option maxRecDepth 1000000 in
theorem treeLKp1f_eq (a : Gw.Offer) (b : Gw.Offer) (n : Int) (id : Int) (body : Str) : funT (mkXT (noPX) (oxLKp1f a b n id body)) (mkXP (noPX)) (mkX (noPX) (oxLKp1f a b n id body)) D (fun _ => noOrc) (fun k => match k with | 3 => [19, 48, 69, 86, 107, 132, 135] | 9 => [8, 11, 15, 19, 23] | 11 => [10] | _ => []) 12 noOrc [19, 48, 69, 86, 107, 132, 135] (noLt) (dOf 3) [.agg a.vs, .agg b.vs, .bool true, .agg [.int .i64 1, .int .i64 n, .int .u32 id, .str body]] (tabH kT0 kT1 kT2 3) (fun v _ => v) = treeLKp1f a b n id body := by kernel_rfl
theorem satLKp1f (a : Gw.Offer) (b : Gw.Offer) (n : Int) (id : Int) (body : Str) (hm : mayAsk ⟨1, n, id, cut70 body⟩ = false) : (treeLKp1f a b n id body).sat fun v => v = .bool true :=
 sat_ob ⟨by split <;> omega, trivial⟩ (
sat_ob trivial (
sat_ob (by simp only [V.beq_refl, Bool.and_true]) (
sat_ob trivial (
sat_ob ⟨⟨(mayO_fine a), (mayO_fine b)⟩, rfl⟩ (
sat_ob trivial (
sat_ob trivial (
sat_ob (may_of (mayO_fine a)) (
sat_ob trivial (
sat_ob (by show V.bool _ = _; rw [hm]) (
sat_ob (by simp only [V.beq_refl, Bool.and_true]) (
sat_ob trivial (
sat_ob (by show V.bool _ = _; rw [hm]) (
sat_ob (by first | rfl | simp [V.beq, V.beqs, allOne, V.one, byteVs, binV, binI, eqV, eqCells]) (
sat_leaf (rfl)))))))))))))))
theorem runLKp1f (a : Gw.Offer) (b : Gw.Offer) (n : Int) (id : Int) (body : Str) (hm : mayAsk ⟨1, n, id, cut70 body⟩ = false) : Run Tryz.prog 3 [.agg a.vs, .agg b.vs, .bool true, .agg [.int .i64 1, .int .i64 n, .int .u32 id, .str body]] (tabH kT0 kT1 kT2 3) fun v _ => v = .bool true := run_plainU mixed (show TabX Tryz.prog noPX (oxLKp1f a b n id body) from (((((TabX.nil.addO ans_begun).addT (ans_fine noV)).addT (ans_may (fun n => match n with | 17 => some (.bool true) | _ => none))).addT (ans_pair (fun n => match n with | 7 => some (pairRows (fineO a) (fineO b) 7) | _ => none))).addT (ans_ask (fun n => match n with | 26 => some (.bool false) | 28 => some (.bool false) | _ => none)))) tabD (dIs (by kernel_rfl)) (treeLKp1f_eq a b n id body) (satLKp1f a b n id body hm)
def oxLKp7f (a : Gw.Offer) (b : Gw.Offer) (n : Int) (id : Int) (body : Str) : OTab := (consT 29 (gD dAsk pAskQ (fun n => match n with | 26 => some (.bool false) | 28 => some (.bool false) | _ => none)) (consT 7 (gNew kT0 kT1 kT2 dPair pPair prPair (fun n => match n with | 7 => some (pairRows (fineO a) (fineO b) 7) | _ => none)) (consT 28 (gD dOff pMayQ (fun n => match n with | 17 => some (.bool true) | _ => none)) (consT 8 (gD dOff pFine noV) (consO 5 (gTrue kT0 kT1 kT2) noOX)))))
def treeLKp7f (a : Gw.Offer) (b : Gw.Offer) (n : Int) (id : Int) (body : Str) : DT V :=
  .ob ((0 ≤ ((if (70 : Int) < ((body : Str).length : Int) then 70 else ((body : Str).length : Int)) : Int) ∧ ((if (70 : Int) < ((body : Str).length : Int) then 70 else ((body : Str).length : Int)) : Int) ≤ (((body : Str).length : Nat) : Int)) ∧ (True)) (
.ob (dOff [.agg a.vs]) (
.ob (((V.beq (.agg b.vs) (.agg b.vs)) && true) = true) (
.ob (dOff [.agg b.vs]) (
.ob (dPair [.agg (fineO a).vs, .agg (fineO b).vs] ∧ pPair [.agg (fineO a).vs, .agg (fineO b).vs] 7 = pairRows (fineO a) (fineO b) 7) (
.ob (dOff [.agg a.vs]) (
.ob (dOff [.agg (fineO a).vs]) (
.ob (pMayQ [.agg (fineO a).vs] = (.bool true)) (
.ob (dAsk [.agg [.int .i64 7, .int .i64 n, .int .u32 id, .str (cut70 body)]]) (
.ob (pAskQ [.agg [.int .i64 7, .int .i64 n, .int .u32 id, .str (cut70 body)]] = (.bool false)) (
.ob (((V.beq (.agg [.int .i64 7, .int .i64 n, .int .u32 id, .str (cut70 body)]) (.agg [.int .i64 7, .int .i64 n, .int .u32 id, .str (cut70 body)])) && true) = true) (
.ob (dAsk [.agg [.int .i64 7, .int .i64 n, .int .u32 id, .str (cut70 body)]]) (
.ob (pAskQ [.agg [.int .i64 7, .int .i64 n, .int .u32 id, .str (cut70 body)]] = (.bool false)) (
.ob ((((id : Int) != 0) == true) = true → ((True) ∧ ((True) ∧ ((True) ∧ (True))))) (
.leaf (.bool true)))))))))))))))
set_option maxRecDepth 1000000 in
theorem treeLKp7f_eq (a : Gw.Offer) (b : Gw.Offer) (n : Int) (id : Int) (body : Str) : funT (mkXT (noPX) (oxLKp7f a b n id body)) (mkXP (noPX)) (mkX (noPX) (oxLKp7f a b n id body)) D (fun _ => noOrc) (fun k => match k with | 3 => [19, 48, 69, 86, 107, 111, 132, 135] | 9 => [8, 11, 15, 19, 23] | 11 => [10] | _ => []) 12 noOrc [19, 48, 69, 86, 107, 111, 132, 135] (noLt) (dOf 3) [.agg a.vs, .agg b.vs, .bool true, .agg [.int .i64 7, .int .i64 n, .int .u32 id, .str body]] (tabH kT0 kT1 kT2 3) (fun v _ => v) = treeLKp7f a b n id body := by kernel_rfl
theorem satLKp7f (a : Gw.Offer) (b : Gw.Offer) (n : Int) (id : Int) (body : Str) (hm : mayAsk ⟨7, n, id, cut70 body⟩ = false) : (treeLKp7f a b n id body).sat fun v => v = .bool true :=
 sat_ob ⟨by split <;> omega, trivial⟩ (
sat_ob trivial (
sat_ob (by simp only [V.beq_refl, Bool.and_true]) (
sat_ob trivial (
sat_ob ⟨⟨(mayO_fine a), (mayO_fine b)⟩, rfl⟩ (
sat_ob trivial (
sat_ob trivial (
sat_ob (may_of (mayO_fine a)) (
sat_ob trivial (
sat_ob (by show V.bool _ = _; rw [hm]) (
sat_ob (by simp only [V.beq_refl, Bool.and_true]) (
sat_ob trivial (
sat_ob (by show V.bool _ = _; rw [hm]) (
sat_ob (by first | rfl | simp [V.beq, V.beqs, allOne, V.one, byteVs, binV, binI, eqV, eqCells]) (
sat_leaf (rfl)))))))))))))))
theorem runLKp7f (a : Gw.Offer) (b : Gw.Offer) (n : Int) (id : Int) (body : Str) (hm : mayAsk ⟨7, n, id, cut70 body⟩ = false) : Run Tryz.prog 3 [.agg a.vs, .agg b.vs, .bool true, .agg [.int .i64 7, .int .i64 n, .int .u32 id, .str body]] (tabH kT0 kT1 kT2 3) fun v _ => v = .bool true := run_plainU mixed (show TabX Tryz.prog noPX (oxLKp7f a b n id body) from (((((TabX.nil.addO ans_begun).addT (ans_fine noV)).addT (ans_may (fun n => match n with | 17 => some (.bool true) | _ => none))).addT (ans_pair (fun n => match n with | 7 => some (pairRows (fineO a) (fineO b) 7) | _ => none))).addT (ans_ask (fun n => match n with | 26 => some (.bool false) | 28 => some (.bool false) | _ => none)))) tabD (dIs (by kernel_rfl)) (treeLKp7f_eq a b n id body) (satLKp7f a b n id body hm)
def oxLKp1t (a : Gw.Offer) (b : Gw.Offer) (n : Int) : OTab := (consT 29 (gD dAsk pAskQ (fun n => match n with | 26 => some (.bool true) | 28 => some (.bool true) | _ => none)) (consT 7 (gNew kT0 kT1 kT2 dPair pPair prPair (fun n => match n with | 7 => some (pairRows (fineO a) (fineO b) 7) | _ => none)) (consT 28 (gD dOff pMayQ (fun n => match n with | 17 => some (.bool true) | _ => none)) (consT 8 (gD dOff pFine noV) (consO 5 (gTrue kT0 kT1 kT2) noOX)))))
def treeLKp1t (a : Gw.Offer) (b : Gw.Offer) (n : Int) : DT V :=
  .ob ((0 ≤ (0 : Int) ∧ (0 : Int) ≤ ((0 : Nat) : Int)) ∧ (True)) (
.ob (dOff [.agg a.vs]) (
.ob (((V.beq (.agg b.vs) (.agg b.vs)) && true) = true) (
.ob (dOff [.agg b.vs]) (
.ob (dPair [.agg (fineO a).vs, .agg (fineO b).vs] ∧ pPair [.agg (fineO a).vs, .agg (fineO b).vs] 7 = pairRows (fineO a) (fineO b) 7) (
.ob (dOff [.agg a.vs]) (
.ob (dOff [.agg (fineO a).vs]) (
.ob (pMayQ [.agg (fineO a).vs] = (.bool true)) (
.ob (dAsk [.agg [.int .i64 1, .int .i64 n, .int .u32 0, .str []]]) (
.ob (pAskQ [.agg [.int .i64 1, .int .i64 n, .int .u32 0, .str []]] = (.bool true)) (
.ob (((V.beq (.agg [.int .i64 1, .int .i64 n, .int .u32 0, .str []]) (.agg [.int .i64 1, .int .i64 n, .int .u32 0, .str []])) && true) = true) (
.ob (dAsk [.agg [.int .i64 1, .int .i64 n, .int .u32 0, .str []]]) (
.ob (pAskQ [.agg [.int .i64 1, .int .i64 n, .int .u32 0, .str []]] = (.bool true)) (
.leaf (.bool true))))))))))))))
set_option maxRecDepth 1000000 in
theorem treeLKp1t_eq (a : Gw.Offer) (b : Gw.Offer) (n : Int) : funT (mkXT (noPX) (oxLKp1t a b n)) (mkXP (noPX)) (mkX (noPX) (oxLKp1t a b n)) D (fun _ => noOrc) (fun k => match k with | 3 => [19, 48, 61, 69, 86, 107, 132, 135] | 9 => [8, 11, 15, 19, 23] | 11 => [10, 15] | _ => []) 12 noOrc [19, 48, 61, 69, 86, 107, 132, 135] (noLt) (dOf 3) [.agg a.vs, .agg b.vs, .bool true, .agg [.int .i64 1, .int .i64 n, .int .u32 0, .str []]] (tabH kT0 kT1 kT2 3) (fun v _ => v) = treeLKp1t a b n := by kernel_rfl
theorem satLKp1t (a : Gw.Offer) (b : Gw.Offer) (n : Int) (hn : n = 1 ∨ n = 6 ∨ n = 8) : (treeLKp1t a b n).sat fun v => v = .bool true :=
 sat_ob (by decide) (
sat_ob trivial (
sat_ob (by simp only [V.beq_refl, Bool.and_true]) (
sat_ob trivial (
sat_ob ⟨⟨(mayO_fine a), (mayO_fine b)⟩, rfl⟩ (
sat_ob trivial (
sat_ob trivial (
sat_ob (may_of (mayO_fine a)) (
sat_ob trivial (
sat_ob (by rcases hn with rfl | rfl | rfl <;> rfl) (
sat_ob (by simp only [V.beq_refl, Bool.and_true]) (
sat_ob trivial (
sat_ob (by rcases hn with rfl | rfl | rfl <;> rfl) (
sat_leaf (rfl))))))))))))))
theorem runLKp1t (a : Gw.Offer) (b : Gw.Offer) (n : Int) (hn : n = 1 ∨ n = 6 ∨ n = 8) : Run Tryz.prog 3 [.agg a.vs, .agg b.vs, .bool true, .agg [.int .i64 1, .int .i64 n, .int .u32 0, .str []]] (tabH kT0 kT1 kT2 3) fun v _ => v = .bool true := run_plainU mixed (show TabX Tryz.prog noPX (oxLKp1t a b n) from (((((TabX.nil.addO ans_begun).addT (ans_fine noV)).addT (ans_may (fun n => match n with | 17 => some (.bool true) | _ => none))).addT (ans_pair (fun n => match n with | 7 => some (pairRows (fineO a) (fineO b) 7) | _ => none))).addT (ans_ask (fun n => match n with | 26 => some (.bool true) | 28 => some (.bool true) | _ => none)))) tabD (dIs (by kernel_rfl)) (treeLKp1t_eq a b n) (satLKp1t a b n hn)
def oxLKp7t (a : Gw.Offer) (b : Gw.Offer) (id : Int) : OTab := (consT 29 (gD dAsk pAskQ (fun n => match n with | 26 => some (.bool true) | 28 => some (.bool true) | _ => none)) (consT 7 (gNew kT0 kT1 kT2 dPair pPair prPair (fun n => match n with | 7 => some (pairRows (fineO a) (fineO b) 7) | _ => none)) (consT 28 (gD dOff pMayQ (fun n => match n with | 17 => some (.bool true) | _ => none)) (consT 8 (gD dOff pFine noV) (consO 5 (gTrue kT0 kT1 kT2) noOX)))))
def treeLKp7t (a : Gw.Offer) (b : Gw.Offer) (id : Int) : DT V :=
  .ob ((0 ≤ (0 : Int) ∧ (0 : Int) ≤ ((0 : Nat) : Int)) ∧ (True)) (
.ob (dOff [.agg a.vs]) (
.ob (((V.beq (.agg b.vs) (.agg b.vs)) && true) = true) (
.ob (dOff [.agg b.vs]) (
.ob (dPair [.agg (fineO a).vs, .agg (fineO b).vs] ∧ pPair [.agg (fineO a).vs, .agg (fineO b).vs] 7 = pairRows (fineO a) (fineO b) 7) (
.ob (dOff [.agg a.vs]) (
.ob (dOff [.agg (fineO a).vs]) (
.ob (pMayQ [.agg (fineO a).vs] = (.bool true)) (
.ob (dAsk [.agg [.int .i64 7, .int .i64 0, .int .u32 id, .str []]]) (
.ob (pAskQ [.agg [.int .i64 7, .int .i64 0, .int .u32 id, .str []]] = (.bool true)) (
.ob (((V.beq (.agg [.int .i64 7, .int .i64 0, .int .u32 id, .str []]) (.agg [.int .i64 7, .int .i64 0, .int .u32 id, .str []])) && true) = true) (
.ob (dAsk [.agg [.int .i64 7, .int .i64 0, .int .u32 id, .str []]]) (
.ob (pAskQ [.agg [.int .i64 7, .int .i64 0, .int .u32 id, .str []]] = (.bool true)) (
.ob (binV .neq (.int .u32 id) (.int .u32 0) = some (.bool true)) (
.ob (binV .neq (.int .u32 id) (.int .u32 4294967295) = some (.bool true)) (
.leaf (.bool true))))))))))))))))
set_option maxRecDepth 1000000 in
theorem treeLKp7t_eq (a : Gw.Offer) (b : Gw.Offer) (id : Int) : funT (mkXT (noPX) (oxLKp7t a b id)) (mkXP (noPX)) (mkX (noPX) (oxLKp7t a b id)) D (fun _ => noOrc) (fun k => match k with | 3 => [19, 48, 61, 65, 69, 86, 107, 111, 132, 135] | 9 => [8, 11, 15, 19, 23] | 11 => [10, 15, 20] | _ => []) 12 (fun k => match k with | 61 => some fun t h => (.bool true, h) | 65 => some fun t h => (.bool true, h) | _ => none) [19, 48, 61, 65, 69, 86, 107, 111, 132, 135] (noLt) (dOf 3) [.agg a.vs, .agg b.vs, .bool true, .agg [.int .i64 7, .int .i64 0, .int .u32 id, .str []]] (tabH kT0 kT1 kT2 3) (fun v _ => v) = treeLKp7t a b id := by kernel_rfl
theorem satLKp7t (a : Gw.Offer) (b : Gw.Offer) (id : Int) (hi0 : id ≠ 0) (hi1 : id ≠ 4294967295) : (treeLKp7t a b id).sat fun v => v = .bool true :=
 sat_ob (by decide) (
sat_ob trivial (
sat_ob (by simp only [V.beq_refl, Bool.and_true]) (
sat_ob trivial (
sat_ob ⟨⟨(mayO_fine a), (mayO_fine b)⟩, rfl⟩ (
sat_ob trivial (
sat_ob trivial (
sat_ob (may_of (mayO_fine a)) (
sat_ob trivial (
sat_ob (by show V.bool (mayAsk _) = _; simp [mayAsk, cut70_len, cut70_nil, hi0, hi1]) (
sat_ob (by simp only [V.beq_refl, Bool.and_true]) (
sat_ob trivial (
sat_ob (by show V.bool (mayAsk _) = _; simp [mayAsk, cut70_len, cut70_nil, hi0, hi1]) (
sat_ob (by simp [binV, binI, hi0, hi1]) (
sat_ob (by simp [binV, binI, hi0, hi1]) (
sat_leaf (rfl))))))))))))))))
theorem runLKp7t (a : Gw.Offer) (b : Gw.Offer) (id : Int) (hi0 : id ≠ 0) (hi1 : id ≠ 4294967295) : Run Tryz.prog 3 [.agg a.vs, .agg b.vs, .bool true, .agg [.int .i64 7, .int .i64 0, .int .u32 id, .str []]] (tabH kT0 kT1 kT2 3) fun v _ => v = .bool true := run_plainU mixed (show TabX Tryz.prog noPX (oxLKp7t a b id) from (((((TabX.nil.addO ans_begun).addT (ans_fine noV)).addT (ans_may (fun n => match n with | 17 => some (.bool true) | _ => none))).addT (ans_pair (fun n => match n with | 7 => some (pairRows (fineO a) (fineO b) 7) | _ => none))).addT (ans_ask (fun n => match n with | 26 => some (.bool true) | 28 => some (.bool true) | _ => none)))) tabD (dIs (by kernel_rfl)) (treeLKp7t_eq a b id) (satLKp7t a b id hi0 hi1)
def oxLKpx0 (a : Gw.Offer) (b : Gw.Offer) (kind : Int) (n : Int) (id : Int) (body : Str) : OTab := (consT 29 (gD dAsk pAskQ (fun n => match n with | 26 => some (.bool false) | 28 => some (.bool false) | _ => none)) (consT 7 (gNew kT0 kT1 kT2 dPair pPair prPair (fun n => match n with | 7 => some (pairRows (fineO a) (fineO b) 7) | _ => none)) (consT 28 (gD dOff pMayQ (fun n => match n with | 17 => some (.bool true) | _ => none)) (consT 8 (gD dOff pFine noV) (consO 5 (gTrue kT0 kT1 kT2) noOX)))))
def treeLKpx0 (a : Gw.Offer) (b : Gw.Offer) (kind : Int) (n : Int) (id : Int) (body : Str) : DT V :=
  .ob ((0 ≤ ((if (70 : Int) < ((body : Str).length : Int) then 70 else ((body : Str).length : Int)) : Int) ∧ ((if (70 : Int) < ((body : Str).length : Int) then 70 else ((body : Str).length : Int)) : Int) ≤ (((body : Str).length : Nat) : Int)) ∧ (True)) (
.ob (dOff [.agg a.vs]) (
.ob (((V.beq (.agg b.vs) (.agg b.vs)) && true) = true) (
.ob (dOff [.agg b.vs]) (
.ob (dPair [.agg (fineO a).vs, .agg (fineO b).vs] ∧ pPair [.agg (fineO a).vs, .agg (fineO b).vs] 7 = pairRows (fineO a) (fineO b) 7) (
.ob (dOff [.agg a.vs]) (
.ob (dOff [.agg (fineO a).vs]) (
.ob (pMayQ [.agg (fineO a).vs] = (.bool true)) (
.ob (dAsk [.agg [.int .i64 kind, .int .i64 n, .int .u32 id, .str (cut70 body)]]) (
.ob (pAskQ [.agg [.int .i64 kind, .int .i64 n, .int .u32 id, .str (cut70 body)]] = (.bool false)) (
.ob (((V.beq (.agg [.int .i64 kind, .int .i64 n, .int .u32 id, .str (cut70 body)]) (.agg [.int .i64 kind, .int .i64 n, .int .u32 id, .str (cut70 body)])) && true) = true) (
.ob (dAsk [.agg [.int .i64 kind, .int .i64 n, .int .u32 id, .str (cut70 body)]]) (
.ob (pAskQ [.agg [.int .i64 kind, .int .i64 n, .int .u32 id, .str (cut70 body)]] = (.bool false)) (
.ob ((((id : Int) != 0) == true) = true → ((True) ∧ ((True) ∧ ((True) ∧ (True))))) (
.ob (binV .eql (.int .i64 kind) (.int .i64 2) = some (.bool false)) (
.ob (binV .eql (.int .i64 kind) (.int .i64 3) = some (.bool false)) (
.ob (binV .geq (.int .i64 kind) (.int .i64 4) = some (.bool false)) (
.leaf (.bool true))))))))))))))))))
set_option maxRecDepth 1000000 in
theorem treeLKpx0_eq (a : Gw.Offer) (b : Gw.Offer) (kind : Int) (n : Int) (id : Int) (body : Str) : funT (mkXT (noPX) (oxLKpx0 a b kind n id body)) (mkXP (noPX)) (mkX (noPX) (oxLKpx0 a b kind n id body)) D (fun _ => noOrc) (fun k => match k with | 3 => [19, 48, 69, 86, 107, 132, 135] | 9 => [8, 11, 15, 19, 23] | 11 => [10] | _ => []) 12 (fun k => match k with | 69 => some fun t h => (.bool false, h) | 86 => some fun t h => (.bool false, h) | 107 => some fun t h => (.bool false, h) | _ => none) [19, 48, 69, 86, 107, 132, 135] (noLt) (dOf 3) [.agg a.vs, .agg b.vs, .bool true, .agg [.int .i64 kind, .int .i64 n, .int .u32 id, .str body]] (tabH kT0 kT1 kT2 3) (fun v _ => v) = treeLKpx0 a b kind n id body := by kernel_rfl
theorem satLKpx0 (a : Gw.Offer) (b : Gw.Offer) (kind : Int) (n : Int) (id : Int) (body : Str) (hk : kind < 1) : (treeLKpx0 a b kind n id body).sat fun v => v = .bool true :=
 sat_ob ⟨by split <;> omega, trivial⟩ (
sat_ob trivial (
sat_ob (by simp only [V.beq_refl, Bool.and_true]) (
sat_ob trivial (
sat_ob ⟨⟨(mayO_fine a), (mayO_fine b)⟩, rfl⟩ (
sat_ob trivial (
sat_ob trivial (
sat_ob (may_of (mayO_fine a)) (
sat_ob trivial (
sat_ob (by show V.bool (mayAsk _) = _; simp [mayAsk, cut70_len, cut70_nil, show ¬ kind = 1 by omega, show ¬ kind = 2 by omega, show ¬ kind = 3 by omega, show ¬ kind = 4 by omega, show ¬ kind = 5 by omega, show ¬ kind = 6 by omega, show ¬ kind = 7 by omega]) (
sat_ob (by simp only [V.beq_refl, Bool.and_true]) (
sat_ob trivial (
sat_ob (by show V.bool (mayAsk _) = _; simp [mayAsk, cut70_len, cut70_nil, show ¬ kind = 1 by omega, show ¬ kind = 2 by omega, show ¬ kind = 3 by omega, show ¬ kind = 4 by omega, show ¬ kind = 5 by omega, show ¬ kind = 6 by omega, show ¬ kind = 7 by omega]) (
sat_ob (by first | rfl | simp [V.beq, V.beqs, allOne, V.one, byteVs, binV, binI, eqV, eqCells]) (
sat_ob (by simp [binV, binI]; omega) (
sat_ob (by simp [binV, binI]; omega) (
sat_ob (by simp [binV, binI]; omega) (
sat_leaf (rfl))))))))))))))))))
theorem runLKpx0 (a : Gw.Offer) (b : Gw.Offer) (kind : Int) (n : Int) (id : Int) (body : Str) (hk : kind < 1) : Run Tryz.prog 3 [.agg a.vs, .agg b.vs, .bool true, .agg [.int .i64 kind, .int .i64 n, .int .u32 id, .str body]] (tabH kT0 kT1 kT2 3) fun v _ => v = .bool true := run_plainU mixed (show TabX Tryz.prog noPX (oxLKpx0 a b kind n id body) from (((((TabX.nil.addO ans_begun).addT (ans_fine noV)).addT (ans_may (fun n => match n with | 17 => some (.bool true) | _ => none))).addT (ans_pair (fun n => match n with | 7 => some (pairRows (fineO a) (fineO b) 7) | _ => none))).addT (ans_ask (fun n => match n with | 26 => some (.bool false) | 28 => some (.bool false) | _ => none)))) tabD (dIs (by kernel_rfl)) (treeLKpx0_eq a b kind n id body) (satLKpx0 a b kind n id body hk)
def oxLKpx8 (a : Gw.Offer) (b : Gw.Offer) (kind : Int) (n : Int) (id : Int) (body : Str) : OTab := (consT 29 (gD dAsk pAskQ (fun n => match n with | 26 => some (.bool false) | 28 => some (.bool false) | _ => none)) (consT 7 (gNew kT0 kT1 kT2 dPair pPair prPair (fun n => match n with | 7 => some (pairRows (fineO a) (fineO b) 7) | _ => none)) (consT 28 (gD dOff pMayQ (fun n => match n with | 17 => some (.bool true) | _ => none)) (consT 8 (gD dOff pFine noV) (consO 5 (gTrue kT0 kT1 kT2) noOX)))))
def treeLKpx8 (a : Gw.Offer) (b : Gw.Offer) (kind : Int) (n : Int) (id : Int) (body : Str) : DT V :=
  .ob ((0 ≤ ((if (70 : Int) < ((body : Str).length : Int) then 70 else ((body : Str).length : Int)) : Int) ∧ ((if (70 : Int) < ((body : Str).length : Int) then 70 else ((body : Str).length : Int)) : Int) ≤ (((body : Str).length : Nat) : Int)) ∧ (True)) (
.ob (dOff [.agg a.vs]) (
.ob (((V.beq (.agg b.vs) (.agg b.vs)) && true) = true) (
.ob (dOff [.agg b.vs]) (
.ob (dPair [.agg (fineO a).vs, .agg (fineO b).vs] ∧ pPair [.agg (fineO a).vs, .agg (fineO b).vs] 7 = pairRows (fineO a) (fineO b) 7) (
.ob (dOff [.agg a.vs]) (
.ob (dOff [.agg (fineO a).vs]) (
.ob (pMayQ [.agg (fineO a).vs] = (.bool true)) (
.ob (dAsk [.agg [.int .i64 kind, .int .i64 n, .int .u32 id, .str (cut70 body)]]) (
.ob (pAskQ [.agg [.int .i64 kind, .int .i64 n, .int .u32 id, .str (cut70 body)]] = (.bool false)) (
.ob (((V.beq (.agg [.int .i64 kind, .int .i64 n, .int .u32 id, .str (cut70 body)]) (.agg [.int .i64 kind, .int .i64 n, .int .u32 id, .str (cut70 body)])) && true) = true) (
.ob (dAsk [.agg [.int .i64 kind, .int .i64 n, .int .u32 id, .str (cut70 body)]]) (
.ob (pAskQ [.agg [.int .i64 kind, .int .i64 n, .int .u32 id, .str (cut70 body)]] = (.bool false)) (
.ob ((((id : Int) != 0) == true) = true → ((True) ∧ ((True) ∧ ((True) ∧ (True))))) (
.ob (binV .eql (.int .i64 kind) (.int .i64 2) = some (.bool false)) (
.ob (binV .eql (.int .i64 kind) (.int .i64 3) = some (.bool false)) (
.ob (binV .geq (.int .i64 kind) (.int .i64 4) = some (.bool true)) (
.ob (binV .leq (.int .i64 kind) (.int .i64 6) = some (.bool false)) (
.leaf (.bool true)))))))))))))))))))
set_option maxRecDepth 1000000 in
theorem treeLKpx8_eq (a : Gw.Offer) (b : Gw.Offer) (kind : Int) (n : Int) (id : Int) (body : Str) : funT (mkXT (noPX) (oxLKpx8 a b kind n id body)) (mkXP (noPX)) (mkX (noPX) (oxLKpx8 a b kind n id body)) D (fun _ => noOrc) (fun k => match k with | 3 => [19, 48, 69, 86, 107, 111, 132, 135] | 9 => [8, 11, 15, 19, 23] | 11 => [10] | _ => []) 12 (fun k => match k with | 69 => some fun t h => (.bool false, h) | 86 => some fun t h => (.bool false, h) | 107 => some fun t h => (.bool true, h) | 111 => some fun t h => (.bool false, h) | _ => none) [19, 48, 69, 86, 107, 111, 132, 135] (noLt) (dOf 3) [.agg a.vs, .agg b.vs, .bool true, .agg [.int .i64 kind, .int .i64 n, .int .u32 id, .str body]] (tabH kT0 kT1 kT2 3) (fun v _ => v) = treeLKpx8 a b kind n id body := by kernel_rfl
theorem satLKpx8 (a : Gw.Offer) (b : Gw.Offer) (kind : Int) (n : Int) (id : Int) (body : Str) (hk : 7 < kind) : (treeLKpx8 a b kind n id body).sat fun v => v = .bool true :=
 sat_ob ⟨by split <;> omega, trivial⟩ (
sat_ob trivial (
sat_ob (by simp only [V.beq_refl, Bool.and_true]) (
sat_ob trivial (
sat_ob ⟨⟨(mayO_fine a), (mayO_fine b)⟩, rfl⟩ (
sat_ob trivial (
sat_ob trivial (
sat_ob (may_of (mayO_fine a)) (
sat_ob trivial (
sat_ob (by show V.bool (mayAsk _) = _; simp [mayAsk, cut70_len, cut70_nil, show ¬ kind = 1 by omega, show ¬ kind = 2 by omega, show ¬ kind = 3 by omega, show ¬ kind = 4 by omega, show ¬ kind = 5 by omega, show ¬ kind = 6 by omega, show ¬ kind = 7 by omega]) (
sat_ob (by simp only [V.beq_refl, Bool.and_true]) (
sat_ob trivial (
sat_ob (by show V.bool (mayAsk _) = _; simp [mayAsk, cut70_len, cut70_nil, show ¬ kind = 1 by omega, show ¬ kind = 2 by omega, show ¬ kind = 3 by omega, show ¬ kind = 4 by omega, show ¬ kind = 5 by omega, show ¬ kind = 6 by omega, show ¬ kind = 7 by omega]) (
sat_ob (by first | rfl | simp [V.beq, V.beqs, allOne, V.one, byteVs, binV, binI, eqV, eqCells]) (
sat_ob (by simp [binV, binI]; omega) (
sat_ob (by simp [binV, binI]; omega) (
sat_ob (by simp [binV, binI]; omega) (
sat_ob (by simp [binV, binI]; omega) (
sat_leaf (rfl)))))))))))))))))))
theorem runLKpx8 (a : Gw.Offer) (b : Gw.Offer) (kind : Int) (n : Int) (id : Int) (body : Str) (hk : 7 < kind) : Run Tryz.prog 3 [.agg a.vs, .agg b.vs, .bool true, .agg [.int .i64 kind, .int .i64 n, .int .u32 id, .str body]] (tabH kT0 kT1 kT2 3) fun v _ => v = .bool true := run_plainU mixed (show TabX Tryz.prog noPX (oxLKpx8 a b kind n id body) from (((((TabX.nil.addO ans_begun).addT (ans_fine noV)).addT (ans_may (fun n => match n with | 17 => some (.bool true) | _ => none))).addT (ans_pair (fun n => match n with | 7 => some (pairRows (fineO a) (fineO b) 7) | _ => none))).addT (ans_ask (fun n => match n with | 26 => some (.bool false) | 28 => some (.bool false) | _ => none)))) tabD (dIs (by kernel_rfl)) (treeLKpx8_eq a b kind n id body) (satLKpx8 a b kind n id body hk)
theorem runLKp (a b : Gw.Offer) (kind n id : Int) (body : Str) : Run Tryz.prog 3 [.agg a.vs, .agg b.vs, .bool true, .agg [.int .i64 kind, .int .i64 n, .int .u32 id, .str body]] (tabH kT0 kT1 kT2 3) fun v _ => v = .bool true := by
  by_cases k0 : kind < 1
  · exact runLKpx0 a b kind n id body k0
  by_cases k8 : 7 < kind
  · exact runLKpx8 a b kind n id body k8
  have hk : kind = 1 ∨ kind = 2 ∨ kind = 3 ∨ kind = 4 ∨ kind = 5 ∨ kind = 6 ∨ kind = 7 := by omega
  rcases hk with rfl | rfl | rfl | rfl | rfl | rfl | rfl
  · cases hm : mayAsk ⟨1, n, id, cut70 body⟩ with
    | false => exact runLKp1f a b n id body hm
    | true =>
      have h : (n = 1 ∨ n = 6 ∨ n = 8) ∧ id = 0 ∧ body = [] := by
        simp [mayAsk, cut70_nil] at hm
        exact ⟨by omega, by omega, hm.2⟩
      obtain ⟨hn, rfl, rfl⟩ := h
      exact runLKp1t a b n hn
  · by_cases i0 : id = 0
    · subst i0; exact runLKp20 a b n body
    by_cases i1 : id = 4294967295
    · subst i1; exact runLKp21 a b n body
    by_cases n0 : n = 0
    · subst n0
      by_cases hb : body = []
      · subst hb
        by_cases i9 : id = 9
        · subst i9; exact runLKp25 a b
        · exact runLKp24 a b id i0 i1 i9
      · exact runLKp23 a b id body i0 i1 hb
    · exact runLKp22 a b n id body n0 i0 i1
  · by_cases n0 : n = 0
    · subst n0
      by_cases i0 : id = 0
      · subst i0
        by_cases hl : body.length ≤ 64
        · by_cases hz : (body.length : Int) ≤ (dealL (fineO a) (fineO b)).size
          · exact runLKp34 a b body hl hz
          · exact runLKp33 a b body hl (by omega)
        · exact runLKp32 a b body (by omega)
      · exact runLKp31 a b id body i0
    · exact runLKp30 a b n id body n0
  · by_cases n0 : n = 0
    · subst n0
      by_cases i0 : id = 0
      · subst i0
        by_cases hb : body = []
        · subst hb; exact runLKp43 a b
        · exact runLKp42 a b body hb
      · exact runLKp41 a b id body i0
    · exact runLKp40 a b n id body n0
  · by_cases n0 : n = 0
    · subst n0
      by_cases i0 : id = 0
      · subst i0
        by_cases hb : body = []
        · subst hb; exact runLKp53 a b
        · exact runLKp52 a b body hb
      · exact runLKp51 a b id body i0
    · exact runLKp50 a b n id body n0
  · by_cases n0 : n = 0
    · subst n0
      by_cases i0 : id = 0
      · subst i0
        by_cases hb : body = []
        · subst hb; exact runLKp63 a b
        · exact runLKp62 a b body hb
      · exact runLKp61 a b id body i0
    · exact runLKp60 a b n id body n0
  · cases hm : mayAsk ⟨7, n, id, cut70 body⟩ with
    | false => exact runLKp7f a b n id body hm
    | true =>
      have h : n = 0 ∧ id ≠ 0 ∧ id ≠ 4294967295 ∧ body = [] := by
        simp [mayAsk, cut70_nil] at hm
        exact ⟨by omega, by omega, by omega, hm.2⟩
      obtain ⟨rfl, i0, i1, rfl⟩ := h
      exact runLKp7t a b id i0 i1
end Go.Proofs.YtjcninlcdnkofabGreatDoor
