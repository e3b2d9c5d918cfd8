/- LinkPair: its tree. -/
import Derived.Test.YtjcninlcdnkofaaGreatDoorGxE3
import Derived.Test.YtjcninlcdnkofaaGreatDoorGxPR
import Derived.Test.YtjcninlcdnkofaaGreatDoorGxRL
import Derived.Test.YtjcninlcdnkofaaGreatDoorGxQ
noncomputable section
namespace Go.Proofs.YtjcninlcdnkofaaGreatDoor
open Go Gw Go.RowKit
set_option linter.unusedSimpArgs false
set_option linter.unusedVariables false
theorem cbaud_comm {a b : Gw.Offer} (ha : MayO a) (hb : MayO b) : cbaud a b = cbaud b a := by
  have h1 := ha.b
  have h2 := hb.b
  unfold cbaud band
  rw [bits_small (n := a.baud) (by omega), bits_small (n := b.baud) (by omega)]
  congr 1
  exact Nat.and_comm _ _
def oxLinkPair (a : Gw.Offer) (b : Gw.Offer) : OTab := (consT 23 (gD dDeal pDeal (fun n => match n with | 23 => some (.tup [.agg (dv a b (dealL (fineO a) (fineO b)).wait), .bool true]) | 32 => some (.tup [.agg (dv b a (dealL (fineO b) (fineO a)).wait), .bool true]) | _ => none)) (consT 11 (gNew kT0 kT1 kT2 dPair pPair prPair (fun n => match n with | 6 => some (pairRows (fineO a) (fineO b) 6) | _ => none)) (consT 10 (gD dOff pFine noV) (consO 9 (gTrue kT0 kT1 kT2) noOX))))
def treeLinkPair (a : Gw.Offer) (b : Gw.Offer) : DT V :=
  .ob (dOff [.agg a.vs]) (
.ob (((V.beq (.agg b.vs) (.agg b.vs)) && true) = true) (
.ob (dOff [.agg b.vs]) (
.ob (dPair [.agg (fineO a).vs, .agg (fineO b).vs] ∧ pPair [.agg (fineO a).vs, .agg (fineO b).vs] 6 = pairRows (fineO a) (fineO b) 6) (
.ob (dDeal [.agg (fineO a).vs, .agg (fineO b).vs]) (
.ob (pDeal [.agg (fineO a).vs, .agg (fineO b).vs] = (.tup [.agg (dv a b (dealL (fineO a) (fineO b)).wait), .bool true])) (
.ob (dDeal [.agg (fineO b).vs, .agg (fineO a).vs]) (
.ob (pDeal [.agg (fineO b).vs, .agg (fineO a).vs] = (.tup [.agg (dv b a (dealL (fineO b) (fineO a)).wait), .bool true])) (
.ob (((V.beq (.agg (dv a b (dealL (fineO a) (fineO b)).wait)) (.agg (dv a b (dealL (fineO a) (fineO b)).wait))) && true) = true) (
.ob (((eqV (.agg [.i, .i, .i, .i, .i]) (.agg (dv a b (dealL (fineO a) (fineO b)).wait)) (.agg (dv a b (dealL (fineO a) (fineO b)).wait))).map fun b => V.bool (if false then !b else b)) = some (.bool true)) (
.ob (((V.beq (.agg (dv b a (dealL (fineO b) (fineO a)).wait)) (.agg (dv b a (dealL (fineO b) (fineO a)).wait))) && true) = true) (
.ob (((eqV (.agg [.i, .i, .i, .i, .i]) (.agg [.int .i64 (dealL (fineO b) (fineO a)).baud, .int .i64 200, .int .i64 (dealL (fineO b) (fineO a)).win, .int .i64 (dealL (fineO b) (fineO a)).size, .int .i64 (loL (fineO a).wait)]) (.agg (dv b a (dealL (fineO b) (fineO a)).wait))).map fun b => V.bool (if false then !b else b)) = some (.bool true)) (
.ob (binV .eql (.int .i64 (dealL (fineO a) (fineO b)).baud) (.int .i64 (dealL (fineO b) (fineO a)).baud) = some (.bool true)) (
.ob (True) (
.ob (True) (
.leaf (.bool true))))))))))))))))
set_option maxRecDepth 1000000 in
theorem treeLinkPair_eq (a : Gw.Offer) (b : Gw.Offer) : funT (mkXT (noPX) (oxLinkPair a b)) (mkXP (noPX)) (mkX (noPX) (oxLinkPair a b)) D (fun _ => noOrc) (fun k => match k with | 7 => [12, 36, 42, 51, 57, 64, 71, 78, 84, 89, 94, 99, 104] | _ => []) 12 (fun k => match k with | 51 => some fun t h => (.bool true, h) | 57 => some fun t h => (.bool true, h) | 64 => some fun t h => (.bool true, h) | _ => none) [12, 36, 42, 51, 57, 64, 71, 78, 84, 89, 94, 99, 104] (noLt) (dOf 7) [.agg a.vs, .agg b.vs] (tabH kT0 kT1 kT2 3) (fun v _ => v) = treeLinkPair a b := by kernel_rfl
theorem satLinkPair (a : Gw.Offer) (b : Gw.Offer)  : (treeLinkPair a b).sat fun v => v = .bool true :=
 sat_ob trivial (
sat_ob (by simp only [V.beq_refl, Bool.and_true]) (
sat_ob trivial (
sat_ob ⟨⟨(mayO_fine a), (mayO_fine b)⟩, rfl⟩ (
sat_ob ⟨(mayO_fine a), (mayO_fine b)⟩ (
sat_ob rfl (
sat_ob ⟨(mayO_fine b), (mayO_fine a)⟩ (
sat_ob rfl (
sat_ob (by simp only [V.beq_refl, Bool.and_true]) (
sat_ob (by have e : (dealL (fineO b) (fineO a)).wait = loL (fineO a).wait := rfl; simp [eqV, eqCells, dv, e]) (
sat_ob (by simp only [V.beq_refl, Bool.and_true]) (
sat_ob (by have e : (dealL (fineO b) (fineO a)).wait = loL (fineO a).wait := rfl; simp [eqV, eqCells, dv, e]) (
sat_ob (by show binV .eql (.int .i64 (baudL (hiL (cbaud (fineO a) (fineO b))))) (.int .i64 (baudL (hiL (cbaud (fineO b) (fineO a))))) = _; rw [cbaud_comm (mayO_fine a) (mayO_fine b)]; simp [binV, binI]) (
sat_ob trivial (
sat_ob trivial (
sat_leaf (rfl))))))))))))))))
theorem runLinkPair (a : Gw.Offer) (b : Gw.Offer)  : Run Tryz.prog 7 [.agg a.vs, .agg b.vs] (tabH kT0 kT1 kT2 3) fun v _ => v = .bool true := run_plainU mixed (show TabX Tryz.prog noPX (oxLinkPair a b) from ((((TabX.nil.addO ans_begun).addT (ans_fine noV)).addT (ans_pair (fun n => match n with | 6 => some (pairRows (fineO a) (fineO b) 6) | _ => none))).addT (ans_rdeal (fun n => match n with | 23 => some (.tup [.agg (dv a b (dealL (fineO a) (fineO b)).wait), .bool true]) | 32 => some (.tup [.agg (dv b a (dealL (fineO b) (fineO a)).wait), .bool true]) | _ => none)))) tabD (dIs (by kernel_rfl)) (treeLinkPair_eq a b) (satLinkPair a b )
end Go.Proofs.YtjcninlcdnkofaaGreatDoor
