/- LinkCall: its trees, its loop, its run. -/
import Derived.Test.YtbkgcdncdaeiaaaGreatDoorGxLN
noncomputable section
namespace Go.Proofs.YtbkgcdncdaeiaaaGreatDoor
open Go Gw Go.RowKit
set_option linter.unusedSimpArgs false
set_option linter.unusedVariables false
def oxLinkCall0 (id : Int) (a : Gw.Offer) : OTab := (consT 79 (gD dGet pGet noV) (consT 106 (gD dPut pPut noV) (consT 80 (gDT kT0 kT1 kT2 dDeal pDeal noV) (consT 76 (gD dOff pMayQ noV) (consT 20 (gD dOff pFine noV) (consO 19 (gTrue kT0 kT1 kT2) noOX))))))
def treeLinkCall0 (id : Int) (a : Gw.Offer) : DT V :=
  .ob (dOff [.agg a.vs]) (
.leaf (.bool true))
set_option maxRecDepth 1000000 in
theorem treeLinkCall0_eq (id : Int) (a : Gw.Offer) : funT (mkXT (noPX) (oxLinkCall0 id a)) (mkXP (noPX)) (mkX (noPX) (oxLinkCall0 id a)) LD.DL (fun _ => noOrc) (fun k => match k with | 6 => [17, 28] | 35 => [8] | 36 => [4] | _ => []) 12 noOrc [17, 28] (noLt) LD.c6 [.int .u32 0, .int .u32 id, .agg a.vs] (tabH kT0 kT1 kT2 3) (fun v _ => v) = treeLinkCall0 id a := by kernel_rfl
theorem satLinkCall0 (id : Int) (a : Gw.Offer)  : (treeLinkCall0 id a).sat fun v => v = .bool true :=
 sat_ob trivial (
sat_leaf (rfl))
theorem runLinkCall0 (id : Int) (a : Gw.Offer)  : Run Tryz.prog 6 [.int .u32 0, .int .u32 id, .agg a.vs] (tabH kT0 kT1 kT2 3) fun v _ => v = .bool true := run_plainU mixed (show TabX Tryz.prog noPX (oxLinkCall0 id a) from ((((((TabX.nil.addO ans_begun).addT (ans_fine noV)).addT (ans_may noV)).addT (ans_deal noV)).addT (ans_put noV)).addT (ans_get noV))) LD.tabDL (show LD.DL 6 = some LD.c6 from rfl) (treeLinkCall0_eq id a) (satLinkCall0 id a )
def oxLinkCall1 (id : Int) (a : Gw.Offer) : OTab := (consT 79 (gD dGet pGet noV) (consT 106 (gD dPut pPut noV) (consT 80 (gDT kT0 kT1 kT2 dDeal pDeal noV) (consT 76 (gD dOff pMayQ noV) (consT 20 (gD dOff pFine noV) (consO 19 (gTrue kT0 kT1 kT2) noOX))))))
def treeLinkCall1 (id : Int) (a : Gw.Offer) : DT V :=
  .ob (dOff [.agg a.vs]) (
.leaf (.bool true))
set_option maxRecDepth 1000000 in
theorem treeLinkCall1_eq (id : Int) (a : Gw.Offer) : funT (mkXT (noPX) (oxLinkCall1 id a)) (mkXP (noPX)) (mkX (noPX) (oxLinkCall1 id a)) LD.DL (fun _ => noOrc) (fun k => match k with | 6 => [17, 28] | 35 => [8, 11] | 36 => [4, 7] | _ => []) 12 noOrc [17, 28] (noLt) LD.c6 [.int .u32 4294967295, .int .u32 id, .agg a.vs] (tabH kT0 kT1 kT2 3) (fun v _ => v) = treeLinkCall1 id a := by kernel_rfl
theorem satLinkCall1 (id : Int) (a : Gw.Offer)  : (treeLinkCall1 id a).sat fun v => v = .bool true :=
 sat_ob trivial (
sat_leaf (rfl))
theorem runLinkCall1 (id : Int) (a : Gw.Offer)  : Run Tryz.prog 6 [.int .u32 4294967295, .int .u32 id, .agg a.vs] (tabH kT0 kT1 kT2 3) fun v _ => v = .bool true := run_plainU mixed (show TabX Tryz.prog noPX (oxLinkCall1 id a) from ((((((TabX.nil.addO ans_begun).addT (ans_fine noV)).addT (ans_may noV)).addT (ans_deal noV)).addT (ans_put noV)).addT (ans_get noV))) LD.tabDL (show LD.DL 6 = some LD.c6 from rfl) (treeLinkCall1_eq id a) (satLinkCall1 id a )
def oxLinkCall2 (me : Int) (a : Gw.Offer) : OTab := (consT 79 (gD dGet pGet noV) (consT 106 (gD dPut pPut noV) (consT 80 (gDT kT0 kT1 kT2 dDeal pDeal noV) (consT 76 (gD dOff pMayQ (fun n => match n with | 7 => some (.bool true) | _ => none)) (consT 20 (gD dOff pFine noV) (consO 19 (gTrue kT0 kT1 kT2) noOX))))))
def treeLinkCall2 (me : Int) (a : Gw.Offer) : DT V :=
  .ob (dOff [.agg a.vs]) (
.ob (binV .eql (.int .u32 me) (.int .u32 0) = some (.bool false)) (
.ob (binV .eql (.int .u32 me) (.int .u32 4294967295) = some (.bool false)) (
.ob (dOff [.agg (fineO a).vs]) (
.ob (pMayQ [.agg (fineO a).vs] = (.bool true)) (
.ob (True) (
.leaf (.bool true)))))))
set_option maxRecDepth 1000000 in
theorem treeLinkCall2_eq (me : Int) (a : Gw.Offer) : funT (mkXT (noPX) (oxLinkCall2 me a)) (mkXP (noPX)) (mkX (noPX) (oxLinkCall2 me a)) LD.DL (fun g => match g with | 35 => (fun k => match k with | 8 => some fun t h => (.bool false, h) | 11 => some fun t h => (.bool false, h) | _ => none) | _ => noOrc) (fun k => match k with | 6 => [17, 35, 37, 40, 51] | 22 => [10] | 35 => [8, 11, 15, 19, 23] | 36 => [4] | 56 => [10, 33, 40, 44] | _ => []) 12 noOrc [17, 35, 37, 40, 51] (noLt) LD.c6 [.int .u32 me, .int .u32 0, .agg a.vs] (tabH kT0 kT1 kT2 3) (fun v _ => v) = treeLinkCall2 me a := by kernel_rfl
theorem satLinkCall2 (me : Int) (a : Gw.Offer) (hm0 : me ≠ 0) (hm1 : me ≠ 4294967295) (rm : 0 ≤ me ∧ me < 4294967296) : (treeLinkCall2 me a).sat fun v => v = .bool true :=
 sat_ob trivial (
sat_ob (by simp [binV, binI, hm0, hm1]) (
sat_ob (by simp [binV, binI, hm0, hm1]) (
sat_ob trivial (
sat_ob (pMay_fine a) (
sat_ob trivial (
sat_leaf (rfl)))))))
theorem runLinkCall2 (me : Int) (a : Gw.Offer) (hm0 : me ≠ 0) (hm1 : me ≠ 4294967295) (rm : 0 ≤ me ∧ me < 4294967296) : Run Tryz.prog 6 [.int .u32 me, .int .u32 0, .agg a.vs] (tabH kT0 kT1 kT2 3) fun v _ => v = .bool true := run_plainU mixed (show TabX Tryz.prog noPX (oxLinkCall2 me a) from ((((((TabX.nil.addO ans_begun).addT (ans_fine noV)).addT (ans_may (fun n => match n with | 7 => some (.bool true) | _ => none))).addT (ans_deal noV)).addT (ans_put noV)).addT (ans_get noV))) LD.tabDL (show LD.DL 6 = some LD.c6 from rfl) (treeLinkCall2_eq me a) (satLinkCall2 me a hm0 hm1 rm)
def oxLinkCall3 (me : Int) (a : Gw.Offer) : OTab := (consT 79 (gD dGet pGet noV) (consT 106 (gD dPut pPut noV) (consT 80 (gDT kT0 kT1 kT2 dDeal pDeal noV) (consT 76 (gD dOff pMayQ (fun n => match n with | 7 => some (.bool true) | _ => none)) (consT 20 (gD dOff pFine noV) (consO 19 (gTrue kT0 kT1 kT2) noOX))))))
def treeLinkCall3 (me : Int) (a : Gw.Offer) : DT V :=
  .ob (dOff [.agg a.vs]) (
.ob (binV .eql (.int .u32 me) (.int .u32 0) = some (.bool false)) (
.ob (binV .eql (.int .u32 me) (.int .u32 4294967295) = some (.bool false)) (
.ob (dOff [.agg (fineO a).vs]) (
.ob (pMayQ [.agg (fineO a).vs] = (.bool true)) (
.ob (True) (
.leaf (.bool true)))))))
set_option maxRecDepth 1000000 in
theorem treeLinkCall3_eq (me : Int) (a : Gw.Offer) : funT (mkXT (noPX) (oxLinkCall3 me a)) (mkXP (noPX)) (mkX (noPX) (oxLinkCall3 me a)) LD.DL (fun g => match g with | 35 => (fun k => match k with | 8 => some fun t h => (.bool false, h) | 11 => some fun t h => (.bool false, h) | _ => none) | _ => noOrc) (fun k => match k with | 6 => [17, 35, 37, 40, 51] | 22 => [10] | 35 => [8, 11, 15, 19, 23] | 36 => [4, 7] | 56 => [10, 33, 40, 44, 49] | _ => []) 12 noOrc [17, 35, 37, 40, 51] (noLt) LD.c6 [.int .u32 me, .int .u32 4294967295, .agg a.vs] (tabH kT0 kT1 kT2 3) (fun v _ => v) = treeLinkCall3 me a := by kernel_rfl
theorem satLinkCall3 (me : Int) (a : Gw.Offer) (hm0 : me ≠ 0) (hm1 : me ≠ 4294967295) (rm : 0 ≤ me ∧ me < 4294967296) : (treeLinkCall3 me a).sat fun v => v = .bool true :=
 sat_ob trivial (
sat_ob (by simp [binV, binI, hm0, hm1]) (
sat_ob (by simp [binV, binI, hm0, hm1]) (
sat_ob trivial (
sat_ob (pMay_fine a) (
sat_ob trivial (
sat_leaf (rfl)))))))
theorem runLinkCall3 (me : Int) (a : Gw.Offer) (hm0 : me ≠ 0) (hm1 : me ≠ 4294967295) (rm : 0 ≤ me ∧ me < 4294967296) : Run Tryz.prog 6 [.int .u32 me, .int .u32 4294967295, .agg a.vs] (tabH kT0 kT1 kT2 3) fun v _ => v = .bool true := run_plainU mixed (show TabX Tryz.prog noPX (oxLinkCall3 me a) from ((((((TabX.nil.addO ans_begun).addT (ans_fine noV)).addT (ans_may (fun n => match n with | 7 => some (.bool true) | _ => none))).addT (ans_deal noV)).addT (ans_put noV)).addT (ans_get noV))) LD.tabDL (show LD.DL 6 = some LD.c6 from rfl) (treeLinkCall3_eq me a) (satLinkCall3 me a hm0 hm1 rm)
def oxLinkCall4 (me : Int) (a : Gw.Offer) : OTab := (consT 79 (gD dGet pGet noV) (consT 106 (gD dPut pPut noV) (consT 80 (gDT kT0 kT1 kT2 dDeal pDeal noV) (consT 76 (gD dOff pMayQ (fun n => match n with | 7 => some (.bool true) | _ => none)) (consT 20 (gD dOff pFine noV) (consO 19 (gTrue kT0 kT1 kT2) noOX))))))
def treeLinkCall4 (me : Int) (a : Gw.Offer) : DT V :=
  .ob (dOff [.agg a.vs]) (
.ob (binV .eql (.int .u32 me) (.int .u32 0) = some (.bool false)) (
.ob (binV .eql (.int .u32 me) (.int .u32 4294967295) = some (.bool false)) (
.ob (dOff [.agg (fineO a).vs]) (
.ob (pMayQ [.agg (fineO a).vs] = (.bool true)) (
.ob (((eqV (.agg [.i, .i, .i, .s]) (.agg [.int .i64 2, .int .i64 0, .int .u32 me, .str []]) (.agg [.int .i64 2, .int .i64 0, .int .u32 me, .str []])).map fun b => V.bool (if false then !b else b)) = some (.bool true)) (
.ob (binV .neq (.int .u32 me) (.int .u32 0) = some (.bool true)) (
.ob (binV .neq (.int .u32 me) (.int .u32 4294967295) = some (.bool true)) (
.ob (binV .eql (.int .u32 me) (.int .u32 me) = some (.bool true)) (
.ob (binV .neq (.int .u32 me) (.int .u32 0) = some (.bool true)) (
.ob (binV .neq (.int .u32 me) (.int .u32 4294967295) = some (.bool true)) (
.ob (binV .eql (.int .u32 me) (.int .u32 me) = some (.bool true)) (
.leaf (.bool true)))))))))))))
set_option maxRecDepth 1000000 in
theorem treeLinkCall4_eq (me : Int) (a : Gw.Offer) : funT (mkXT (noPX) (oxLinkCall4 me a)) (mkXP (noPX)) (mkX (noPX) (oxLinkCall4 me a)) LD.DL (fun g => match g with | 35 => (fun k => match k with | 8 => some fun t h => (.bool false, h) | 11 => some fun t h => (.bool false, h) | _ => none) | 56 => (fun k => match k with | 40 => some fun t h => (.bool true, h) | 44 => some fun t h => (.bool true, h) | 49 => some fun t h => (.bool true, h) | _ => none) | 22 => (fun k => match k with | 57 => some fun t h => (.bool true, h) | _ => none) | 36 => (fun k => match k with | 4 => some fun t h => (.bool true, h) | 7 => some fun t h => (.bool true, h) | _ => none) | _ => noOrc) (fun k => match k with | 6 => [17, 35, 37, 40, 45, 51] | 22 => [10, 15, 20, 25, 30, 31, 37, 41, 50, 57] | 35 => [8, 11, 15, 19, 23] | 36 => [4, 7] | 56 => [10, 33, 40, 44, 49] | _ => []) 12 (fun k => match k with | 45 => some fun t h => (.bool true, h) | _ => none) [17, 35, 37, 40, 45, 51] (noLt) LD.c6 [.int .u32 me, .int .u32 me, .agg a.vs] (tabH kT0 kT1 kT2 3) (fun v _ => v) = treeLinkCall4 me a := by kernel_rfl
theorem satLinkCall4 (me : Int) (a : Gw.Offer) (hm0 : me ≠ 0) (hm1 : me ≠ 4294967295) (rm : 0 ≤ me ∧ me < 4294967296) : (treeLinkCall4 me a).sat fun v => v = .bool true :=
 sat_ob trivial (
sat_ob (by simp [binV, binI, hm0, hm1]) (
sat_ob (by simp [binV, binI, hm0, hm1]) (
sat_ob trivial (
sat_ob (pMay_fine a) (
sat_ob (by simp [eqV, eqCells]) (
sat_ob (by simp [binV, binI, hm0, hm1]) (
sat_ob (by simp [binV, binI, hm0, hm1]) (
sat_ob (by simp [binV, binI, hm0, hm1]) (
sat_ob (by simp [binV, binI, hm0, hm1]) (
sat_ob (by simp [binV, binI, hm0, hm1]) (
sat_ob (by simp [binV, binI, hm0, hm1]) (
sat_leaf (rfl)))))))))))))
theorem runLinkCall4 (me : Int) (a : Gw.Offer) (hm0 : me ≠ 0) (hm1 : me ≠ 4294967295) (rm : 0 ≤ me ∧ me < 4294967296) : Run Tryz.prog 6 [.int .u32 me, .int .u32 me, .agg a.vs] (tabH kT0 kT1 kT2 3) fun v _ => v = .bool true := run_plainU mixed (show TabX Tryz.prog noPX (oxLinkCall4 me a) from ((((((TabX.nil.addO ans_begun).addT (ans_fine noV)).addT (ans_may (fun n => match n with | 7 => some (.bool true) | _ => none))).addT (ans_deal noV)).addT (ans_put noV)).addT (ans_get noV))) LD.tabDL (show LD.DL 6 = some LD.c6 from rfl) (treeLinkCall4_eq me a) (satLinkCall4 me a hm0 hm1 rm)
inductive ILinkCall5
  | c0 (j : Nat)
  | c1 (j : Nat)
  | c2 (j : Nat)
  | c3 (j : Nat)
  | c4 (j : Nat)
  | c5 (j : Nat)
  | c6 (j : Nat)
  | c7 (j : Nat)
  | c8 (j : Nat)
def SNLinkCall5 (me : Int) (id : Int) (a : Gw.Offer) (w0 : V) (w1 : V) (w2 : V) (w3 : V) (w4 : V) (w5 : V) (w6 : V) (w7 : V) (w8 : V) : Snap := ([.int .u32 me, .int .u32 id, .agg a.vs, .ptr 3 0, .bool true, .ptr 11 0, .int .i64 0, w0, w1, w2, .bool true, .bool true, .bool false, .agg a.vs, .agg (fineO a).vs, .int .u32 me, .agg (fineO a).vs, .ptr 11 0, .ptr 11 0, .bool false, .ptr 11 0, .int .u32 id, .agg [.int .i64 2, .int .i64 0, .int .u32 id, .str []], .int .i64 0, .int .i64 0, .bool false], [some (.cells true (zsV .u8 kT0)), some (.cells true (zsV .u8 kT1)), some (.cells true (zsV .u8 kT2)), some (.cells false (fineO a).vs), none, some (.cells false (fineO a).vs), none, none, none, none, none, some (.cells false [.int .u32 me, .int .i64 2, .int .i64 (fineO a).baud, .int .i64 (fineO a).silent, .int .i64 (fineO a).win, .int .i64 (fineO a).size, .int .i64 (fineO a).wait, w3, w4, w5, w6, .int .i64 0, .int .i64 0, .int .i64 0, .int .i64 0, .int .i64 0, .nilp, .int .i64 1, .int .i64 0, .int .i64 0, w7, w8, .int .i64 0, .int .i64 0, .bool false, .bool false, .bool false, .nils]), none, some (.cells false [.int .i64 2, .int .i64 0, .int .u32 id, .str []]), none, some (.cells false [.int .i64 2, .int .i64 0, .int .u32 id, .str []]), none, none, none, none, some (.cells false [.int .i64 2, .int .i64 0, .int .u32 id, .str []]), none, some (.cells false [.int .i64 2, .int .i64 1])])
def SSLinkCall5 (me : Int) (id : Int) (a : Gw.Offer) (i : ILinkCall5) : Snap := match i with
  | .c0 j => SNLinkCall5 me id a (.int .i64 0) (.int .i64 0) (.int .i64 1) (.int .i64 1) (.int .u32 id) (.int .i64 2) (.int .i64 1) (.int .i64 0) (.int .i64 0)
  | .c1 j => SNLinkCall5 me id a (.int .i64 1) (.int .i64 0) (.int .i64 (2 + (j : Int))) (.int .i64 1) (.int .u32 id) (.int .i64 2) (.int .i64 1) (.int .i64 1) (.int .i64 (70 - (j : Int)))
  | .c2 j => SNLinkCall5 me id a (.int .i64 1) (.int .i64 0) (.int .i64 71) (.int .i64 1) (.int .u32 id) (.int .i64 2) (.int .i64 1) (.int .i64 1) (.int .i64 1)
  | .c3 j => SNLinkCall5 me id a (.int .i64 2) (.int .i64 0) (.int .i64 (72 + (j : Int))) (.int .i64 1) (.int .u32 id) (.int .i64 2) (.int .i64 1) (.int .i64 2) (.int .i64 (70 - (j : Int)))
  | .c4 j => SNLinkCall5 me id a (.int .i64 2) (.int .i64 0) (.int .i64 141) (.int .i64 1) (.int .u32 id) (.int .i64 2) (.int .i64 1) (.int .i64 2) (.int .i64 1)
  | .c5 j => SNLinkCall5 me id a (.int .i64 3) (.int .i64 0) (.int .i64 (142 + (j : Int))) (.int .i64 1) (.int .u32 id) (.int .i64 2) (.int .i64 1) (.int .i64 3) (.int .i64 (70 - (j : Int)))
  | .c6 j => SNLinkCall5 me id a (.int .i64 3) (.int .i64 0) (.int .i64 211) (.int .i64 1) (.int .u32 id) (.int .i64 2) (.int .i64 1) (.int .i64 3) (.int .i64 1)
  | .c7 j => SNLinkCall5 me id a (.int .i64 3) (.int .i64 1) (.int .i64 (212 + (j : Int))) (.int .i64 0) (.int .u32 0) (.int .i64 0) (.int .i64 0) (.int .i64 0) (.int .i64 0)
  | .c8 j => SNLinkCall5 me id a (.int .i64 3) (.int .i64 1) (.int .i64 301) (.int .i64 0) (.int .u32 0) (.int .i64 0) (.int .i64 0) (.int .i64 0) (.int .i64 0)
def XLinkCall5 (me : Int) (id : Int) (a : Gw.Offer) : Snap := ([.int .u32 me, .int .u32 id, .agg a.vs, .ptr 3 0, .bool true, .ptr 11 0, .int .i64 0, .int .i64 3, .int .i64 1, .bool true, .bool true, .bool false, .agg a.vs, .agg (fineO a).vs, .int .u32 me, .agg (fineO a).vs, .ptr 11 0, .ptr 11 0, .bool false, .ptr 11 0, .int .u32 id, .agg [.int .i64 2, .int .i64 0, .int .u32 id, .str []], .int .i64 0, .int .i64 0, .bool false], [some (.cells true (zsV .u8 kT0)), some (.cells true (zsV .u8 kT1)), some (.cells true (zsV .u8 kT2)), some (.cells false (fineO a).vs), none, some (.cells false (fineO a).vs), none, none, none, none, none, some (.cells false [.int .u32 me, .int .i64 2, .int .i64 (fineO a).baud, .int .i64 (fineO a).silent, .int .i64 (fineO a).win, .int .i64 (fineO a).size, .int .i64 (fineO a).wait, .int .i64 0, .int .u32 0, .int .i64 0, .int .i64 0, .int .i64 0, .int .i64 0, .int .i64 0, .int .i64 0, .int .i64 0, .nilp, .int .i64 1, .int .i64 0, .int .i64 0, .int .i64 0, .int .i64 0, .int .i64 0, .int .i64 0, .bool false, .bool false, .bool false, .nils]), none, some (.cells false [.int .i64 2, .int .i64 0, .int .u32 id, .str []]), none, some (.cells false [.int .i64 2, .int .i64 0, .int .u32 id, .str []]), none, none, none, none, some (.cells false [.int .i64 2, .int .i64 0, .int .u32 id, .str []]), none, some (.cells false [.int .i64 2, .int .i64 1])])
def invLinkCall5 (i : ILinkCall5) : Prop := match i with
  | .c0 j => j < 1
  | .c1 j => j < 69
  | .c2 j => j < 1
  | .c3 j => j < 69
  | .c4 j => j < 1
  | .c5 j => j < 69
  | .c6 j => j < 1
  | .c7 j => j < 89
  | .c8 j => j < 1
def muLinkCall5 (i : ILinkCall5) : Nat := match i with
  | .c0 j => 301 - (0 + j)
  | .c1 j => 301 - (1 + j)
  | .c2 j => 301 - (70 + j)
  | .c3 j => 301 - (71 + j)
  | .c4 j => 301 - (140 + j)
  | .c5 j => 301 - (141 + j)
  | .c6 j => 301 - (210 + j)
  | .c7 j => 301 - (211 + j)
  | .c8 j => 301 - (300 + j)
def loopLinkCall5 (me : Int) (id : Int) (a : Gw.Offer) : LoopD ILinkCall5 where
  nt := 126
  fr := fun ex => match ex with | .normal => ⟨[0, 1, 2, 5, 7, 8, 9, 10, 11, 12, 17, 18, 19, 20, 21, 22, 23, 24, 25, 26, 30, 31, 32, 33, 34, 35], 23, []⟩ | .exit _ => ⟨[0, 1, 2, 5, 7, 8, 9, 10, 11, 17, 18, 19, 20, 21, 22, 23, 24, 25, 26, 30, 31, 32, 33, 34, 35], 23, []⟩ | .ret => ⟨[], 23, []⟩
  S := SSLinkCall5 me id a
  out := fun i => .ob (invLinkCall5 i) (.leaf ((.exit 0), XLinkCall5 me id a))
  pick := fun _ => .c0 0
def ltLinkCall5 (me : Int) (id : Int) (a : Gw.Offer) : Lt := fun k => match k with | 0 => (loopLinkCall5 me id a).lt | _ => fun _ _ => .fail
def lpLinkCall5 : DC := (((loopsIn 0 LD.c6.body)[0]?).getD (0, .skip)).2
def orcLinkCall5 (me : Int) (id : Int) (a : Gw.Offer) (i : ILinkCall5) : Orc := match i with
  | .c0 j => noOrc
  | .c1 j => (fun k => match k with | 54 => some fun t h => (.bool true, h) | 56 => some fun t h => (.int .i64 (3 + (j : Int)), h) | _ => none)
  | .c2 j => noOrc
  | .c3 j => (fun k => match k with | 54 => some fun t h => (.bool true, h) | 56 => some fun t h => (.int .i64 (73 + (j : Int)), h) | _ => none)
  | .c4 j => noOrc
  | .c5 j => (fun k => match k with | 54 => some fun t h => (.bool true, h) | 56 => some fun t h => (.int .i64 (143 + (j : Int)), h) | _ => none)
  | .c6 j => (fun k => match k with | 108 => some fun t h => (.bool false, h) | _ => none)
  | .c7 j => (fun k => match k with | 54 => some fun t h => (.bool true, h) | 56 => some fun t h => (.int .i64 (213 + (j : Int)), h) | _ => none)
  | .c8 j => noOrc
def orcsLinkCall5 (me : Int) (id : Int) (a : Gw.Offer) (i : ILinkCall5) : Nat → Orc := match i with
  | .c0 j => (fun _ => noOrc)
  | .c1 j => (fun g => match g with | 60 => (fun k => match k with | 32 => some fun t h => (.bool false, h) | 37 => some fun t h => (.int .i64 (69 - (j : Int)), h) | 44 => some fun t h => (.bool true, h) | _ => none) | 26 => (fun k => match k with | 58 => some fun t h => (.bool false, h) | _ => none) | _ => noOrc)
  | .c2 j => (fun _ => noOrc)
  | .c3 j => (fun g => match g with | 60 => (fun k => match k with | 32 => some fun t h => (.bool false, h) | 37 => some fun t h => (.int .i64 (69 - (j : Int)), h) | 44 => some fun t h => (.bool true, h) | _ => none) | 26 => (fun k => match k with | 58 => some fun t h => (.bool false, h) | _ => none) | _ => noOrc)
  | .c4 j => (fun _ => noOrc)
  | .c5 j => (fun g => match g with | 60 => (fun k => match k with | 32 => some fun t h => (.bool false, h) | 37 => some fun t h => (.int .i64 (69 - (j : Int)), h) | 44 => some fun t h => (.bool true, h) | _ => none) | 26 => (fun k => match k with | 58 => some fun t h => (.bool false, h) | _ => none) | _ => noOrc)
  | .c6 j => (fun _ => noOrc)
  | .c7 j => (fun _ => noOrc)
  | .c8 j => (fun _ => noOrc)
def stsLinkCall5 (i : ILinkCall5) : Nat → List Nat := match i with
  | .c0 j => (fun k => match k with | 6 => [54, 64, 72, 76, 83, 91, 96] | 26 => [15, 22, 31, 52, 58] | 60 => [8, 32] | 62 => [28, 30] | 107 => [10] | _ => [])
  | .c1 j => (fun k => match k with | 6 => [54, 64, 96] | 26 => [15, 22, 31, 52, 58, 74] | 60 => [8, 32, 44] | _ => [])
  | .c2 j => (fun k => match k with | 6 => [54, 64, 72, 76, 83, 91, 96] | 26 => [15, 22, 31, 52, 58] | 60 => [8, 32, 44, 55, 61, 68] | 62 => [28, 30] | 107 => [10] | _ => [])
  | .c3 j => (fun k => match k with | 6 => [54, 64, 96] | 26 => [15, 22, 31, 52, 58, 74] | 60 => [8, 32, 44] | _ => [])
  | .c4 j => (fun k => match k with | 6 => [54, 64, 72, 76, 83, 91, 96] | 26 => [15, 22, 31, 52, 58] | 60 => [8, 32, 44, 55, 61, 68] | 62 => [28, 30] | 107 => [10] | _ => [])
  | .c5 j => (fun k => match k with | 6 => [54, 64, 96] | 26 => [15, 22, 31, 52, 58, 74] | 60 => [8, 32, 44] | _ => [])
  | .c6 j => (fun k => match k with | 6 => [54, 64, 96, 103, 108, 112] | 26 => [15] | 60 => [8, 32, 44, 55, 61] | _ => [])
  | .c7 j => (fun k => match k with | 6 => [54, 64, 96] | 26 => [15, 22, 31, 52, 74] | 60 => [8, 32] | _ => [])
  | .c8 j => (fun k => match k with | 6 => [54] | _ => [])
def stLinkCall5 (i : ILinkCall5) : List Nat := match i with
  | .c0 j => [54, 64, 72, 76, 83, 91, 96]
  | .c1 j => [54, 64, 96]
  | .c2 j => [54, 64, 72, 76, 83, 91, 96]
  | .c3 j => [54, 64, 96]
  | .c4 j => [54, 64, 72, 76, 83, 91, 96]
  | .c5 j => [54, 64, 96]
  | .c6 j => [54, 64, 96, 103, 108, 112]
  | .c7 j => [54, 64, 96]
  | .c8 j => [54]
def treeLinkCall5_0 (me : Int) (id : Int) (a : Gw.Offer) (j : Nat) : DT (Ex × Snap) :=
  .ob (dPut [.agg [.int .u32 me, .int .u32 id, .int .i64 2, .int .i64 1, .int .i64 (fineO a).baud, .int .i64 (fineO a).silent, .int .i64 (fineO a).win, .int .i64 (fineO a).size, .int .i64 (fineO a).wait]]) (
.ob (9 = 9 ∧ 0 ≤ (0 : Int) ∧ (0 : Int) < ((1 : Nat) : Int)) (
.ob (9 = 9 ∧ 0 ≤ (0 : Int) ∧ (0 : Int) < ((1 : Nat) : Int)) (
.ob (((V.beq (.agg [.int .i64 127, .int .i64 255]) (.agg [.int .i64 127, .int .i64 255])) && true) = true) (
.ob (True) (
.leaf (.normal, SNLinkCall5 me id a (.int .i64 1) (.int .i64 0) (.int .i64 2) (.int .i64 1) (.int .u32 id) (.int .i64 2) (.int .i64 1) (.int .i64 1) (.int .i64 70)))))))
set_option maxRecDepth 1000000 in
theorem treeLinkCall5_0_eq (me : Int) (id : Int) (a : Gw.Offer) (j : Nat) : codeT (callT (mkXT noPX oxN) (mkXP noPX) (mkX noPX oxN) LD.DL (orcsLinkCall5 me id a (.c0 j)) (stsLinkCall5 (.c0 j)) 13) (callN (mkX noPX oxN) LD.DL 13) (mkXP noPX) (orcLinkCall5 me id a (.c0 j)) (stLinkCall5 (.c0 j)) noLt 0 lpLinkCall5 ((loopLinkCall5 me id a).t0 (.c0 j)) [] ((loopLinkCall5 me id a).h0 (.c0 j)) (loopLinkCall5 me id a).end_ = treeLinkCall5_0 me id a j := by kernel_rfl
def treeLinkCall5_1 (me : Int) (id : Int) (a : Gw.Offer) (j : Nat) : DT (Ex × Snap) :=
  .ob (binV .leq (.int .i64 (2 + (j : Int))) (.int .i64 300) = some (.bool true)) (
.ob (binV .eql (.int .i64 (70 - (j : Int))) (.int .i64 0) = some (.bool false)) (
.ob (binV .sub (.int .i64 (70 - (j : Int))) (.int .i64 1) = some (.int .i64 (69 - (j : Int)))) (
.ob (binV .gtr (.int .i64 (69 - (j : Int))) (.int .i64 0) = some (.bool true)) (
.ob (binV .eql (.int .i64 (69 - (j : Int))) (.int .i64 0) = some (.bool false)) (
.ob (binV .add (.int .i64 (2 + (j : Int))) (.int .i64 1) = some (.int .i64 (3 + (j : Int)))) (
.leaf (.normal, SNLinkCall5 me id a (.int .i64 1) (.int .i64 0) (.int .i64 (3 + (j : Int))) (.int .i64 1) (.int .u32 id) (.int .i64 2) (.int .i64 1) (.int .i64 1) (.int .i64 (69 - (j : Int))))))))))
set_option maxRecDepth 1000000 in
theorem treeLinkCall5_1_eq (me : Int) (id : Int) (a : Gw.Offer) (j : Nat) : codeT (callT (mkXT noPX oxN) (mkXP noPX) (mkX noPX oxN) LD.DL (orcsLinkCall5 me id a (.c1 j)) (stsLinkCall5 (.c1 j)) 13) (callN (mkX noPX oxN) LD.DL 13) (mkXP noPX) (orcLinkCall5 me id a (.c1 j)) (stLinkCall5 (.c1 j)) noLt 0 lpLinkCall5 ((loopLinkCall5 me id a).t0 (.c1 j)) [] ((loopLinkCall5 me id a).h0 (.c1 j)) (loopLinkCall5 me id a).end_ = treeLinkCall5_1 me id a j := by kernel_rfl
def treeLinkCall5_2 (me : Int) (id : Int) (a : Gw.Offer) (j : Nat) : DT (Ex × Snap) :=
  .ob (dPut [.agg [.int .u32 me, .int .u32 id, .int .i64 2, .int .i64 1, .int .i64 (fineO a).baud, .int .i64 (fineO a).silent, .int .i64 (fineO a).win, .int .i64 (fineO a).size, .int .i64 (fineO a).wait]]) (
.ob (9 = 9 ∧ 0 ≤ (0 : Int) ∧ (0 : Int) < ((1 : Nat) : Int)) (
.ob (9 = 9 ∧ 0 ≤ (0 : Int) ∧ (0 : Int) < ((1 : Nat) : Int)) (
.ob (((V.beq (.agg [.int .i64 127, .int .i64 255]) (.agg [.int .i64 127, .int .i64 255])) && true) = true) (
.ob (True) (
.leaf (.normal, SNLinkCall5 me id a (.int .i64 2) (.int .i64 0) (.int .i64 72) (.int .i64 1) (.int .u32 id) (.int .i64 2) (.int .i64 1) (.int .i64 2) (.int .i64 70)))))))
set_option maxRecDepth 1000000 in
theorem treeLinkCall5_2_eq (me : Int) (id : Int) (a : Gw.Offer) (j : Nat) : codeT (callT (mkXT noPX oxN) (mkXP noPX) (mkX noPX oxN) LD.DL (orcsLinkCall5 me id a (.c2 j)) (stsLinkCall5 (.c2 j)) 13) (callN (mkX noPX oxN) LD.DL 13) (mkXP noPX) (orcLinkCall5 me id a (.c2 j)) (stLinkCall5 (.c2 j)) noLt 0 lpLinkCall5 ((loopLinkCall5 me id a).t0 (.c2 j)) [] ((loopLinkCall5 me id a).h0 (.c2 j)) (loopLinkCall5 me id a).end_ = treeLinkCall5_2 me id a j := by kernel_rfl
def treeLinkCall5_3 (me : Int) (id : Int) (a : Gw.Offer) (j : Nat) : DT (Ex × Snap) :=
  .ob (binV .leq (.int .i64 (72 + (j : Int))) (.int .i64 300) = some (.bool true)) (
.ob (binV .eql (.int .i64 (70 - (j : Int))) (.int .i64 0) = some (.bool false)) (
.ob (binV .sub (.int .i64 (70 - (j : Int))) (.int .i64 1) = some (.int .i64 (69 - (j : Int)))) (
.ob (binV .gtr (.int .i64 (69 - (j : Int))) (.int .i64 0) = some (.bool true)) (
.ob (binV .eql (.int .i64 (69 - (j : Int))) (.int .i64 0) = some (.bool false)) (
.ob (binV .add (.int .i64 (72 + (j : Int))) (.int .i64 1) = some (.int .i64 (73 + (j : Int)))) (
.leaf (.normal, SNLinkCall5 me id a (.int .i64 2) (.int .i64 0) (.int .i64 (73 + (j : Int))) (.int .i64 1) (.int .u32 id) (.int .i64 2) (.int .i64 1) (.int .i64 2) (.int .i64 (69 - (j : Int))))))))))
set_option maxRecDepth 1000000 in
theorem treeLinkCall5_3_eq (me : Int) (id : Int) (a : Gw.Offer) (j : Nat) : codeT (callT (mkXT noPX oxN) (mkXP noPX) (mkX noPX oxN) LD.DL (orcsLinkCall5 me id a (.c3 j)) (stsLinkCall5 (.c3 j)) 13) (callN (mkX noPX oxN) LD.DL 13) (mkXP noPX) (orcLinkCall5 me id a (.c3 j)) (stLinkCall5 (.c3 j)) noLt 0 lpLinkCall5 ((loopLinkCall5 me id a).t0 (.c3 j)) [] ((loopLinkCall5 me id a).h0 (.c3 j)) (loopLinkCall5 me id a).end_ = treeLinkCall5_3 me id a j := by kernel_rfl
def treeLinkCall5_4 (me : Int) (id : Int) (a : Gw.Offer) (j : Nat) : DT (Ex × Snap) :=
  .ob (dPut [.agg [.int .u32 me, .int .u32 id, .int .i64 2, .int .i64 1, .int .i64 (fineO a).baud, .int .i64 (fineO a).silent, .int .i64 (fineO a).win, .int .i64 (fineO a).size, .int .i64 (fineO a).wait]]) (
.ob (9 = 9 ∧ 0 ≤ (0 : Int) ∧ (0 : Int) < ((1 : Nat) : Int)) (
.ob (9 = 9 ∧ 0 ≤ (0 : Int) ∧ (0 : Int) < ((1 : Nat) : Int)) (
.ob (((V.beq (.agg [.int .i64 127, .int .i64 255]) (.agg [.int .i64 127, .int .i64 255])) && true) = true) (
.ob (True) (
.leaf (.normal, SNLinkCall5 me id a (.int .i64 3) (.int .i64 0) (.int .i64 142) (.int .i64 1) (.int .u32 id) (.int .i64 2) (.int .i64 1) (.int .i64 3) (.int .i64 70)))))))
set_option maxRecDepth 1000000 in
theorem treeLinkCall5_4_eq (me : Int) (id : Int) (a : Gw.Offer) (j : Nat) : codeT (callT (mkXT noPX oxN) (mkXP noPX) (mkX noPX oxN) LD.DL (orcsLinkCall5 me id a (.c4 j)) (stsLinkCall5 (.c4 j)) 13) (callN (mkX noPX oxN) LD.DL 13) (mkXP noPX) (orcLinkCall5 me id a (.c4 j)) (stLinkCall5 (.c4 j)) noLt 0 lpLinkCall5 ((loopLinkCall5 me id a).t0 (.c4 j)) [] ((loopLinkCall5 me id a).h0 (.c4 j)) (loopLinkCall5 me id a).end_ = treeLinkCall5_4 me id a j := by kernel_rfl
def treeLinkCall5_5 (me : Int) (id : Int) (a : Gw.Offer) (j : Nat) : DT (Ex × Snap) :=
  .ob (binV .leq (.int .i64 (142 + (j : Int))) (.int .i64 300) = some (.bool true)) (
.ob (binV .eql (.int .i64 (70 - (j : Int))) (.int .i64 0) = some (.bool false)) (
.ob (binV .sub (.int .i64 (70 - (j : Int))) (.int .i64 1) = some (.int .i64 (69 - (j : Int)))) (
.ob (binV .gtr (.int .i64 (69 - (j : Int))) (.int .i64 0) = some (.bool true)) (
.ob (binV .eql (.int .i64 (69 - (j : Int))) (.int .i64 0) = some (.bool false)) (
.ob (binV .add (.int .i64 (142 + (j : Int))) (.int .i64 1) = some (.int .i64 (143 + (j : Int)))) (
.leaf (.normal, SNLinkCall5 me id a (.int .i64 3) (.int .i64 0) (.int .i64 (143 + (j : Int))) (.int .i64 1) (.int .u32 id) (.int .i64 2) (.int .i64 1) (.int .i64 3) (.int .i64 (69 - (j : Int))))))))))
set_option maxRecDepth 1000000 in
theorem treeLinkCall5_5_eq (me : Int) (id : Int) (a : Gw.Offer) (j : Nat) : codeT (callT (mkXT noPX oxN) (mkXP noPX) (mkX noPX oxN) LD.DL (orcsLinkCall5 me id a (.c5 j)) (stsLinkCall5 (.c5 j)) 13) (callN (mkX noPX oxN) LD.DL 13) (mkXP noPX) (orcLinkCall5 me id a (.c5 j)) (stLinkCall5 (.c5 j)) noLt 0 lpLinkCall5 ((loopLinkCall5 me id a).t0 (.c5 j)) [] ((loopLinkCall5 me id a).h0 (.c5 j)) (loopLinkCall5 me id a).end_ = treeLinkCall5_5 me id a j := by kernel_rfl
def treeLinkCall5_6 (me : Int) (id : Int) (a : Gw.Offer) (j : Nat) : DT (Ex × Snap) :=
  .ob (4 = 4 ∧ 0 ≤ (0 : Int) ∧ (0 : Int) < ((1 : Nat) : Int)) (
.ob (binV .neq (.int .u32 id) (.int .u32 id) = some (.bool false)) (
.leaf (.normal, SNLinkCall5 me id a (.int .i64 3) (.int .i64 1) (.int .i64 212) (.int .i64 0) (.int .u32 0) (.int .i64 0) (.int .i64 0) (.int .i64 0) (.int .i64 0))))
set_option maxRecDepth 1000000 in
theorem treeLinkCall5_6_eq (me : Int) (id : Int) (a : Gw.Offer) (j : Nat) : codeT (callT (mkXT noPX oxN) (mkXP noPX) (mkX noPX oxN) LD.DL (orcsLinkCall5 me id a (.c6 j)) (stsLinkCall5 (.c6 j)) 13) (callN (mkX noPX oxN) LD.DL 13) (mkXP noPX) (orcLinkCall5 me id a (.c6 j)) (stLinkCall5 (.c6 j)) noLt 0 lpLinkCall5 ((loopLinkCall5 me id a).t0 (.c6 j)) [] ((loopLinkCall5 me id a).h0 (.c6 j)) (loopLinkCall5 me id a).end_ = treeLinkCall5_6 me id a j := by kernel_rfl
def treeLinkCall5_7 (me : Int) (id : Int) (a : Gw.Offer) (j : Nat) : DT (Ex × Snap) :=
  .ob (binV .leq (.int .i64 (212 + (j : Int))) (.int .i64 300) = some (.bool true)) (
.ob (binV .add (.int .i64 (212 + (j : Int))) (.int .i64 1) = some (.int .i64 (213 + (j : Int)))) (
.leaf (.normal, SNLinkCall5 me id a (.int .i64 3) (.int .i64 1) (.int .i64 (213 + (j : Int))) (.int .i64 0) (.int .u32 0) (.int .i64 0) (.int .i64 0) (.int .i64 0) (.int .i64 0))))
set_option maxRecDepth 1000000 in
theorem treeLinkCall5_7_eq (me : Int) (id : Int) (a : Gw.Offer) (j : Nat) : codeT (callT (mkXT noPX oxN) (mkXP noPX) (mkX noPX oxN) LD.DL (orcsLinkCall5 me id a (.c7 j)) (stsLinkCall5 (.c7 j)) 13) (callN (mkX noPX oxN) LD.DL 13) (mkXP noPX) (orcLinkCall5 me id a (.c7 j)) (stLinkCall5 (.c7 j)) noLt 0 lpLinkCall5 ((loopLinkCall5 me id a).t0 (.c7 j)) [] ((loopLinkCall5 me id a).h0 (.c7 j)) (loopLinkCall5 me id a).end_ = treeLinkCall5_7 me id a j := by kernel_rfl
def treeLinkCall5_8 (me : Int) (id : Int) (a : Gw.Offer) (j : Nat) : DT (Ex × Snap) :=
  .leaf ((.exit 0), XLinkCall5 me id a)
set_option maxRecDepth 1000000 in
theorem treeLinkCall5_8_eq (me : Int) (id : Int) (a : Gw.Offer) (j : Nat) : codeT (callT (mkXT noPX oxN) (mkXP noPX) (mkX noPX oxN) LD.DL (orcsLinkCall5 me id a (.c8 j)) (stsLinkCall5 (.c8 j)) 13) (callN (mkX noPX oxN) LD.DL 13) (mkXP noPX) (orcLinkCall5 me id a (.c8 j)) (stLinkCall5 (.c8 j)) noLt 0 lpLinkCall5 ((loopLinkCall5 me id a).t0 (.c8 j)) [] ((loopLinkCall5 me id a).h0 (.c8 j)) (loopLinkCall5 me id a).end_ = treeLinkCall5_8 me id a j := by kernel_rfl
def treeLinkCall5L (me : Int) (id : Int) (a : Gw.Offer) (i : ILinkCall5) : DT (Ex × Snap) := match i with
  | .c0 j => treeLinkCall5_0 me id a j
  | .c1 j => treeLinkCall5_1 me id a j
  | .c2 j => treeLinkCall5_2 me id a j
  | .c3 j => treeLinkCall5_3 me id a j
  | .c4 j => treeLinkCall5_4 me id a j
  | .c5 j => treeLinkCall5_5 me id a j
  | .c6 j => treeLinkCall5_6 me id a j
  | .c7 j => treeLinkCall5_7 me id a j
  | .c8 j => treeLinkCall5_8 me id a j
theorem roundLinkCall5 (me : Int) (id : Int) (a : Gw.Offer) (hm0 : me ≠ 0) (hm1 : me ≠ 4294967295) (rm : 0 ≤ me ∧ me < 4294967296) (hi0 : id ≠ 0) (hi1 : id ≠ 4294967295) (ri : 0 ≤ id ∧ id < 4294967296) (hne : id ≠ me) (i : ILinkCall5) (Pr : Ex × Snap → Prop) (h : ((loopLinkCall5 me id a).out i).sat Pr) : (treeLinkCall5L me id a i).sat ((loopLinkCall5 me id a).next muLinkCall5 i Pr) := by
  match i with
  | .c0 j =>
    have hj : j < 1 := h.1
    have hX := h.2
    obtain rfl : j = 0 := by omega
    exact sat_ob (okSet me id 2 1 a (show 0 < me ∧ me < 4294967295 by omega) (show 0 < id ∧ id < 4294967295 by omega) (by decide) (by decide)) (
sat_ob (by decide) (
sat_ob (by decide) (
sat_ob (by simp only [V.beq_refl, Bool.and_true]) (
sat_ob trivial (
sat_leaf (⟨.c1 0, by kernel_rfl, (by show 301 - (1 + 0) < 301 - (0 + 0); omega), ⟨(show 0 < 69 by decide), hX⟩⟩))))))
  | .c1 j =>
    have hj : j < 69 := h.1
    have hX := h.2
    exact sat_ob (by simp [binV, binI]; omega) (
sat_ob (by simp [binV, binI]; omega) (
sat_ob (by show some (V.int .i64 (wrapK .i64 ((70 - (j : Int)) - 1))) = _; rw [wrap_small (by omega), show ((70 - (j : Int)) - 1) = (69 - (j : Int)) by omega]) (
sat_ob (by simp [binV, binI]; omega) (
sat_ob (by simp [binV, binI]; omega) (
sat_ob (by show some (V.int .i64 (wrapK .i64 ((2 + (j : Int)) + 1))) = _; rw [wrap_small (by omega), show ((2 + (j : Int)) + 1) = (3 + (j : Int)) by omega]) (
sat_leaf (if h2 : j + 1 < 69 then ⟨.c1 (j + 1), (by show SNLinkCall5 me id a (.int .i64 1) (.int .i64 0) (.int .i64 (3 + (j : Int))) (.int .i64 1) (.int .u32 id) (.int .i64 2) (.int .i64 1) (.int .i64 1) (.int .i64 (69 - (j : Int))) = SNLinkCall5 me id a (.int .i64 1) (.int .i64 0) (.int .i64 (2 + ((j + 1 : Nat) : Int))) (.int .i64 1) (.int .u32 id) (.int .i64 2) (.int .i64 1) (.int .i64 1) (.int .i64 (70 - ((j + 1 : Nat) : Int))); rw [show ((2 + ((j + 1 : Nat) : Int)) : Int) = (3 + (j : Int)) by omega, show ((70 - ((j + 1 : Nat) : Int)) : Int) = (69 - (j : Int)) by omega]), (by show 301 - (1 + (j + 1)) < 301 - (1 + j); omega), ⟨h2, hX⟩⟩ else by
    obtain rfl : j = 68 := by omega
    exact ⟨.c2 0, by kernel_rfl, (by show 301 - (70 + 0) < 301 - (1 + 68); omega), ⟨(show 0 < 1 by decide), hX⟩⟩)))))))
  | .c2 j =>
    have hj : j < 1 := h.1
    have hX := h.2
    obtain rfl : j = 0 := by omega
    exact sat_ob (okSet me id 2 1 a (show 0 < me ∧ me < 4294967295 by omega) (show 0 < id ∧ id < 4294967295 by omega) (by decide) (by decide)) (
sat_ob (by decide) (
sat_ob (by decide) (
sat_ob (by simp only [V.beq_refl, Bool.and_true]) (
sat_ob trivial (
sat_leaf (⟨.c3 0, by kernel_rfl, (by show 301 - (71 + 0) < 301 - (70 + 0); omega), ⟨(show 0 < 69 by decide), hX⟩⟩))))))
  | .c3 j =>
    have hj : j < 69 := h.1
    have hX := h.2
    exact sat_ob (by simp [binV, binI]; omega) (
sat_ob (by simp [binV, binI]; omega) (
sat_ob (by show some (V.int .i64 (wrapK .i64 ((70 - (j : Int)) - 1))) = _; rw [wrap_small (by omega), show ((70 - (j : Int)) - 1) = (69 - (j : Int)) by omega]) (
sat_ob (by simp [binV, binI]; omega) (
sat_ob (by simp [binV, binI]; omega) (
sat_ob (by show some (V.int .i64 (wrapK .i64 ((72 + (j : Int)) + 1))) = _; rw [wrap_small (by omega), show ((72 + (j : Int)) + 1) = (73 + (j : Int)) by omega]) (
sat_leaf (if h2 : j + 1 < 69 then ⟨.c3 (j + 1), (by show SNLinkCall5 me id a (.int .i64 2) (.int .i64 0) (.int .i64 (73 + (j : Int))) (.int .i64 1) (.int .u32 id) (.int .i64 2) (.int .i64 1) (.int .i64 2) (.int .i64 (69 - (j : Int))) = SNLinkCall5 me id a (.int .i64 2) (.int .i64 0) (.int .i64 (72 + ((j + 1 : Nat) : Int))) (.int .i64 1) (.int .u32 id) (.int .i64 2) (.int .i64 1) (.int .i64 2) (.int .i64 (70 - ((j + 1 : Nat) : Int))); rw [show ((70 - ((j + 1 : Nat) : Int)) : Int) = (69 - (j : Int)) by omega, show ((72 + ((j + 1 : Nat) : Int)) : Int) = (73 + (j : Int)) by omega]), (by show 301 - (71 + (j + 1)) < 301 - (71 + j); omega), ⟨h2, hX⟩⟩ else by
    obtain rfl : j = 68 := by omega
    exact ⟨.c4 0, by kernel_rfl, (by show 301 - (140 + 0) < 301 - (71 + 68); omega), ⟨(show 0 < 1 by decide), hX⟩⟩)))))))
  | .c4 j =>
    have hj : j < 1 := h.1
    have hX := h.2
    obtain rfl : j = 0 := by omega
    exact sat_ob (okSet me id 2 1 a (show 0 < me ∧ me < 4294967295 by omega) (show 0 < id ∧ id < 4294967295 by omega) (by decide) (by decide)) (
sat_ob (by decide) (
sat_ob (by decide) (
sat_ob (by simp only [V.beq_refl, Bool.and_true]) (
sat_ob trivial (
sat_leaf (⟨.c5 0, by kernel_rfl, (by show 301 - (141 + 0) < 301 - (140 + 0); omega), ⟨(show 0 < 69 by decide), hX⟩⟩))))))
  | .c5 j =>
    have hj : j < 69 := h.1
    have hX := h.2
    exact sat_ob (by simp [binV, binI]; omega) (
sat_ob (by simp [binV, binI]; omega) (
sat_ob (by show some (V.int .i64 (wrapK .i64 ((70 - (j : Int)) - 1))) = _; rw [wrap_small (by omega), show ((70 - (j : Int)) - 1) = (69 - (j : Int)) by omega]) (
sat_ob (by simp [binV, binI]; omega) (
sat_ob (by simp [binV, binI]; omega) (
sat_ob (by show some (V.int .i64 (wrapK .i64 ((142 + (j : Int)) + 1))) = _; rw [wrap_small (by omega), show ((142 + (j : Int)) + 1) = (143 + (j : Int)) by omega]) (
sat_leaf (if h2 : j + 1 < 69 then ⟨.c5 (j + 1), (by show SNLinkCall5 me id a (.int .i64 3) (.int .i64 0) (.int .i64 (143 + (j : Int))) (.int .i64 1) (.int .u32 id) (.int .i64 2) (.int .i64 1) (.int .i64 3) (.int .i64 (69 - (j : Int))) = SNLinkCall5 me id a (.int .i64 3) (.int .i64 0) (.int .i64 (142 + ((j + 1 : Nat) : Int))) (.int .i64 1) (.int .u32 id) (.int .i64 2) (.int .i64 1) (.int .i64 3) (.int .i64 (70 - ((j + 1 : Nat) : Int))); rw [show ((142 + ((j + 1 : Nat) : Int)) : Int) = (143 + (j : Int)) by omega, show ((70 - ((j + 1 : Nat) : Int)) : Int) = (69 - (j : Int)) by omega]), (by show 301 - (141 + (j + 1)) < 301 - (141 + j); omega), ⟨h2, hX⟩⟩ else by
    obtain rfl : j = 68 := by omega
    exact ⟨.c6 0, by kernel_rfl, (by show 301 - (210 + 0) < 301 - (141 + 68); omega), ⟨(show 0 < 1 by decide), hX⟩⟩)))))))
  | .c6 j =>
    have hj : j < 1 := h.1
    have hX := h.2
    obtain rfl : j = 0 := by omega
    exact sat_ob (by decide) (
sat_ob (by simp [binV, binI, hm0, hm1, hi0, hi1, hne]) (
sat_leaf (⟨.c7 0, by kernel_rfl, (by show 301 - (211 + 0) < 301 - (210 + 0); omega), ⟨(show 0 < 89 by decide), hX⟩⟩)))
  | .c7 j =>
    have hj : j < 89 := h.1
    have hX := h.2
    exact sat_ob (by simp [binV, binI]; omega) (
sat_ob (by show some (V.int .i64 (wrapK .i64 ((212 + (j : Int)) + 1))) = _; rw [wrap_small (by omega), show ((212 + (j : Int)) + 1) = (213 + (j : Int)) by omega]) (
sat_leaf (if h2 : j + 1 < 89 then ⟨.c7 (j + 1), (by show SNLinkCall5 me id a (.int .i64 3) (.int .i64 1) (.int .i64 (213 + (j : Int))) (.int .i64 0) (.int .u32 0) (.int .i64 0) (.int .i64 0) (.int .i64 0) (.int .i64 0) = SNLinkCall5 me id a (.int .i64 3) (.int .i64 1) (.int .i64 (212 + ((j + 1 : Nat) : Int))) (.int .i64 0) (.int .u32 0) (.int .i64 0) (.int .i64 0) (.int .i64 0) (.int .i64 0); rw [show ((212 + ((j + 1 : Nat) : Int)) : Int) = (213 + (j : Int)) by omega]), (by show 301 - (211 + (j + 1)) < 301 - (211 + j); omega), ⟨h2, hX⟩⟩ else by
    obtain rfl : j = 88 := by omega
    exact ⟨.c8 0, by kernel_rfl, (by show 301 - (300 + 0) < 301 - (211 + 88); omega), ⟨(show 0 < 1 by decide), hX⟩⟩)))
  | .c8 j =>
    have hj : j < 1 := h.1
    have hX := h.2
    obtain rfl : j = 0 := by omega
    exact sat_leaf (hX)
theorem ltLinkCall5_ok (me : Int) (id : Int) (a : Gw.Offer) (hm0 : me ≠ 0) (hm1 : me ≠ 4294967295) (rm : 0 ≤ me ∧ me < 4294967296) (hi0 : id ≠ 0) (hi1 : id ≠ 4294967295) (ri : 0 ≤ id ∧ id < 4294967296) (hne : id ≠ me) (hint : Nat → List Nat) : Lt1 Tryz.prog hint 3 (loopLinkCall5 me id a).lt lpLinkCall5 :=
  LoopD.lt1c mixed (show TabX Tryz.prog noPX oxN from tabN) LD.tabDL (loopLinkCall5 me id a) muLinkCall5 (fun ex => match ex with | .normal => ⟨show 3 ≤ 23 by decide, show 3 ≤ 23 by decide⟩ | .exit _ => ⟨show 3 ≤ 23 by decide, show 3 ≤ 23 by decide⟩ | .ret => ⟨show 3 ≤ 23 by decide, show 3 ≤ 23 by decide⟩) (orcs := orcsLinkCall5 me id a) (sts := stsLinkCall5) (orc := orcLinkCall5 me id a) (st := stLinkCall5) (tree := treeLinkCall5L me id a)
    (fun i => match i with
    | .c0 j => treeLinkCall5_0_eq me id a j
    | .c1 j => treeLinkCall5_1_eq me id a j
    | .c2 j => treeLinkCall5_2_eq me id a j
    | .c3 j => treeLinkCall5_3_eq me id a j
    | .c4 j => treeLinkCall5_4_eq me id a j
    | .c5 j => treeLinkCall5_5_eq me id a j
    | .c6 j => treeLinkCall5_6_eq me id a j
    | .c7 j => treeLinkCall5_7_eq me id a j
    | .c8 j => treeLinkCall5_8_eq me id a j) (roundLinkCall5 me id a hm0 hm1 rm hi0 hi1 ri hne)
def oxLinkCall5 (me : Int) (id : Int) (a : Gw.Offer) : OTab := (consT 79 (gD dGet pGet noV) (consT 106 (gD dPut pPut noV) (consT 80 (gDT kT0 kT1 kT2 dDeal pDeal noV) (consT 76 (gD dOff pMayQ (fun n => match n with | 7 => some (.bool true) | _ => none)) (consT 20 (gD dOff pFine noV) (consO 19 (gTrue kT0 kT1 kT2) noOX))))))
def treeLinkCall5 (me : Int) (id : Int) (a : Gw.Offer) : DT V :=
  .ob (dOff [.agg a.vs]) (
.ob (binV .eql (.int .u32 me) (.int .u32 0) = some (.bool false)) (
.ob (binV .eql (.int .u32 me) (.int .u32 4294967295) = some (.bool false)) (
.ob (dOff [.agg (fineO a).vs]) (
.ob (pMayQ [.agg (fineO a).vs] = (.bool true)) (
.ob (((eqV (.agg [.i, .i, .i, .s]) (.agg [.int .i64 2, .int .i64 0, .int .u32 id, .str []]) (.agg [.int .i64 2, .int .i64 0, .int .u32 id, .str []])).map fun b => V.bool (if false then !b else b)) = some (.bool true)) (
.ob (binV .neq (.int .u32 id) (.int .u32 0) = some (.bool true)) (
.ob (binV .neq (.int .u32 id) (.int .u32 4294967295) = some (.bool true)) (
.ob (binV .eql (.int .u32 id) (.int .u32 me) = some (.bool false)) (
.ob (IntKind.i64 = IntKind.i64 ∧ (250 : Int) ≠ 0) (
.ob (((V.beq (.int .u32 id) (.int .u32 id)) && true) = true) (
.ob (((V.beq (.int .u32 id) (.int .u32 id)) && true) = true) (
.ob ((([.int .u32 me, .int .u32 id, .agg a.vs, .ptr 3 0, .bool true, .ptr 11 0, .int .i64 0, .int .i64 0, .int .i64 0, .int .i64 1, .bool true, .bool true, .bool false, .agg a.vs, .agg (fineO a).vs, .int .u32 me, .agg (fineO a).vs, .ptr 11 0, .ptr 11 0, .bool false, .ptr 11 0, .int .u32 id, .agg [.int .i64 2, .int .i64 0, .int .u32 id, .str []], .int .i64 0, .int .i64 0, .bool false], [some (.cells true (zsV .u8 kT0)), some (.cells true (zsV .u8 kT1)), some (.cells true (zsV .u8 kT2)), some (.cells false (fineO a).vs), none, some (.cells false (fineO a).vs), none, none, none, none, none, some (.cells false [.int .u32 me, .int .i64 2, .int .i64 (fineO a).baud, .int .i64 (fineO a).silent, .int .i64 (fineO a).win, .int .i64 (fineO a).size, .int .i64 (fineO a).wait, .int .i64 1, .int .u32 id, .int .i64 2, .int .i64 1, .int .i64 0, .int .i64 0, .int .i64 0, .int .i64 0, .int .i64 0, .nilp, .int .i64 1, .int .i64 0, .int .i64 0, .int .i64 0, .int .i64 0, .int .i64 0, .int .i64 0, .bool false, .bool false, .bool false, .nils]), none, some (.cells false [.int .i64 2, .int .i64 0, .int .u32 id, .str []]), none, some (.cells false [.int .i64 2, .int .i64 0, .int .u32 id, .str []]), none, none, none, none, some (.cells false [.int .i64 2, .int .i64 0, .int .u32 id, .str []]), none, some (.cells false [.int .i64 2, .int .i64 1])]) : Snap) = (loopLinkCall5 me id a).S (.c0 0)) (
.ob (invLinkCall5 (.c0 0)) (
.leaf (.bool true)))))))))))))))
set_option maxRecDepth 1000000 in
theorem treeLinkCall5_eq (me : Int) (id : Int) (a : Gw.Offer) : funT (mkXT (noPX) (oxLinkCall5 me id a)) (mkXP (noPX)) (mkX (noPX) (oxLinkCall5 me id a)) LD.DL (fun g => match g with | 35 => (fun k => match k with | 8 => some fun t h => (.bool false, h) | 11 => some fun t h => (.bool false, h) | _ => none) | 56 => (fun k => match k with | 40 => some fun t h => (.bool true, h) | 44 => some fun t h => (.bool true, h) | 49 => some fun t h => (.bool true, h) | _ => none) | 22 => (fun k => match k with | 57 => some fun t h => (.bool false, h) | _ => none) | _ => noOrc) (fun k => match k with | 6 => [17, 35, 116, 119, 124] | 22 => [10, 15, 20, 25, 30, 31, 37, 41, 50, 57] | 35 => [8, 11, 15, 19, 23] | 56 => [10, 33, 40, 44, 49] | _ => []) 12 noOrc [17, 35, 116, 119, 124] (ltLinkCall5 me id a) LD.c6 [.int .u32 me, .int .u32 id, .agg a.vs] (tabH kT0 kT1 kT2 3) (fun v _ => v) = treeLinkCall5 me id a := by kernel_rfl
theorem satLinkCall5 (me : Int) (id : Int) (a : Gw.Offer) (hm0 : me ≠ 0) (hm1 : me ≠ 4294967295) (rm : 0 ≤ me ∧ me < 4294967296) (hi0 : id ≠ 0) (hi1 : id ≠ 4294967295) (ri : 0 ≤ id ∧ id < 4294967296) (hne : id ≠ me) : (treeLinkCall5 me id a).sat fun v => v = .bool true :=
 sat_ob trivial (
sat_ob (by simp [binV, binI, hm0, hm1, hi0, hi1, hne]) (
sat_ob (by simp [binV, binI, hm0, hm1, hi0, hi1, hne]) (
sat_ob trivial (
sat_ob (pMay_fine a) (
sat_ob (by simp [eqV, eqCells]) (
sat_ob (by simp [binV, binI, hm0, hm1, hi0, hi1, hne]) (
sat_ob (by simp [binV, binI, hm0, hm1, hi0, hi1, hne]) (
sat_ob (by simp [binV, binI, hm0, hm1, hi0, hi1, hne]) (
sat_ob (by decide) (
sat_ob (by simp only [V.beq_refl, Bool.and_true]) (
sat_ob (by simp only [V.beq_refl, Bool.and_true]) (
sat_ob (by kernel_rfl) (
sat_ob (show 0 < 1 by decide) (
sat_leaf (rfl)))))))))))))))
def lpLinkCall5_1 : DC := (((loopsIn 0 LD.c6.body)[1]?).getD (0, .skip)).2
theorem loopsLinkCall5 : loopsIn 0 LD.c6.body = [(0, lpLinkCall5), (2, lpLinkCall5_1)] := by kernel_rfl
theorem runLinkCall5 (me : Int) (id : Int) (a : Gw.Offer) (hm0 : me ≠ 0) (hm1 : me ≠ 4294967295) (rm : 0 ≤ me ∧ me < 4294967296) (hi0 : id ≠ 0) (hi1 : id ≠ 4294967295) (ri : 0 ≤ id ∧ id < 4294967296) (hne : id ≠ me) : Run Tryz.prog 6 [.int .u32 me, .int .u32 id, .agg a.vs] (tabH kT0 kT1 kT2 3) fun v _ => v = .bool true := by
  refine run_loops mixed (show TabX Tryz.prog noPX (oxLinkCall5 me id a) from ((((((TabX.nil.addO ans_begun).addT (ans_fine noV)).addT (ans_may (fun n => match n with | 7 => some (.bool true) | _ => none))).addT (ans_deal noV)).addT (ans_put noV)).addT (ans_get noV))) LD.tabDL (show LD.DL 6 = some LD.c6 from rfl) (lt := ltLinkCall5 me id a) (fun hint p hp => ?_) (treeLinkCall5_eq me id a) (satLinkCall5 me id a hm0 hm1 rm hi0 hi1 ri hne)
  rw [loopsLinkCall5] at hp
  simp only [List.mem_cons, List.not_mem_nil, or_false] at hp
  rcases hp with rfl | rfl
  · exact ltLinkCall5_ok me id a hm0 hm1 rm hi0 hi1 ri hne hint
  · exact lt1_none
theorem runLinkCall (me id : Int) (a : Gw.Offer) (rm : 0 ≤ me ∧ me < 4294967296) (ri : 0 ≤ id ∧ id < 4294967296) : Run Tryz.prog 6 [.int .u32 me, .int .u32 id, .agg a.vs] (tabH kT0 kT1 kT2 3) fun v _ => v = .bool true := by
  by_cases h0 : me = 0
  · subst h0; exact runLinkCall0 id a
  by_cases h1 : me = 4294967295
  · subst h1; exact runLinkCall1 id a
  by_cases i0 : id = 0
  · subst i0; exact runLinkCall2 me a h0 h1 rm
  by_cases i1 : id = 4294967295
  · subst i1; exact runLinkCall3 me a h0 h1 rm
  by_cases e : id = me
  · subst e; exact runLinkCall4 id a h0 h1 rm
  exact runLinkCall5 me id a h0 h1 rm i0 i1 ri e
end Go.Proofs.YtbkgcdncdaeiaaaGreatDoor
