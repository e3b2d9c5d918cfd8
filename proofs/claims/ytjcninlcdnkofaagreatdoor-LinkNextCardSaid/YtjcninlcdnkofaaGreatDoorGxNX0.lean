/- LN: its trees, its loops. -/
import Derived.Test.YtjcninlcdnkofaaGreatDoorGxNX
noncomputable section
namespace Go.Proofs.YtjcninlcdnkofaaGreatDoor
open Go Gw Go.RowKit
set_option linter.unusedSimpArgs false
set_option linter.unusedVariables false
def oxLN_0 (seat : Int) (n : Int) (st : Int) : OTab := (consT 46 (gD dGet pGet noV) (consT 70 (gD dPut pPut noV) (consT 47 (gDT kT0 kT1 kT2 dDeal pDeal noV) (consT 43 (gD dOff pMayQ (fun n => match n with | 7 => some (.bool true) | _ => none)) (consO 9 (gTrue kT0 kT1 kT2) noOX)))))
def treeLN_0 (seat : Int) (n : Int) (st : Int) : DT V :=
  .ob (IntKind.i64 = IntKind.i64 ∧ (8 : Int) ≠ 0) (
.ob (binV .rem (vi (wrapK .i64 (((seat : Int).tmod 8) + 8))) (vi 8) = some (vi st)) (
.ob (binV .rem (vi n) (vi 300) = some (vi 0)) (
.ob (IntKind.i64 = IntKind.i64 ∧ (300 : Int) ≠ 0) (
.ob (binV .lss (vi st) (vi 0) = some (.bool false)) (
.ob (binV .geq (vi st) (vi 8) = some (.bool false)) (
.ob (dOff [.agg [vi 1, vi 1, vi 1, vi 1, vi 1]]) (
.ob (pMayQ [.agg [vi 1, vi 1, vi 1, vi 1, vi 1]] = (.bool true)) (
.leaf (.bool true)))))))))
set_option maxRecDepth 1000000 in
theorem treeLN_0_eq (seat : Int) (n : Int) (st : Int) : funT (mkXT (noPX) (oxLN_0 seat n st)) (mkXP (noPX)) (mkX (noPX) (oxLN_0 seat n st)) D (fun g => match g with | 21 => (fun k => match k with | 15 => some fun t h => (.bool false, h) | 19 => some fun t h => (.bool false, h) | _ => none) | _ => noOrc) (fun k => match k with | 6 => [9, 28] | 21 => [8, 11, 15, 19, 23] | _ => []) 12 (fun k => match k with | 15 => some fun t h => (vi st, h) | 17 => some fun t h => (vi 0, h) | _ => none) [9, 28] (noLt) (dOf 6) [vi seat, vi n] (tabH kT0 kT1 kT2 3) (fun v _ => v) = treeLN_0 seat n st := by kernel_rfl
theorem satLN_0 (seat : Int) (n : Int) (st : Int) (hst : (seat.tmod 8 + 8).tmod 8 = st) (hs : 0 ≤ st ∧ st < 8) (hn : (n.tmod 300 + 300).tmod 300 = 0) : (treeLN_0 seat n st).sat fun v => v = .bool true :=
 sat_ob (by decide) (
sat_ob (rem8 hst) (
sat_ob (rem300z hn) (
sat_ob (by decide) (
sat_ob (by simp [binV, binI]; omega) (
sat_ob (by simp [binV, binI]; omega) (
sat_ob trivial (
sat_ob (may_of mayO_one) (
sat_leaf (rfl)))))))))
theorem runLN_0 (seat : Int) (n : Int) (st : Int) (hst : (seat.tmod 8 + 8).tmod 8 = st) (hs : 0 ≤ st ∧ st < 8) (hn : (n.tmod 300 + 300).tmod 300 = 0) : Run Tryz.prog 6 [vi seat, vi n] (tabH kT0 kT1 kT2 3) fun v _ => v = .bool true := run_plainU mixed (show TabX Tryz.prog noPX (oxLN_0 seat n st) from (((((TabX.nil.addO ans_begun).addT (ans_may (fun n => match n with | 7 => some (.bool true) | _ => none))).addT (ans_deal noV)).addT (ans_put noV)).addT (ans_get noV))) tabD (dIs (by kernel_rfl)) (treeLN_0_eq seat n st) (satLN_0 seat n st hst hs hn)
inductive ILNi
  | c0 (j : Nat)
  | c1 (j : Nat)
  | c2 (j : Nat)
  | c3 (j : Nat)
  | c4 (j : Nat)
  | c5 (j : Nat)
  | c6 (j : Nat)
  | c7 (j : Nat)
def RWLNi (seat : Int) (n : Int) (st : Int) (m : Nat) (ti : Int) (tc : Int) (w0 : V) (w1 : V) (w2 : V) (w3 : V) (w4 : V) (w5 : V) (w6 : V) : List (Option Blk) := [some (.cells true (zsV .u8 kT0)), some (.cells true (zsV .u8 kT1)), some (.cells true (zsV .u8 kT2)), cF [vi 1, vi 1, vi 1, vi 1, vi 1], cF [vi 1, vi 1, vi 1, vi 1, vi 1], cF [vi 1, vi 1, vi 1, vi 1, vi 1], none, none, none, none, none, cF [.int .u32 5, vi st, vi 1, vi 1, vi 1, vi 1, vi 1, w1, w2, w3, w4, vi 0, vi 0, vi 0, vi 0, vi 0, .nilp, vi tc, vi 0, vi 0, w5, w6, vi 0, vi 0, .bool false, .bool false, .bool false, .nils], none, some (.cells false [vi 2, vi 0, .int .u32 6, .str []]), none, some (.cells false [vi 2, vi 0, .int .u32 6, .str []]), none, none, none, none, some (.cells false [vi 2, vi 0, .int .u32 6, .str []]), none, cF [vi st, vi tc], cF [vi st, vi tc]]
def SNLNi (seat : Int) (n : Int) (st : Int) (m : Nat) (ti : Int) (tc : Int) (w0 : V) (w1 : V) (w2 : V) (w3 : V) (w4 : V) (w5 : V) (w6 : V) : Snap := ([vi st, vi (m : Int), .bool true, .ptr 11 0, vi ti, w0, .bool true, .bool true, .bool false, vi seat, vi ((seat : Int).tmod 8), vi (wrapK .i64 (((seat : Int).tmod 8) + 8)), vi st, vi n, vi ((n : Int).tmod 300), vi (wrapK .i64 (((n : Int).tmod 300) + 300)), vi (m : Int), vi st, .agg [vi 0, vi 0, vi 0, vi 0, vi 0], .agg [vi 1, vi 1, vi 1, vi 1, vi 1], .ptr 11 0, .ptr 11 0, .bool false, vi ti, vi (m : Int), .bool true, .ptr 11 0, .agg [vi 2, vi 0, .int .u32 6, .str []], vi 0, .bool false, .bool false, .ptr 11 0, .agg [vi st, vi tc], vi st, vi ti, vi tc, .agg [vi st, vi tc], .bool false, .bool false], RWLNi seat n st m ti tc w0 w1 w2 w3 w4 w5 w6)
def SSLNi (seat : Int) (n : Int) (st : Int) (m : Nat) (ti : Int) (tc : Int) (i : ILNi) : Snap := match i with
  | .c0 j => SNLNi seat n st m ti tc (vi 0) (vi 1) (.int .u32 6) (vi st) (vi tc) (vi 0) (vi 0)
  | .c1 j => SNLNi seat n st m ti tc (vi (1 + (j : Int))) (vi 1) (.int .u32 6) (vi st) (vi tc) (vi 1) (vi (70 - (j : Int)))
  | .c2 j => SNLNi seat n st m ti tc (vi 70) (vi 1) (.int .u32 6) (vi st) (vi tc) (vi 1) (vi 1)
  | .c3 j => SNLNi seat n st m ti tc (vi (71 + (j : Int))) (vi 1) (.int .u32 6) (vi st) (vi tc) (vi 2) (vi (70 - (j : Int)))
  | .c4 j => SNLNi seat n st m ti tc (vi 140) (vi 1) (.int .u32 6) (vi st) (vi tc) (vi 2) (vi 1)
  | .c5 j => SNLNi seat n st m ti tc (vi (141 + (j : Int))) (vi 1) (.int .u32 6) (vi st) (vi tc) (vi 3) (vi (70 - (j : Int)))
  | .c6 j => SNLNi seat n st m ti tc (vi 210) (vi 1) (.int .u32 6) (vi st) (vi tc) (vi 3) (vi 1)
  | .c7 j => SNLNi seat n st m ti tc (vi 211) (vi 0) (.int .u32 0) (vi 0) (vi 0) (vi 0) (vi 0)
def XLNi (seat : Int) (n : Int) (st : Int) (m : Nat) (ti : Int) (tc : Int) : Snap := ([vi st, vi (m : Int), .bool true, .ptr 11 0, vi ti, .bool true, .bool true, .bool false, vi seat, vi ((seat : Int).tmod 8), vi (wrapK .i64 (((seat : Int).tmod 8) + 8)), vi st, vi n, vi ((n : Int).tmod 300), vi (wrapK .i64 (((n : Int).tmod 300) + 300)), vi (m : Int), vi st, .agg [vi 0, vi 0, vi 0, vi 0, vi 0], .agg [vi 1, vi 1, vi 1, vi 1, vi 1], .ptr 11 0, .ptr 11 0, .bool false, vi ti, vi (m : Int), .bool true, .ptr 11 0, .agg [vi 2, vi 0, .int .u32 6, .str []], vi 0, .bool false, .bool false, .ptr 11 0, .agg [vi st, vi tc], vi st, vi ti, vi tc, .agg [vi st, vi tc], .bool false, .bool false], RWLNi seat n st m ti tc (vi 0) (vi 0) (.int .u32 0) (vi 0) (vi 0) (vi 0) (vi 0))
def invLNi (i : ILNi) : Prop := match i with
  | .c0 j => j < 1
  | .c1 j => j < 69
  | .c2 j => j < 1
  | .c3 j => j < 69
  | .c4 j => j < 1
  | .c5 j => j < 69
  | .c6 j => j < 1
  | .c7 j => j < 1
def muLNi (i : ILNi) : Nat := match i with
  | .c0 j => 212 - (0 + j)
  | .c1 j => 212 - (1 + j)
  | .c2 j => 212 - (70 + j)
  | .c3 j => 212 - (71 + j)
  | .c4 j => 212 - (140 + j)
  | .c5 j => 212 - (141 + j)
  | .c6 j => 212 - (210 + j)
  | .c7 j => 212 - (211 + j)
def loopLNi (seat : Int) (n : Int) (st : Int) (m : Nat) (ti : Int) (tc : Int) : LoopD ILNi where
  nt := 64
  fr := fun ex => match ex with | .normal => ⟨[0, 1, 5, 6, 7, 8, 9, 10, 11, 12, 13, 14, 15, 16, 17, 18, 19, 20, 21, 22, 23, 24, 25, 26, 27, 28, 31, 32, 33, 34, 35, 36, 37, 38, 39, 40, 41, 42, 43], 24, []⟩ | .exit _ => ⟨[0, 1, 5, 6, 7, 9, 10, 11, 12, 13, 14, 15, 16, 17, 18, 19, 20, 21, 22, 23, 24, 25, 26, 27, 28, 31, 32, 33, 34, 35, 36, 37, 38, 39, 40, 41, 42, 43], 24, []⟩ | .ret => ⟨[], 24, []⟩
  S := SSLNi seat n st m ti tc
  out := fun i => .ob (invLNi i) (.leaf ((.exit 2), XLNi seat n st m ti tc))
  pick := fun _ => .c0 0
def ltLNi (seat : Int) (n : Int) (st : Int) (m : Nat) (ti : Int) (tc : Int) : Lt := fun k => match k with | 2 => (loopLNi seat n st m ti tc).lt | _ => fun _ _ => .fail
def lpLNi : DC := (((loopsIn 0 (dOf 6).body)[1]?).getD (0, .skip)).2
def orcLNi (seat : Int) (n : Int) (st : Int) (m : Nat) (ti : Int) (tc : Int) (i : ILNi) : Orc := match i with
  | .c0 j => noOrc
  | .c1 j => (fun k => match k with | 45 => some fun t h => (.bool true, h) | 52 => some fun t h => (vi (2 + (j : Int)), h) | _ => none)
  | .c2 j => noOrc
  | .c3 j => (fun k => match k with | 45 => some fun t h => (.bool true, h) | 52 => some fun t h => (vi (72 + (j : Int)), h) | _ => none)
  | .c4 j => noOrc
  | .c5 j => (fun k => match k with | 45 => some fun t h => (.bool true, h) | 52 => some fun t h => (vi (142 + (j : Int)), h) | _ => none)
  | .c6 j => noOrc
  | .c7 j => noOrc
def orcsLNi (seat : Int) (n : Int) (st : Int) (m : Nat) (ti : Int) (tc : Int) (i : ILNi) : Nat → Orc := match i with
  | .c0 j => (fun _ => noOrc)
  | .c1 j => (fun g => match g with | 35 => (fun k => match k with | 32 => some fun t h => (.bool false, h) | 37 => some fun t h => (vi (69 - (j : Int)), h) | 44 => some fun t h => (.bool true, h) | _ => none) | 16 => (fun k => match k with | 58 => some fun t h => (.bool false, h) | _ => none) | _ => noOrc)
  | .c2 j => (fun _ => noOrc)
  | .c3 j => (fun g => match g with | 35 => (fun k => match k with | 32 => some fun t h => (.bool false, h) | 37 => some fun t h => (vi (69 - (j : Int)), h) | 44 => some fun t h => (.bool true, h) | _ => none) | 16 => (fun k => match k with | 58 => some fun t h => (.bool false, h) | _ => none) | _ => noOrc)
  | .c4 j => (fun _ => noOrc)
  | .c5 j => (fun g => match g with | 35 => (fun k => match k with | 32 => some fun t h => (.bool false, h) | 37 => some fun t h => (vi (69 - (j : Int)), h) | 44 => some fun t h => (.bool true, h) | _ => none) | 16 => (fun k => match k with | 58 => some fun t h => (.bool false, h) | _ => none) | _ => noOrc)
  | .c6 j => (fun _ => noOrc)
  | .c7 j => (fun _ => noOrc)
def stsLNi (i : ILNi) : Nat → List Nat := match i with
  | .c0 j => (fun k => match k with | 6 => [45, 49] | 16 => [15, 22, 31, 52, 58] | 35 => [8, 32] | 37 => [28, 30] | 71 => [10] | _ => [])
  | .c1 j => (fun k => match k with | 6 => [45, 49] | 16 => [15, 22, 31, 52, 58, 74] | 35 => [8, 32, 44] | _ => [])
  | .c2 j => (fun k => match k with | 6 => [45, 49] | 16 => [15, 22, 31, 52, 58] | 35 => [8, 32, 44, 55, 61, 68] | 37 => [28, 30] | 71 => [10] | _ => [])
  | .c3 j => (fun k => match k with | 6 => [45, 49] | 16 => [15, 22, 31, 52, 58, 74] | 35 => [8, 32, 44] | _ => [])
  | .c4 j => (fun k => match k with | 6 => [45, 49] | 16 => [15, 22, 31, 52, 58] | 35 => [8, 32, 44, 55, 61, 68] | 37 => [28, 30] | 71 => [10] | _ => [])
  | .c5 j => (fun k => match k with | 6 => [45, 49] | 16 => [15, 22, 31, 52, 58, 74] | 35 => [8, 32, 44] | _ => [])
  | .c6 j => (fun k => match k with | 6 => [45, 49] | 16 => [15] | 35 => [8, 32, 44, 55, 61] | _ => [])
  | .c7 j => (fun k => match k with | 6 => [45, 49] | _ => [])
def stLNi (i : ILNi) : List Nat := match i with
  | .c0 j => [45, 49]
  | .c1 j => [45, 49]
  | .c2 j => [45, 49]
  | .c3 j => [45, 49]
  | .c4 j => [45, 49]
  | .c5 j => [45, 49]
  | .c6 j => [45, 49]
  | .c7 j => [45, 49]
def treeLNi_0 (seat : Int) (n : Int) (st : Int) (m : Nat) (ti : Int) (tc : Int) (j : Nat) : DT (Ex × Snap) :=
  .ob (dPut [.agg [.int .u32 5, .int .u32 6, vi st, vi tc, vi 1, vi 1, vi 1, vi 1, vi 1]]) (
.leaf (.normal, SNLNi seat n st m ti tc (vi 1) (vi 1) (.int .u32 6) (vi st) (vi tc) (vi 1) (vi 70)))
set_option maxRecDepth 1000000 in
theorem treeLNi_0_eq (seat : Int) (n : Int) (st : Int) (m : Nat) (ti : Int) (tc : Int) (j : Nat) : rnd (orcsLNi seat n st m ti tc (.c0 j)) (stsLNi (.c0 j)) (orcLNi seat n st m ti tc (.c0 j)) (stLNi (.c0 j)) noLt 2 lpLNi ((loopLNi seat n st m ti tc).t0 (.c0 j)) [] ((loopLNi seat n st m ti tc).h0 (.c0 j)) (loopLNi seat n st m ti tc).end_ = treeLNi_0 seat n st m ti tc j := by kernel_rfl
def treeLNi_1 (seat : Int) (n : Int) (st : Int) (m : Nat) (ti : Int) (tc : Int) (j : Nat) : DT (Ex × Snap) :=
  .ob (binV .lss (vi (1 + (j : Int))) (vi 212) = some (.bool true)) (
.ob (binV .eql (vi (70 - (j : Int))) (vi 0) = some (.bool false)) (
.ob (binV .sub (vi (70 - (j : Int))) (vi 1) = some (vi (69 - (j : Int)))) (
.ob (binV .gtr (vi (69 - (j : Int))) (vi 0) = some (.bool true)) (
.ob (binV .eql (vi (69 - (j : Int))) (vi 0) = some (.bool false)) (
.ob (binV .add (vi (1 + (j : Int))) (vi 1) = some (vi (2 + (j : Int)))) (
.leaf (.normal, SNLNi seat n st m ti tc (vi (2 + (j : Int))) (vi 1) (.int .u32 6) (vi st) (vi tc) (vi 1) (vi (69 - (j : Int))))))))))
set_option maxRecDepth 1000000 in
theorem treeLNi_1_eq (seat : Int) (n : Int) (st : Int) (m : Nat) (ti : Int) (tc : Int) (j : Nat) : rnd (orcsLNi seat n st m ti tc (.c1 j)) (stsLNi (.c1 j)) (orcLNi seat n st m ti tc (.c1 j)) (stLNi (.c1 j)) noLt 2 lpLNi ((loopLNi seat n st m ti tc).t0 (.c1 j)) [] ((loopLNi seat n st m ti tc).h0 (.c1 j)) (loopLNi seat n st m ti tc).end_ = treeLNi_1 seat n st m ti tc j := by kernel_rfl
def treeLNi_2 (seat : Int) (n : Int) (st : Int) (m : Nat) (ti : Int) (tc : Int) (j : Nat) : DT (Ex × Snap) :=
  .ob (dPut [.agg [.int .u32 5, .int .u32 6, vi st, vi tc, vi 1, vi 1, vi 1, vi 1, vi 1]]) (
.leaf (.normal, SNLNi seat n st m ti tc (vi 71) (vi 1) (.int .u32 6) (vi st) (vi tc) (vi 2) (vi 70)))
set_option maxRecDepth 1000000 in
theorem treeLNi_2_eq (seat : Int) (n : Int) (st : Int) (m : Nat) (ti : Int) (tc : Int) (j : Nat) : rnd (orcsLNi seat n st m ti tc (.c2 j)) (stsLNi (.c2 j)) (orcLNi seat n st m ti tc (.c2 j)) (stLNi (.c2 j)) noLt 2 lpLNi ((loopLNi seat n st m ti tc).t0 (.c2 j)) [] ((loopLNi seat n st m ti tc).h0 (.c2 j)) (loopLNi seat n st m ti tc).end_ = treeLNi_2 seat n st m ti tc j := by kernel_rfl
def treeLNi_3 (seat : Int) (n : Int) (st : Int) (m : Nat) (ti : Int) (tc : Int) (j : Nat) : DT (Ex × Snap) :=
  .ob (binV .lss (vi (71 + (j : Int))) (vi 212) = some (.bool true)) (
.ob (binV .eql (vi (70 - (j : Int))) (vi 0) = some (.bool false)) (
.ob (binV .sub (vi (70 - (j : Int))) (vi 1) = some (vi (69 - (j : Int)))) (
.ob (binV .gtr (vi (69 - (j : Int))) (vi 0) = some (.bool true)) (
.ob (binV .eql (vi (69 - (j : Int))) (vi 0) = some (.bool false)) (
.ob (binV .add (vi (71 + (j : Int))) (vi 1) = some (vi (72 + (j : Int)))) (
.leaf (.normal, SNLNi seat n st m ti tc (vi (72 + (j : Int))) (vi 1) (.int .u32 6) (vi st) (vi tc) (vi 2) (vi (69 - (j : Int))))))))))
set_option maxRecDepth 1000000 in
theorem treeLNi_3_eq (seat : Int) (n : Int) (st : Int) (m : Nat) (ti : Int) (tc : Int) (j : Nat) : rnd (orcsLNi seat n st m ti tc (.c3 j)) (stsLNi (.c3 j)) (orcLNi seat n st m ti tc (.c3 j)) (stLNi (.c3 j)) noLt 2 lpLNi ((loopLNi seat n st m ti tc).t0 (.c3 j)) [] ((loopLNi seat n st m ti tc).h0 (.c3 j)) (loopLNi seat n st m ti tc).end_ = treeLNi_3 seat n st m ti tc j := by kernel_rfl
def treeLNi_4 (seat : Int) (n : Int) (st : Int) (m : Nat) (ti : Int) (tc : Int) (j : Nat) : DT (Ex × Snap) :=
  .ob (dPut [.agg [.int .u32 5, .int .u32 6, vi st, vi tc, vi 1, vi 1, vi 1, vi 1, vi 1]]) (
.leaf (.normal, SNLNi seat n st m ti tc (vi 141) (vi 1) (.int .u32 6) (vi st) (vi tc) (vi 3) (vi 70)))
set_option maxRecDepth 1000000 in
theorem treeLNi_4_eq (seat : Int) (n : Int) (st : Int) (m : Nat) (ti : Int) (tc : Int) (j : Nat) : rnd (orcsLNi seat n st m ti tc (.c4 j)) (stsLNi (.c4 j)) (orcLNi seat n st m ti tc (.c4 j)) (stLNi (.c4 j)) noLt 2 lpLNi ((loopLNi seat n st m ti tc).t0 (.c4 j)) [] ((loopLNi seat n st m ti tc).h0 (.c4 j)) (loopLNi seat n st m ti tc).end_ = treeLNi_4 seat n st m ti tc j := by kernel_rfl
def treeLNi_5 (seat : Int) (n : Int) (st : Int) (m : Nat) (ti : Int) (tc : Int) (j : Nat) : DT (Ex × Snap) :=
  .ob (binV .lss (vi (141 + (j : Int))) (vi 212) = some (.bool true)) (
.ob (binV .eql (vi (70 - (j : Int))) (vi 0) = some (.bool false)) (
.ob (binV .sub (vi (70 - (j : Int))) (vi 1) = some (vi (69 - (j : Int)))) (
.ob (binV .gtr (vi (69 - (j : Int))) (vi 0) = some (.bool true)) (
.ob (binV .eql (vi (69 - (j : Int))) (vi 0) = some (.bool false)) (
.ob (binV .add (vi (141 + (j : Int))) (vi 1) = some (vi (142 + (j : Int)))) (
.leaf (.normal, SNLNi seat n st m ti tc (vi (142 + (j : Int))) (vi 1) (.int .u32 6) (vi st) (vi tc) (vi 3) (vi (69 - (j : Int))))))))))
set_option maxRecDepth 1000000 in
theorem treeLNi_5_eq (seat : Int) (n : Int) (st : Int) (m : Nat) (ti : Int) (tc : Int) (j : Nat) : rnd (orcsLNi seat n st m ti tc (.c5 j)) (stsLNi (.c5 j)) (orcLNi seat n st m ti tc (.c5 j)) (stLNi (.c5 j)) noLt 2 lpLNi ((loopLNi seat n st m ti tc).t0 (.c5 j)) [] ((loopLNi seat n st m ti tc).h0 (.c5 j)) (loopLNi seat n st m ti tc).end_ = treeLNi_5 seat n st m ti tc j := by kernel_rfl
def treeLNi_6 (seat : Int) (n : Int) (st : Int) (m : Nat) (ti : Int) (tc : Int) (j : Nat) : DT (Ex × Snap) :=
  .leaf (.normal, SNLNi seat n st m ti tc (vi 211) (vi 0) (.int .u32 0) (vi 0) (vi 0) (vi 0) (vi 0))
set_option maxRecDepth 1000000 in
theorem treeLNi_6_eq (seat : Int) (n : Int) (st : Int) (m : Nat) (ti : Int) (tc : Int) (j : Nat) : rnd (orcsLNi seat n st m ti tc (.c6 j)) (stsLNi (.c6 j)) (orcLNi seat n st m ti tc (.c6 j)) (stLNi (.c6 j)) noLt 2 lpLNi ((loopLNi seat n st m ti tc).t0 (.c6 j)) [] ((loopLNi seat n st m ti tc).h0 (.c6 j)) (loopLNi seat n st m ti tc).end_ = treeLNi_6 seat n st m ti tc j := by kernel_rfl
def treeLNi_7 (seat : Int) (n : Int) (st : Int) (m : Nat) (ti : Int) (tc : Int) (j : Nat) : DT (Ex × Snap) :=
  .leaf ((.exit 2), XLNi seat n st m ti tc)
set_option maxRecDepth 1000000 in
theorem treeLNi_7_eq (seat : Int) (n : Int) (st : Int) (m : Nat) (ti : Int) (tc : Int) (j : Nat) : rnd (orcsLNi seat n st m ti tc (.c7 j)) (stsLNi (.c7 j)) (orcLNi seat n st m ti tc (.c7 j)) (stLNi (.c7 j)) noLt 2 lpLNi ((loopLNi seat n st m ti tc).t0 (.c7 j)) [] ((loopLNi seat n st m ti tc).h0 (.c7 j)) (loopLNi seat n st m ti tc).end_ = treeLNi_7 seat n st m ti tc j := by kernel_rfl
def treeLNiL (seat : Int) (n : Int) (st : Int) (m : Nat) (ti : Int) (tc : Int) (i : ILNi) : DT (Ex × Snap) := match i with
  | .c0 j => treeLNi_0 seat n st m ti tc j
  | .c1 j => treeLNi_1 seat n st m ti tc j
  | .c2 j => treeLNi_2 seat n st m ti tc j
  | .c3 j => treeLNi_3 seat n st m ti tc j
  | .c4 j => treeLNi_4 seat n st m ti tc j
  | .c5 j => treeLNi_5 seat n st m ti tc j
  | .c6 j => treeLNi_6 seat n st m ti tc j
  | .c7 j => treeLNi_7 seat n st m ti tc j
theorem roundLNi (seat : Int) (n : Int) (st : Int) (m : Nat) (ti : Int) (tc : Int) (hs : 0 ≤ st ∧ st < 8) (hc : 0 ≤ tc ∧ tc < 250) (i : ILNi) (Pr : Ex × Snap → Prop) (h : ((loopLNi seat n st m ti tc).out i).sat Pr) : (treeLNiL seat n st m ti tc i).sat ((loopLNi seat n st m ti tc).next muLNi i Pr) := by
  match i with
  | .c0 j =>
    have hj : j < 1 := h.1
    have hX := h.2
    obtain rfl : j = 0 := by omega
    exact sat_ob (okSetM 5 6 st tc mayO_one (by decide) (by decide) hs hc) (
sat_leaf (⟨.c1 0, by kernel_rfl, (by show 212 - (1 + 0) < 212 - (0 + 0); omega), ⟨(show 0 < 69 by decide), hX⟩⟩))
  | .c1 j =>
    have hj : j < 69 := h.1
    have hX := h.2
    exact sat_ob (by simp [binV, binI]; omega) (
sat_ob (by simp [binV, binI]; omega) (
sat_ob (by show some (V.int .i64 (wrapK .i64 ((70 - (j : Int)) - 1))) = _; rw [wrap_small (by omega), show ((70 - (j : Int)) - 1) = (69 - (j : Int)) by omega]) (
sat_ob (by simp [binV, binI]; omega) (
sat_ob (by simp [binV, binI]; omega) (
sat_ob (by show some (V.int .i64 (wrapK .i64 ((1 + (j : Int)) + 1))) = _; rw [wrap_small (by omega), show ((1 + (j : Int)) + 1) = (2 + (j : Int)) by omega]) (
sat_leaf (if h2 : j + 1 < 69 then ⟨.c1 (j + 1), (by show SNLNi seat n st m ti tc (vi (2 + (j : Int))) (vi 1) (.int .u32 6) (vi st) (vi tc) (vi 1) (vi (69 - (j : Int))) = SNLNi seat n st m ti tc (vi (1 + ((j + 1 : Nat) : Int))) (vi 1) (.int .u32 6) (vi st) (vi tc) (vi 1) (vi (70 - ((j + 1 : Nat) : Int))); rw [show ((1 + ((j + 1 : Nat) : Int)) : Int) = (2 + (j : Int)) by omega, show ((70 - ((j + 1 : Nat) : Int)) : Int) = (69 - (j : Int)) by omega]), (by show 212 - (1 + (j + 1)) < 212 - (1 + j); omega), ⟨h2, hX⟩⟩ else by
    obtain rfl : j = 68 := by omega
    exact ⟨.c2 0, by kernel_rfl, (by show 212 - (70 + 0) < 212 - (1 + 68); omega), ⟨(show 0 < 1 by decide), hX⟩⟩)))))))
  | .c2 j =>
    have hj : j < 1 := h.1
    have hX := h.2
    obtain rfl : j = 0 := by omega
    exact sat_ob (okSetM 5 6 st tc mayO_one (by decide) (by decide) hs hc) (
sat_leaf (⟨.c3 0, by kernel_rfl, (by show 212 - (71 + 0) < 212 - (70 + 0); omega), ⟨(show 0 < 69 by decide), hX⟩⟩))
  | .c3 j =>
    have hj : j < 69 := h.1
    have hX := h.2
    exact sat_ob (by simp [binV, binI]; omega) (
sat_ob (by simp [binV, binI]; omega) (
sat_ob (by show some (V.int .i64 (wrapK .i64 ((70 - (j : Int)) - 1))) = _; rw [wrap_small (by omega), show ((70 - (j : Int)) - 1) = (69 - (j : Int)) by omega]) (
sat_ob (by simp [binV, binI]; omega) (
sat_ob (by simp [binV, binI]; omega) (
sat_ob (by show some (V.int .i64 (wrapK .i64 ((71 + (j : Int)) + 1))) = _; rw [wrap_small (by omega), show ((71 + (j : Int)) + 1) = (72 + (j : Int)) by omega]) (
sat_leaf (if h2 : j + 1 < 69 then ⟨.c3 (j + 1), (by show SNLNi seat n st m ti tc (vi (72 + (j : Int))) (vi 1) (.int .u32 6) (vi st) (vi tc) (vi 2) (vi (69 - (j : Int))) = SNLNi seat n st m ti tc (vi (71 + ((j + 1 : Nat) : Int))) (vi 1) (.int .u32 6) (vi st) (vi tc) (vi 2) (vi (70 - ((j + 1 : Nat) : Int))); rw [show ((70 - ((j + 1 : Nat) : Int)) : Int) = (69 - (j : Int)) by omega, show ((71 + ((j + 1 : Nat) : Int)) : Int) = (72 + (j : Int)) by omega]), (by show 212 - (71 + (j + 1)) < 212 - (71 + j); omega), ⟨h2, hX⟩⟩ else by
    obtain rfl : j = 68 := by omega
    exact ⟨.c4 0, by kernel_rfl, (by show 212 - (140 + 0) < 212 - (71 + 68); omega), ⟨(show 0 < 1 by decide), hX⟩⟩)))))))
  | .c4 j =>
    have hj : j < 1 := h.1
    have hX := h.2
    obtain rfl : j = 0 := by omega
    exact sat_ob (okSetM 5 6 st tc mayO_one (by decide) (by decide) hs hc) (
sat_leaf (⟨.c5 0, by kernel_rfl, (by show 212 - (141 + 0) < 212 - (140 + 0); omega), ⟨(show 0 < 69 by decide), hX⟩⟩))
  | .c5 j =>
    have hj : j < 69 := h.1
    have hX := h.2
    exact sat_ob (by simp [binV, binI]; omega) (
sat_ob (by simp [binV, binI]; omega) (
sat_ob (by show some (V.int .i64 (wrapK .i64 ((70 - (j : Int)) - 1))) = _; rw [wrap_small (by omega), show ((70 - (j : Int)) - 1) = (69 - (j : Int)) by omega]) (
sat_ob (by simp [binV, binI]; omega) (
sat_ob (by simp [binV, binI]; omega) (
sat_ob (by show some (V.int .i64 (wrapK .i64 ((141 + (j : Int)) + 1))) = _; rw [wrap_small (by omega), show ((141 + (j : Int)) + 1) = (142 + (j : Int)) by omega]) (
sat_leaf (if h2 : j + 1 < 69 then ⟨.c5 (j + 1), (by show SNLNi seat n st m ti tc (vi (142 + (j : Int))) (vi 1) (.int .u32 6) (vi st) (vi tc) (vi 3) (vi (69 - (j : Int))) = SNLNi seat n st m ti tc (vi (141 + ((j + 1 : Nat) : Int))) (vi 1) (.int .u32 6) (vi st) (vi tc) (vi 3) (vi (70 - ((j + 1 : Nat) : Int))); rw [show ((141 + ((j + 1 : Nat) : Int)) : Int) = (142 + (j : Int)) by omega, show ((70 - ((j + 1 : Nat) : Int)) : Int) = (69 - (j : Int)) by omega]), (by show 212 - (141 + (j + 1)) < 212 - (141 + j); omega), ⟨h2, hX⟩⟩ else by
    obtain rfl : j = 68 := by omega
    exact ⟨.c6 0, by kernel_rfl, (by show 212 - (210 + 0) < 212 - (141 + 68); omega), ⟨(show 0 < 1 by decide), hX⟩⟩)))))))
  | .c6 j =>
    have hj : j < 1 := h.1
    have hX := h.2
    obtain rfl : j = 0 := by omega
    exact sat_leaf (⟨.c7 0, by kernel_rfl, (by show 212 - (211 + 0) < 212 - (210 + 0); omega), ⟨(show 0 < 1 by decide), hX⟩⟩)
  | .c7 j =>
    have hj : j < 1 := h.1
    have hX := h.2
    obtain rfl : j = 0 := by omega
    exact sat_leaf (hX)
theorem ltLNi_ok (seat : Int) (n : Int) (st : Int) (m : Nat) (ti : Int) (tc : Int) (hs : 0 ≤ st ∧ st < 8) (hc : 0 ≤ tc ∧ tc < 250) (hint : Nat → List Nat) : Lt1 Tryz.prog hint 3 (loopLNi seat n st m ti tc).lt lpLNi :=
  LoopD.lt1c mixed (show TabX Tryz.prog noPX oxM from tabM) tabD (loopLNi seat n st m ti tc) muLNi (fun ex => match ex with | .normal => ⟨show 3 ≤ 24 by decide, show 3 ≤ 24 by decide⟩ | .exit _ => ⟨show 3 ≤ 24 by decide, show 3 ≤ 24 by decide⟩ | .ret => ⟨show 3 ≤ 24 by decide, show 3 ≤ 24 by decide⟩) (orcs := orcsLNi seat n st m ti tc) (sts := stsLNi) (orc := orcLNi seat n st m ti tc) (st := stLNi) (tree := treeLNiL seat n st m ti tc)
    (fun i => match i with
    | .c0 j => treeLNi_0_eq seat n st m ti tc j
    | .c1 j => treeLNi_1_eq seat n st m ti tc j
    | .c2 j => treeLNi_2_eq seat n st m ti tc j
    | .c3 j => treeLNi_3_eq seat n st m ti tc j
    | .c4 j => treeLNi_4_eq seat n st m ti tc j
    | .c5 j => treeLNi_5_eq seat n st m ti tc j
    | .c6 j => treeLNi_6_eq seat n st m ti tc j
    | .c7 j => treeLNi_7_eq seat n st m ti tc j) (roundLNi seat n st m ti tc hs hc)
inductive ILNo
  | c0 (j : Nat)
  | c1 (j : Nat)
def RWLNo (seat : Int) (n : Int) (st : Int) (m : Nat) (w0 : V) (w1 : V) : List (Option Blk) := [some (.cells true (zsV .u8 kT0)), some (.cells true (zsV .u8 kT1)), some (.cells true (zsV .u8 kT2)), cF [vi 1, vi 1, vi 1, vi 1, vi 1], cF [vi 1, vi 1, vi 1, vi 1, vi 1], cF [vi 1, vi 1, vi 1, vi 1, vi 1], none, none, none, none, none, cF [.int .u32 5, vi st, vi 1, vi 1, vi 1, vi 1, vi 1, vi 0, .int .u32 0, vi 0, vi 0, vi 0, vi 0, vi 0, vi 0, vi 0, .nilp, w1, vi 0, vi 0, vi 0, vi 0, vi 0, vi 0, .bool false, .bool false, .bool false, .nils], none]
def SNLNo (seat : Int) (n : Int) (st : Int) (m : Nat) (w0 : V) (w1 : V) : Snap := ([vi st, vi (m : Int), .bool true, .ptr 11 0, w0, .bool true, .bool true, .bool false, vi seat, vi ((seat : Int).tmod 8), vi (wrapK .i64 (((seat : Int).tmod 8) + 8)), vi st, vi n, vi ((n : Int).tmod 300), vi (wrapK .i64 (((n : Int).tmod 300) + 300)), vi (m : Int), vi st, .agg [vi 0, vi 0, vi 0, vi 0, vi 0], .agg [vi 1, vi 1, vi 1, vi 1, vi 1], .ptr 11 0, .ptr 11 0, .bool false], RWLNo seat n st m w0 w1)
def SSLNo (seat : Int) (n : Int) (st : Int) (m : Nat) (i : ILNo) : Snap := match i with
  | .c0 j => SNLNo seat n st m ((vi (1 + ((j : Nat) : Int)))) ((vi ((j % 250 : Nat) : Int)))
  | .c1 j => SNLNo seat n st m ((vi (1 + ((m : Nat) : Int)))) ((vi ((m % 250 : Nat) : Int)))
def XLNo (seat : Int) (n : Int) (st : Int) (m : Nat) : Snap := ([vi st, vi (m : Int), .bool true, .ptr 11 0, .bool true, .bool true, .bool false, vi seat, vi ((seat : Int).tmod 8), vi (wrapK .i64 (((seat : Int).tmod 8) + 8)), vi st, vi n, vi ((n : Int).tmod 300), vi (wrapK .i64 (((n : Int).tmod 300) + 300)), vi (m : Int), vi st, .agg [vi 0, vi 0, vi 0, vi 0, vi 0], .agg [vi 1, vi 1, vi 1, vi 1, vi 1], .ptr 11 0, .ptr 11 0, .bool false], [some (.cells true (zsV .u8 kT0)), some (.cells true (zsV .u8 kT1)), some (.cells true (zsV .u8 kT2)), cF [vi 1, vi 1, vi 1, vi 1, vi 1], cF [vi 1, vi 1, vi 1, vi 1, vi 1], cF [vi 1, vi 1, vi 1, vi 1, vi 1], none, none, none, none, none, cF [.int .u32 5, vi st, vi 1, vi 1, vi 1, vi 1, vi 1, vi 0, .int .u32 0, vi 0, vi 0, vi 0, vi 0, vi 0, vi 0, vi 0, .nilp, vi ((m % 250 : Nat) : Int), vi 0, vi 0, vi 0, vi 0, vi 0, vi 0, .bool false, .bool false, .bool false, .nils], none])
def invLNo (seat : Int) (n : Int) (st : Int) (m : Nat) (i : ILNo) : Prop := match i with
  | .c0 j => j + 0 < m
  | .c1 j => j < 1
def muLNo (seat : Int) (n : Int) (st : Int) (m : Nat) (i : ILNo) : Nat := match i with
  | .c0 j => m + 1 - (0 + j)
  | .c1 j => m + 1 - (m + j)
def loopLNo (seat : Int) (n : Int) (st : Int) (m : Nat) : LoopD ILNo where
  nt := 64
  fr := fun ex => match ex with | .normal => ⟨[0, 1, 5, 6, 7, 9, 10, 11, 12, 13, 14, 15, 16, 17, 18, 19, 20, 21, 22, 23, 24, 25], 13, []⟩ | .exit _ => ⟨[0, 1, 5, 6, 9, 10, 11, 12, 13, 14, 15, 16, 17, 18, 19, 20, 21, 22, 23, 24, 25], 13, []⟩ | .ret => ⟨[], 13, []⟩
  S := SSLNo seat n st m
  out := fun i => .ob (invLNo seat n st m i) (.leaf ((.exit 0), XLNo seat n st m))
  pick := fun _ => .c0 0
def lpLNo : DC := (((loopsIn 0 (dOf 6).body)[0]?).getD (0, .skip)).2
def orcLNo (seat : Int) (n : Int) (st : Int) (m : Nat) (i : ILNo) : Orc := match i with
  | .c0 j => (fun k => match k with | 28 => some fun t h => (.bool true, h) | 40 => some fun t h => (vi (((j + 1) % 250 : Nat) : Int), h) | 42 => some fun t h => (.bool false, h) | 30 => some fun t h => (vi (1 + (((j + 1) : Nat) : Int)), h) | _ => none)
  | .c1 j => (fun k => match k with | 28 => some fun t h => (.bool false, h) | _ => none)
def orcsLNo (seat : Int) (n : Int) (st : Int) (m : Nat) (i : ILNo) : Nat → Orc := match i with
  | .c0 j => (fun g => match g with | 32 => (fun k => match k with | 9 => some fun t h => (vi (((j + 1) % 250 : Nat) : Int), h) | _ => none) | _ => noOrc)
  | .c1 j => (fun _ => noOrc)
def stsLNo (i : ILNo) : Nat → List Nat := match i with
  | .c0 j => (fun k => match k with | 6 => [28, 34, 42, 57, 62] | 12 => [10, 15, 20, 25, 30, 31, 37, 41, 50, 57] | 31 => [10, 33, 40, 44, 49] | _ => [])
  | .c1 j => (fun k => match k with | 6 => [28] | _ => [])
def stLNo (i : ILNo) : List Nat := match i with
  | .c0 j => [28, 34, 42, 57, 62]
  | .c1 j => [28]
def ltNLNo (seat : Int) (n : Int) (st : Int) (m : Nat) (i : ILNo) : Lt := match i with
  | .c0 j => (fun k => match k with | 2 => (loopLNi seat n st m (1 + ((j : Nat) : Int)) (((j + 1) % 250 : Nat) : Int)).lt | _ => fun _ _ => .fail)
  | .c1 j => (fun _ _ _ => .fail)
def treeLNo_0 (seat : Int) (n : Int) (st : Int) (m : Nat) (j : Nat) : DT (Ex × Snap) :=
  .ob (binV .leq (vi (1 + ((j : Nat) : Int))) (vi (m : Int)) = some (.bool true)) (
.ob (True) (
.ob (binV .rem (vi (wrapK .i64 (((j % 250 : Nat) : Int) + 1))) (vi 250) = some (vi (((j + 1) % 250 : Nat) : Int))) (
.ob (((V.beq (.int .u32 6) (.int .u32 6)) && true) = true) (
.ob (((V.beq (.int .u32 6) (.int .u32 6)) && true) = true) (
.ob (binV .rem (vi (1 + ((j : Nat) : Int))) (vi 250) = some (vi (((j + 1) % 250 : Nat) : Int))) (
.ob (((eqV (.agg [.i, .i]) (.agg [vi st, vi (((j + 1) % 250 : Nat) : Int)]) (.agg [vi st, vi (((j + 1) % 250 : Nat) : Int)])).map fun b => V.bool (if true then !b else b)) = some (.bool false)) (
.ob ((SNLNi seat n st m (1 + ((j : Nat) : Int)) (((j + 1) % 250 : Nat) : Int) (vi 0) (vi 1) (.int .u32 6) (vi st) (vi (((j + 1) % 250 : Nat) : Int)) (vi 0) (vi 0) : Snap) = (loopLNi seat n st m (1 + ((j : Nat) : Int)) (((j + 1) % 250 : Nat) : Int)).S (.c0 0)) (
.ob (invLNi (.c0 0)) (
.ob (True) (
.ob (binV .add (vi (1 + ((j : Nat) : Int))) (vi 1) = some (vi (1 + (((j + 1) : Nat) : Int)))) (
.leaf (.normal, SNLNo seat n st m (vi (1 + (((j + 1) : Nat) : Int))) (vi (((j + 1) % 250 : Nat) : Int))))))))))))))
set_option maxRecDepth 1000000 in
theorem treeLNo_0_eq (seat : Int) (n : Int) (st : Int) (m : Nat) (j : Nat) : rnd (orcsLNo seat n st m (.c0 j)) (stsLNo (.c0 j)) (orcLNo seat n st m (.c0 j)) (stLNo (.c0 j)) (ltNLNo seat n st m (.c0 j)) 0 lpLNo ((loopLNo seat n st m).t0 (.c0 j)) [] ((loopLNo seat n st m).h0 (.c0 j)) (loopLNo seat n st m).end_ = treeLNo_0 seat n st m j := by kernel_rfl
def treeLNo_1 (seat : Int) (n : Int) (st : Int) (m : Nat) (j : Nat) : DT (Ex × Snap) :=
  .ob (binV .leq (vi (1 + ((m : Nat) : Int))) (vi (m : Int)) = some (.bool false)) (
.leaf ((.exit 0), XLNo seat n st m))
set_option maxRecDepth 1000000 in
theorem treeLNo_1_eq (seat : Int) (n : Int) (st : Int) (m : Nat) (j : Nat) : rnd (orcsLNo seat n st m (.c1 j)) (stsLNo (.c1 j)) (orcLNo seat n st m (.c1 j)) (stLNo (.c1 j)) (ltNLNo seat n st m (.c1 j)) 0 lpLNo ((loopLNo seat n st m).t0 (.c1 j)) [] ((loopLNo seat n st m).h0 (.c1 j)) (loopLNo seat n st m).end_ = treeLNo_1 seat n st m j := by kernel_rfl
def treeLNoL (seat : Int) (n : Int) (st : Int) (m : Nat) (i : ILNo) : DT (Ex × Snap) := match i with
  | .c0 j => treeLNo_0 seat n st m j
  | .c1 j => treeLNo_1 seat n st m j
theorem roundLNo (seat : Int) (n : Int) (st : Int) (m : Nat) (hs : 0 ≤ st ∧ st < 8) (hm : m < 300) (i : ILNo) (Pr : Ex × Snap → Prop) (h : ((loopLNo seat n st m).out i).sat Pr) : (treeLNoL seat n st m i).sat ((loopLNo seat n st m).next (muLNo seat n st m) i Pr) := by
  match i with
  | .c0 j =>
    have hj : j + 0 < m := h.1
    have hX := h.2
    exact sat_ob (by simp (disch := omega) [binV, binI, wrap_small]; try omega) (
sat_ob trivial (
sat_ob (remC j) (
sat_ob (by simp only [V.beq_refl, Bool.and_true]) (
sat_ob (by simp only [V.beq_refl, Bool.and_true]) (
sat_ob (remD j) (
sat_ob (by simp [eqV, eqCells]) (
sat_ob (by kernel_rfl) (
sat_ob (show 0 < 1 by decide) (
sat_ob trivial (
sat_ob (by show some (V.int .i64 (wrapK .i64 _)) = _; rw [wrap_small (by omega)]; congr 2 <;> omega) (
sat_leaf (if h2 : j + 1 < m then ⟨.c0 (j + 1), (by show SNLNo seat n st m (vi (1 + (((j + 1) : Nat) : Int))) (vi (((j + 1) % 250 : Nat) : Int)) = SNLNo seat n st m ((vi (1 + (((j + 1) : Nat) : Int)))) ((vi (((j + 1) % 250 : Nat) : Int))); rw []), (by show m + 1 - (0 + (j + 1)) < m + 1 - (0 + j); omega), ⟨(show j + 1 + 0 < m by omega), hX⟩⟩ else by
    obtain rfl : m = j + 1 := by omega
    exact ⟨.c1 0, (by show SNLNo seat n st (j + 1) (vi (1 + (((j + 1) : Nat) : Int))) (vi (((j + 1) % 250 : Nat) : Int)) = SNLNo seat n st (j + 1) ((vi (1 + (((j + 1) : Nat) : Int)))) ((vi (((j + 1) % 250 : Nat) : Int))); rw []), (by show (j + 1) + 1 - ((j + 1) + 0) < (j + 1) + 1 - (0 + j); omega), ⟨(show 0 < 1 by omega), hX⟩⟩))))))))))))
  | .c1 j =>
    have hj : j < 1 := h.1
    have hX := h.2
    obtain rfl : j = 0 := by omega
    exact sat_ob (by simp (disch := omega) [binV, binI, wrap_small]; try omega) (
sat_leaf (hX))
theorem innerLNo : loopsIn 0 lpLNo = [(2, lpLNi)] := by kernel_rfl
set_option maxRecDepth 1000000 in
theorem ltLNo_ok (seat : Int) (n : Int) (st : Int) (m : Nat) (hs : 0 ≤ st ∧ st < 8) (hm : m < 300) (hint : Nat → List Nat) : Lt1 Tryz.prog hint 3 (loopLNo seat n st m).lt lpLNo :=
  LoopD.lt1nc mixed (show TabX Tryz.prog noPX oxM from tabM) tabD (loopLNo seat n st m) (muLNo seat n st m) (fun ex => match ex with | .normal => ⟨show 3 ≤ 13 by decide, show 3 ≤ 13 by decide⟩ | .exit _ => ⟨show 3 ≤ 13 by decide, show 3 ≤ 13 by decide⟩ | .ret => ⟨show 3 ≤ 13 by decide, show 3 ≤ 13 by decide⟩) (lt := ltNLNo seat n st m)
    (fun i p hp => by
      rw [innerLNo] at hp
      simp only [List.mem_cons, List.not_mem_nil, or_false] at hp
      subst hp
      match i with
      | .c0 j => exact ltLNi_ok seat n st m (1 + ((j : Nat) : Int)) (((j + 1) % 250 : Nat) : Int) hs (show 0 ≤ (((j + 1) % 250 : Nat) : Int) ∧ (((j + 1) % 250 : Nat) : Int) < 250 by omega) hint
      | .c1 j => exact lt1_no) (orcs := orcsLNo seat n st m) (sts := stsLNo) (orc := orcLNo seat n st m) (st := stLNo) (tree := treeLNoL seat n st m)
    (fun i => match i with
    | .c0 j => treeLNo_0_eq seat n st m j
    | .c1 j => treeLNo_1_eq seat n st m j) (roundLNo seat n st m hs hm)
def ltLN (seat : Int) (n : Int) (st : Int) (m : Nat) : Lt := fun k => match k with | 0 => (loopLNo seat n st m).lt | _ => fun _ _ => .fail
def oxLN_m (seat : Int) (n : Int) (st : Int) (m : Nat) : OTab := (consT 46 (gD dGet pGet noV) (consT 70 (gD dPut pPut noV) (consT 47 (gDT kT0 kT1 kT2 dDeal pDeal noV) (consT 43 (gD dOff pMayQ (fun n => match n with | 7 => some (.bool true) | _ => none)) (consO 9 (gTrue kT0 kT1 kT2) noOX)))))
def treeLN_m (seat : Int) (n : Int) (st : Int) (m : Nat) : DT V :=
  .ob (IntKind.i64 = IntKind.i64 ∧ (8 : Int) ≠ 0) (
.ob (binV .rem (vi (wrapK .i64 (((seat : Int).tmod 8) + 8))) (vi 8) = some (vi st)) (
.ob (IntKind.i64 = IntKind.i64 ∧ (300 : Int) ≠ 0) (
.ob (binV .rem (vi (wrapK .i64 (((n : Int).tmod 300) + 300))) (vi 300) = some (vi (m : Int))) (
.ob (binV .lss (vi st) (vi 0) = some (.bool false)) (
.ob (binV .geq (vi st) (vi 8) = some (.bool false)) (
.ob (dOff [.agg [vi 1, vi 1, vi 1, vi 1, vi 1]]) (
.ob (pMayQ [.agg [vi 1, vi 1, vi 1, vi 1, vi 1]] = (.bool true)) (
.ob ((SNLNo seat n st m (vi 1) (vi 0) : Snap) = (loopLNo seat n st m).S (.c0 0)) (
.ob (invLNo seat n st m (.c0 0)) (
.leaf (.bool true)))))))))))
set_option maxRecDepth 1000000 in
theorem treeLN_m_eq (seat : Int) (n : Int) (st : Int) (m : Nat) : funT (mkXT (noPX) (oxLN_m seat n st m)) (mkXP (noPX)) (mkX (noPX) (oxLN_m seat n st m)) D (fun g => match g with | 21 => (fun k => match k with | 15 => some fun t h => (.bool false, h) | 19 => some fun t h => (.bool false, h) | _ => none) | _ => noOrc) (fun k => match k with | 6 => [9] | 21 => [8, 11, 15, 19, 23] | _ => []) 12 (fun k => match k with | 15 => some fun t h => (vi st, h) | 19 => some fun t h => (vi (m : Int), h) | _ => none) [9] (ltLN seat n st m) (dOf 6) [vi seat, vi n] (tabH kT0 kT1 kT2 3) (fun v _ => v) = treeLN_m seat n st m := by kernel_rfl
theorem satLN_m (seat : Int) (n : Int) (st : Int) (m : Nat) (hst : (seat.tmod 8 + 8).tmod 8 = st) (hs : 0 ≤ st ∧ st < 8) (hm1 : 1 ≤ m) (hm : m < 300) (hn : (n.tmod 300 + 300).tmod 300 = (m : Int)) : (treeLN_m seat n st m).sat fun v => v = .bool true :=
 sat_ob (by decide) (
sat_ob (rem8 hst) (
sat_ob (by decide) (
sat_ob (rem300 hn) (
sat_ob (by simp [binV, binI]; omega) (
sat_ob (by simp [binV, binI]; omega) (
sat_ob trivial (
sat_ob (may_of mayO_one) (
sat_ob (by kernel_rfl) (
sat_ob (show 0 + 0 < m by omega) (
sat_leaf (rfl)))))))))))
theorem loopsLN_m : loopsIn 0 (dOf 6).body = [(0, lpLNo), (2, lpLNi)] := by kernel_rfl
set_option maxRecDepth 1000000 in
theorem runLN_m (seat : Int) (n : Int) (st : Int) (m : Nat) (hst : (seat.tmod 8 + 8).tmod 8 = st) (hs : 0 ≤ st ∧ st < 8) (hm1 : 1 ≤ m) (hm : m < 300) (hn : (n.tmod 300 + 300).tmod 300 = (m : Int)) : Run Tryz.prog 6 [vi seat, vi n] (tabH kT0 kT1 kT2 3) fun v _ => v = .bool true := by
  refine run_loops mixed (show TabX Tryz.prog noPX (oxLN_m seat n st m) from (((((TabX.nil.addO ans_begun).addT (ans_may (fun n => match n with | 7 => some (.bool true) | _ => none))).addT (ans_deal noV)).addT (ans_put noV)).addT (ans_get noV))) tabD (dIs (by kernel_rfl)) (lt := ltLN seat n st m) (fun hint p hp => ?_) (treeLN_m_eq seat n st m) (satLN_m seat n st m hst hs hm1 hm hn)
  rw [loopsLN_m] at hp
  simp only [List.mem_cons, List.not_mem_nil, or_false] at hp
  rcases hp with rfl | rfl
  · exact ltLNo_ok seat n st m hs hm hint
  · exact lt1_no
theorem runLinkNext (seat n : Int) : Run Tryz.prog 6 [.int .i64 seat, .int .i64 n] (tabH kT0 kT1 kT2 3) fun v _ => v = .bool true := by
  obtain ⟨st, hst, hs⟩ := tm8 seat
  obtain ⟨m, hn, hm⟩ := tm300 n
  by_cases h0 : m = 0
  · subst h0
    exact runLN_0 seat n st hst hs hn
  · exact runLN_m seat n st m hst hs (by omega) hm hn
end Go.Proofs.YtjcninlcdnkofaaGreatDoor
