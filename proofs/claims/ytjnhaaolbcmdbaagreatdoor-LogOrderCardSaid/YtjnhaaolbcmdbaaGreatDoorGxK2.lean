/- Boxes: what is put in, looked at, taken. -/
import Derived.Test.YtjnhaaolbcmdbaaGreatDoorGxK1
namespace Go.Proofs.YtjnhaaolbcmdbaaGreatDoor
open Go Gw Go.RowKit
set_option linter.unusedSimpArgs false
set_option linter.unusedVariables false
def px1 : PTab := consP 31 pAsk (consP 30 pAsk noPX)
theorem tab1 : TabX Tryz.prog px1 noOX := (TabX.nil.addP ans30).addP ans31
def hBN : Heap := openAt (smallH [.o 0 (.box ⟨none⟩)]) 3 (.box ⟨none⟩)
def hBS (l : List Gw.Ask) : Heap := openAt (smallH [.o 0 (.box ⟨some l⟩)]) 3 (.box ⟨some l⟩)
def hBC (l : List Gw.Ask) : Heap := (hBS l).put 4 (some (.cells false (l.flatMap Gw.Ask.vs)))
def treePutN (a : Gw.Ask) : DT (V × List (Option Blk)) :=
  .node (!(mayAsk ⟨a.kind, a.n, a.id, a.body⟩)) (
    .leaf (.int .i64 1, [some (.cells false [.nils]), none])) (
    .ob ((4 = 4 ∧ ([.int .i64 a.kind, .int .i64 a.n, .int .u32 a.id, .str a.body] : List V).length = 1 * 4) ∧ allOne [.int .i64 a.kind, .int .i64 a.n, .int .u32 a.id, .str a.body] = true ∧ 1 * 40 ≤ 70368744177664) (
    .leaf (.int .i64 0, [some (.cells false [.slice 17 0 1 4 none]), some (.cells false [.int .i64 a.kind, .int .i64 a.n, .int .u32 a.id, .str a.body])])))
set_option maxRecDepth 1000000 in
theorem treePutN_eq (a : Gw.Ask) : funT (mkXT px1 noOX) (mkXP px1) (mkX px1 noOX) D (fun _ => noOrc) (fun k => match k with | 32 => [18] | _ => []) 5 noOrc [18] noLt (dOf 32) [.ptr 3 0, .agg a.vs] hBN (fun v h => (v, [h.get 3, h.get 17])) = treePutN a := by kernel_rfl
def treePutS (l : List Gw.Ask) (a : Gw.Ask) : DT (V × List (Option Blk)) :=
  .node (!(mayAsk ⟨a.kind, a.n, a.id, a.body⟩)) (
    .leaf (.int .i64 1, [some (.cells false [.slice 4 0 l.length 4 none]), some (.cells false (l.flatMap Gw.Ask.vs)), none])) (
    .node (decide ((((l.length : Nat) : Int) : Int) ≥ 8)) (
      .leaf (.int .i64 3, [some (.cells false [.slice 4 0 l.length 4 none]), some (.cells false (l.flatMap Gw.Ask.vs)), none])) (
      .ob ((4 = 4 ∧ ([.int .i64 a.kind, .int .i64 a.n, .int .u32 a.id, .str a.body] : List V).length = 1 * 4) ∧ allOne [.int .i64 a.kind, .int .i64 a.n, .int .u32 a.id, .str a.body] = true ∧ 4 = 4 ∧ (l.length + 1) * 40 ≤ 70368744177664 ∧ ((l.flatMap Gw.Ask.vs) : List V).length = l.length * 4) (
      .leaf (.int .i64 0, [some (.cells false [.slice 18 0 (l.length + 1) 4 none]), some .dead, some (.cells false ((l.flatMap Gw.Ask.vs) ++ [.int .i64 a.kind, .int .i64 a.n, .int .u32 a.id, .str a.body]))]))))
set_option maxRecDepth 1000000 in
theorem treePutS_eq (l : List Gw.Ask) (a : Gw.Ask) : funT (mkXT px1 noOX) (mkXP px1) (mkX px1 noOX) D (fun _ => noOrc) (fun _ => []) 5 noOrc [] noLt (dOf 32) [.ptr 3 0, .agg a.vs] (hBC l) (fun v h => (v, [h.get 3, h.get 4, h.get 18])) = treePutS l a := by kernel_rfl
def treeFirstN  : DT (V × List (Option Blk)) :=
  .leaf (.tup [.agg [.int .i64 0, .int .i64 0, .int .u32 0, .str []], .bool false], [some (.cells false [.nils])])
set_option maxRecDepth 1000000 in
theorem treeFirstN_eq  : funT (mkXT px1 noOX) (mkXP px1) (mkX px1 noOX) D (fun _ => noOrc) (fun k => match k with | 33 => [6] | _ => []) 5 noOrc [6] noLt (dOf 33) [.ptr 3 0] hBN (fun v h => (v, [h.get 3])) = treeFirstN  := by kernel_rfl
def treeFirstS (l : List Gw.Ask) : DT (V × List (Option Blk)) :=
  .node ((((l.length : Nat) : Int) : Int) == 0) (
    .leaf (.tup [.agg [.int .i64 0, .int .i64 0, .int .u32 0, .str []], .bool false], [some (.cells false [.slice 4 0 l.length 4 none]), some (.cells false (l.flatMap Gw.Ask.vs))])) (
    .ob (4 = 4 ∧ 0 ≤ (0 : Int) ∧ (0 : Int) < ((l.length : Nat) : Int)) (
    .ob (((cellsAt (l.flatMap Gw.Ask.vs) 0 4).map V.agg) = some (.agg [.int .i64 (l.getD 0 {}).kind, .int .i64 (l.getD 0 {}).n, .int .u32 (l.getD 0 {}).id, .str (l.getD 0 {}).body])) (
    .leaf (.tup [.agg [.int .i64 (l.getD 0 {}).kind, .int .i64 (l.getD 0 {}).n, .int .u32 (l.getD 0 {}).id, .str (l.getD 0 {}).body], .bool true], [some (.cells false [.slice 4 0 l.length 4 none]), some (.cells false (l.flatMap Gw.Ask.vs))]))))
set_option maxRecDepth 1000000 in
theorem treeFirstS_eq (l : List Gw.Ask) : funT (mkXT px1 noOX) (mkXP px1) (mkX px1 noOX) D (fun _ => noOrc) (fun _ => []) 5 (fun k => match k with | 13 => some fun _ h => (.agg [.int .i64 (l.getD 0 {}).kind, .int .i64 (l.getD 0 {}).n, .int .u32 (l.getD 0 {}).id, .str (l.getD 0 {}).body], h) | _ => none) [] noLt (dOf 33) [.ptr 3 0] (hBC l) (fun v h => (v, [h.get 3, h.get 4])) = treeFirstS l := by kernel_rfl
def treeTakeN  : DT (V × List (Option Blk)) :=
  .leaf (.tup [.agg [.int .i64 0, .int .i64 0, .int .u32 0, .str []], .bool false], [some (.cells false [.nils])])
set_option maxRecDepth 1000000 in
theorem treeTakeN_eq  : funT (mkXT px1 noOX) (mkXP px1) (mkX px1 noOX) D (fun _ => noOrc) (fun k => match k with | 33 => [6] | 34 => [10] | _ => []) 5 noOrc [10] noLt (dOf 34) [.ptr 3 0] hBN (fun v h => (v, [h.get 3])) = treeTakeN  := by kernel_rfl
def treeTakeS (l : List Gw.Ask) : DT (V × List (Option Blk)) :=
  .node ((((l.length : Nat) : Int) : Int) == 0) (
    .leaf (.tup [.agg [.int .i64 0, .int .i64 0, .int .u32 0, .str []], .bool false], [some (.cells false [.slice 4 0 l.length 4 none]), some (.cells false (l.flatMap Gw.Ask.vs))])) (
    .ob (4 = 4 ∧ 0 ≤ (0 : Int) ∧ (0 : Int) < ((l.length : Nat) : Int)) (
    .ob (((cellsAt (l.flatMap Gw.Ask.vs) 0 4).map V.agg) = some (.agg [.int .i64 (l.getD 0 {}).kind, .int .i64 (l.getD 0 {}).n, .int .u32 (l.getD 0 {}).id, .str (l.getD 0 {}).body])) (
    .ob (4 = 4 ∧ (True) ∧ (0 ≤ (1 : Int) ∧ (1 : Int) ≤ ((l.length : Nat) : Int))) (
    .leaf (.tup [.agg [.int .i64 (l.getD 0 {}).kind, .int .i64 (l.getD 0 {}).n, .int .u32 (l.getD 0 {}).id, .str (l.getD 0 {}).body], .bool true], [some (.cells false [.slice 4 4 (l.length - 1) 4 none]), some (.cells false (l.flatMap Gw.Ask.vs))])))))
set_option maxRecDepth 1000000 in
theorem treeTakeS_eq (l : List Gw.Ask) : funT (mkXT px1 noOX) (mkXP px1) (mkX px1 noOX) D (fun g => match g with | 33 => (fun k => match k with | 13 => some fun _ h => (.agg [.int .i64 (l.getD 0 {}).kind, .int .i64 (l.getD 0 {}).n, .int .u32 (l.getD 0 {}).id, .str (l.getD 0 {}).body], h) | _ => none) | _ => noOrc) (fun k => match k with | 34 => [10] | _ => []) 5 noOrc [10] noLt (dOf 34) [.ptr 3 0] (hBC l) (fun v h => (v, [h.get 3, h.get 4])) = treeTakeS l := by kernel_rfl
def treeLenN  : DT (V × List (Option Blk)) :=
  .leaf (.int .i64 0, [some (.cells false [.nils])])
set_option maxRecDepth 1000000 in
theorem treeLenN_eq  : funT (mkXT px1 noOX) (mkXP px1) (mkX px1 noOX) D (fun _ => noOrc) (fun _ => []) 5 noOrc [] noLt (dOf 35) [.ptr 3 0] hBN (fun v h => (v, [h.get 3])) = treeLenN  := by kernel_rfl
def treeLenS (l : List Gw.Ask) : DT (V × List (Option Blk)) :=
  .leaf (.int .i64 ((l.length : Nat) : Int), [some (.cells false [.slice 4 0 l.length 4 none]), some (.cells false (l.flatMap Gw.Ask.vs))])
set_option maxRecDepth 1000000 in
theorem treeLenS_eq (l : List Gw.Ask) : funT (mkXT px1 noOX) (mkXP px1) (mkX px1 noOX) D (fun _ => noOrc) (fun _ => []) 5 noOrc [] noLt (dOf 35) [.ptr 3 0] (hBC l) (fun v h => (v, [h.get 3, h.get 4])) = treeLenS l := by kernel_rfl
def treeNewB  : DT (V × List (Option Blk)) :=
  .leaf (.ptr 4 0, [some (.cells false [.nils])])
set_option maxRecDepth 1000000 in
theorem treeNewB_eq  : funT (mkXT px1 noOX) (mkXP px1) (mkX px1 noOX) D (fun _ => noOrc) (fun _ => []) 5 noOrc [] noLt (dOf 29) [] (smallH []) (fun v h => (v, [h.get 4])) = treeNewB  := by kernel_rfl
end Go.Proofs.YtjnhaaolbcmdbaaGreatDoor
