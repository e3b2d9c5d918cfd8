/- LinkDisc: its trees, its loop. -/
import Derived.Test.YtjcninlcdnkofaaGreatDoorGxDI
noncomputable section
namespace Go.Proofs.YtjcninlcdnkofaaGreatDoor
open Go Gw Go.RowKit
set_option linter.unusedSimpArgs false
set_option linter.unusedVariables false
inductive ILX1_0
  | c0 (j : Nat)
  | c1 (j : Nat)
  | c2 (j : Nat)
  | c3 (j : Nat)
  | c4 (j : Nat)
  | c5 (j : Nat)
  | c6 (j : Nat)
def RWLX1_0 (a : Gw.Offer) (b : Gw.Offer) (w0 : V) (w1 : V) (w2 : V) (w3 : V) (w4 : V) : List (Option Blk) := [some (.cells true (zsV .u8 kT0)), some (.cells true (zsV .u8 kT1)), some (.cells true (zsV .u8 kT2)), cF (disO a).vs, cF (disO b).vs, none, cF (disO a).vs, cF (disO b).vs, none, none, cF (disO a).vs, none, none, none, none, none, cF [.int .u32 1, vi 0, vi (fineO a).baud, vi 7, vi (fineO a).win, vi (fineO a).size, vi (fineO a).wait, vi 2, .int .u32 2, vi 0, vi 1, vi (dealL (disO a) (disO b)).baud, vi 200, vi (dealL (disO a) (disO b)).win, vi (dealL (disO a) (disO b)).size, vi 0, .ptr 330 0, vi 1, vi 0, vi 0, w2, w3, vi 0, w4, .bool true, .bool false, .bool false, .nils], none, cF (disO b).vs, none, none, none, none, none, cF [.int .u32 2, vi 1, vi (fineO b).baud, vi 7, vi (fineO b).win, vi (fineO b).size, vi (fineO b).wait, vi 2, .int .u32 1, vi 0, vi 1, vi (dealL (disO b) (disO a)).baud, vi 200, vi (dealL (disO b) (disO a)).win, vi (dealL (disO b) (disO a)).size, vi 1, .ptr 170 0, vi 0, vi 0, vi 0, vi 0, vi 0, vi 0, vi 2, .bool false, .bool false, .bool false, .nils], none, some (.cells false [vi 2, vi 0, .int .u32 2, .str []]), none, some (.cells false [vi 2, vi 0, .int .u32 2, .str []]), none, none, none, none, some (.cells false [vi 2, vi 0, .int .u32 2, .str []]), none, cF [vi 0, vi 1], none, none, none, none, none, none, cF [vi 127, vi 255, .bool true, vi 3, vi 2, vi 0, vi 0, .bool true, .str (setupStr ⟨1, 2, 0, 1, (disO a)⟩)], none, none, cF [vi 0, vi 1], cF [vi 127, vi 255, .bool true, vi 3, vi 2, vi 0, vi 0, .bool true, .str (setupStr ⟨1, 2, 0, 1, (disO a)⟩)], cF [vi 127, vi 255], cF [vi 127, vi 255], cF [vi 127, vi 255, .bool true, vi 3, vi 2, vi 0, vi 0, .bool true, .str (setupStr ⟨1, 2, 0, 1, (disO a)⟩)], none, none, cF [vi 127, vi 255, .bool true, vi 3, vi 2, vi 0, vi 0, .bool true, .str (setupStr ⟨1, 2, 0, 1, (disO a)⟩)], none, cF [vi 127, vi 255, .bool true, vi 3, vi 2, vi 0, vi 0, .bool true, .str (setupStr ⟨1, 2, 0, 1, (disO a)⟩)], none, none, none, none, none, none, some (.cells false [vi 127, vi 255, .bool true, .iface 117 (.agg [vi 2, .bool true]), .str (setupStr ⟨1, 2, 0, 1, (disO a)⟩)]), none, none, cF [vi 127, vi 255, .bool true, vi 3, vi 2, vi 0, vi 0, .bool true, .str (setupStr ⟨1, 2, 0, 1, (disO a)⟩)], some (.cells false [vi 127, vi 255, .bool true, .iface 117 (.agg [vi 2, .bool true]), .str (setupStr ⟨1, 2, 0, 1, (disO a)⟩)]), none, none, none, none, none, none, none, none, some (.cells false [vi 127, vi 255, .bool true, .iface 117 (.agg [vi 2, .bool true]), .str (setupStr ⟨1, 2, 0, 1, (disO a)⟩)]), none, some (.cells false [vi 127, vi 255, .bool true, .iface 117 (.agg [vi 2, .bool true]), .str (setupStr ⟨1, 2, 0, 1, (disO a)⟩)]), none, none, none, none, none, none, none, cF [vi 0, vi 0, .bool false], none, none, none, none, cF [vi 127, vi 255], none, cF [vi 2, .bool true], none, some (.cells false [vi 127, vi 255, .bool true, .iface 117 (.agg [vi 2, .bool true]), .str (setupStr ⟨1, 2, 0, 1, (disO a)⟩)]), cF [vi 127, vi 255, .bool true, vi 3, vi 2, vi 0, vi 0, .bool true, .str (setupStr ⟨1, 2, 0, 1, (disO a)⟩)], some (.cells false [vi 127, vi 255, .bool true, .iface 117 (.agg [vi 2, .bool true]), .str (setupStr ⟨1, 2, 0, 1, (disO a)⟩)]), none, none, none, none, none, none, none, cF [vi 0, vi 0, .bool false], none, none, none, none, cF [vi 127, vi 255], none, cF [vi 2, .bool true], none, none, none, none, none, none, none, none, none, none, none, cF [vi 127, vi 255, .bool true, vi 3, vi 2, vi 0, vi 0, .bool true, .str (setupStr ⟨1, 2, 0, 1, (disO a)⟩)], none, cF [vi 2, .bool true], none, cF [vi 2, .bool true], none, cF [vi 127, vi 255], none, none, none, none, none, none, cF [.int .u32 1, .int .u32 2, vi 0, vi 1, vi (fineO a).baud, vi 7, vi (fineO a).win, vi (fineO a).size, vi (fineO a).wait], none, none, none, none, none, none, none, none, none, none, none, none, cF (dvD b a 1), none, none, cF [.int .u32 1, .int .u32 2, vi 0, vi 1, vi (fineO a).baud, vi 7, vi (fineO a).win, vi (fineO a).size, vi (fineO a).wait], cF (dvD b a 1), none, cF [vi 0, vi 1], cF (dvD b a 1), none, cF (dvD b a 1), none, none, none, none, none, none, none, none, none, none, none, none, cF [vi 2, vi (if (64 : Int) < (dealL (disO b) (disO a)).size then 64 else (dealL (disO b) (disO a)).size), .ptr 176 0, .ptr 179 0, .bool false], none, none, none, none, none, cF [vi (if (7 : Int) < (if (1 : Int) > (dealL (disO b) (disO a)).win then 1 else (dealL (disO b) (disO a)).win) then 7 else (if (1 : Int) > (dealL (disO b) (disO a)).win then 1 else (dealL (disO b) (disO a)).win)), .nils, vi 0, vi 0], none, none, cF [vi 0, .bool false], none, none, none, none, none, none, none, some (.cells false [vi 2, .int .u32 1, .str [], .nils]), none, cF [vi 0, vi 1], cF [vi 127, vi 255, .bool false, vi 3, vi 3, vi 0, vi 0, .bool true, .str (setupStr ⟨2, 1, 0, 1, (disO b)⟩)], cF [vi 127, vi 255], cF [vi 127, vi 255], cF [vi 127, vi 255, .bool false, vi 3, vi 3, vi 0, vi 0, .bool true, .str (setupStr ⟨2, 1, 0, 1, (disO b)⟩)], cF [vi 127, vi 255, .bool false, vi 3, vi 3, vi 0, vi 0, .bool true, .str (setupStr ⟨2, 1, 0, 1, (disO b)⟩)], none, none, none, cF [vi 127, vi 255, .bool false, vi 3, vi 3, vi 0, vi 0, .bool true, .str (setupStr ⟨2, 1, 0, 1, (disO b)⟩)], none, none, none, none, none, none, none, none, none, none, none, none, none, cF [vi 127, vi 255, .bool false, vi 3, vi 3, vi 0, vi 0, .bool true, .str (setupStr ⟨2, 1, 0, 1, (disO b)⟩)], none, cF [vi 127, vi 255, .bool false, vi 3, vi 3, vi 0, vi 0, .bool true, .str (setupStr ⟨2, 1, 0, 1, (disO b)⟩)], none, none, none, none, none, none, some (.cells false [vi 127, vi 255, .bool false, .iface 117 (.agg [vi 3, .bool true]), .str (setupStr ⟨2, 1, 0, 1, (disO b)⟩)]), none, none, cF [vi 127, vi 255, .bool false, vi 3, vi 3, vi 0, vi 0, .bool true, .str (setupStr ⟨2, 1, 0, 1, (disO b)⟩)], some (.cells false [vi 127, vi 255, .bool false, .iface 117 (.agg [vi 3, .bool true]), .str (setupStr ⟨2, 1, 0, 1, (disO b)⟩)]), none, none, none, none, none, none, none, none, some (.cells false [vi 127, vi 255, .bool false, .iface 117 (.agg [vi 3, .bool true]), .str (setupStr ⟨2, 1, 0, 1, (disO b)⟩)]), none, some (.cells false [vi 127, vi 255, .bool false, .iface 117 (.agg [vi 3, .bool true]), .str (setupStr ⟨2, 1, 0, 1, (disO b)⟩)]), none, none, none, none, none, none, none, cF [vi 0, vi 0, .bool false], none, none, none, none, cF [vi 127, vi 255], none, cF [vi 3, .bool true], none, some (.cells false [vi 127, vi 255, .bool false, .iface 117 (.agg [vi 3, .bool true]), .str (setupStr ⟨2, 1, 0, 1, (disO b)⟩)]), cF [vi 127, vi 255, .bool false, vi 3, vi 3, vi 0, vi 0, .bool true, .str (setupStr ⟨2, 1, 0, 1, (disO b)⟩)], some (.cells false [vi 127, vi 255, .bool false, .iface 117 (.agg [vi 3, .bool true]), .str (setupStr ⟨2, 1, 0, 1, (disO b)⟩)]), none, none, none, none, none, none, none, cF [vi 0, vi 0, .bool false], none, none, none, none, cF [vi 127, vi 255], none, cF [vi 3, .bool true], none, none, none, none, none, none, none, none, none, none, none, cF [vi 127, vi 255, .bool false, vi 3, vi 3, vi 0, vi 0, .bool true, .str (setupStr ⟨2, 1, 0, 1, (disO b)⟩)], none, cF [vi 3, .bool true], none, cF [vi 3, .bool true], none, cF [vi 127, vi 255], none, none, none, none, none, none, cF [.int .u32 2, .int .u32 1, vi 0, vi 1, vi (fineO b).baud, vi 7, vi (fineO b).win, vi (fineO b).size, vi (fineO b).wait], none, none, none, none, none, none, none, none, none, none, none, none, cF (dvD a b 0), none, none, cF [.int .u32 2, .int .u32 1, vi 0, vi 1, vi (fineO b).baud, vi 7, vi (fineO b).win, vi (fineO b).size, vi (fineO b).wait], cF (dvD a b 0), none, cF [vi 0, vi 1], cF (dvD a b 0), none, cF (dvD a b 0), none, none, none, none, none, none, none, none, none, none, none, none, cF [vi 1, vi (if (64 : Int) < (dealL (disO a) (disO b)).size then 64 else (dealL (disO a) (disO b)).size), .ptr 336 0, .ptr 339 0, .bool true], none, none, none, none, none, cF [vi (if (7 : Int) < (if (1 : Int) > (dealL (disO a) (disO b)).win then 1 else (dealL (disO a) (disO b)).win) then 7 else (if (1 : Int) > (dealL (disO a) (disO b)).win then 1 else (dealL (disO a) (disO b)).win)), .nils, vi 0, vi 0], none, none, cF [vi 0, .bool false], none, none, none, none, none, none, none, some (.cells false [vi 2, .int .u32 2, .str [], .nils]), none, some (.cells false [vi 4, vi 0, .int .u32 0, .str []]), none, some (.cells false [vi 4, vi 0, .int .u32 0, .str []]), none, none, none, none, some (.cells false [vi 4, vi 0, .int .u32 0, .str []]), none]
def SNLX1_0 (a : Gw.Offer) (b : Gw.Offer) (w0 : V) (w1 : V) (w2 : V) (w3 : V) (w4 : V) : Snap := ([.agg a.vs, .agg b.vs, .ptr 3 0, .ptr 4 0, .bool true, .ptr 16 0, w0, w1, .bool true, .bool true, .bool false, .agg a.vs, .agg (fineO a).vs, .agg b.vs, .agg (fineO b).vs, .ptr 3 1, .ptr 4 1, .tup [.ptr 16 0, .ptr 24 0], .agg (disO a).vs, .agg (disO b).vs, .tup [.ptr 16 0, .ptr 24 0], .ptr 16 0, .ptr 24 0, .ptr 16 0, .bool false, .bool false, .ptr 16 0, .agg [vi 4, vi 0, .int .u32 0, .str []], vi 0, .bool false, .bool false], RWLX1_0 a b w0 w1 w2 w3 w4)
def SSLX1_0 (a : Gw.Offer) (b : Gw.Offer) (i : ILX1_0) : Snap := match i with
  | .c0 j => SNLX1_0 a b (vi 0) (vi 0) (vi 0) (vi 0) (vi 0)
  | .c1 j => SNLX1_0 a b (vi 1) (vi (1 + (j : Int))) (vi 1) (vi (70 - (j : Int))) (vi (1 + (j : Int)))
  | .c2 j => SNLX1_0 a b (vi 1) (vi 70) (vi 1) (vi 1) (vi 70)
  | .c3 j => SNLX1_0 a b (vi 2) (vi (71 + (j : Int))) (vi 2) (vi (70 - (j : Int))) (vi (71 + (j : Int)))
  | .c4 j => SNLX1_0 a b (vi 2) (vi 140) (vi 2) (vi 1) (vi 140)
  | .c5 j => SNLX1_0 a b (vi 3) (vi (141 + (j : Int))) (vi 3) (vi (70 - (j : Int))) (vi (141 + (j : Int)))
  | .c6 j => SNLX1_0 a b (vi 3) (vi 199) (vi 3) (vi 12) (vi 199)
def XLX1_0 (a : Gw.Offer) (b : Gw.Offer) : Snap := ([.agg a.vs, .agg b.vs, .ptr 3 0, .ptr 4 0, .bool true, .ptr 16 0, vi 3, .bool true, .bool true, .bool false, .agg a.vs, .agg (fineO a).vs, .agg b.vs, .agg (fineO b).vs, .ptr 3 1, .ptr 4 1, .tup [.ptr 16 0, .ptr 24 0], .agg (disO a).vs, .agg (disO b).vs, .tup [.ptr 16 0, .ptr 24 0], .ptr 16 0, .ptr 24 0, .ptr 16 0, .bool false, .bool false, .ptr 16 0, .agg [vi 4, vi 0, .int .u32 0, .str []], vi 0, .bool false, .bool false], RWLX1_0 a b (vi 0) (vi 0) (vi 3) (vi 12) (vi 199))
def invLX1_0 (i : ILX1_0) : Prop := match i with
  | .c0 j => j < 1
  | .c1 j => j < 69
  | .c2 j => j < 1
  | .c3 j => j < 69
  | .c4 j => j < 1
  | .c5 j => j < 58
  | .c6 j => j < 1
def muLX1_0 (i : ILX1_0) : Nat := match i with
  | .c0 j => 200 - (0 + j)
  | .c1 j => 200 - (1 + j)
  | .c2 j => 200 - (70 + j)
  | .c3 j => 200 - (71 + j)
  | .c4 j => 200 - (140 + j)
  | .c5 j => 200 - (141 + j)
  | .c6 j => 200 - (199 + j)
def loopLX1_0 (a : Gw.Offer) (b : Gw.Offer) : LoopD ILX1_0 where
  nt := 109
  fr := fun ex => match ex with | .normal => ⟨[0, 1, 2, 3, 5, 6, 8, 9, 16, 17, 18, 19, 20, 21, 22, 23, 24, 25, 26, 27, 28, 29, 30, 31, 32, 33, 34, 35, 36, 37, 38], 358, []⟩ | .exit _ => ⟨[0, 1, 2, 3, 5, 6, 8, 16, 17, 18, 19, 20, 21, 22, 23, 24, 25, 26, 27, 28, 29, 30, 31, 32, 33, 34, 35, 36, 37, 38], 358, []⟩ | .ret => ⟨[], 358, []⟩
  S := SSLX1_0 a b
  out := fun i => .ob (invLX1_0 i) (.leaf ((.exit 0), XLX1_0 a b))
  pick := fun _ => .c0 0
def ltLX1_0 (a : Gw.Offer) (b : Gw.Offer) : Lt := fun k => match k with | 0 => (loopLX1_0 a b).lt | _ => fun _ _ => .fail
def lpLX1_0 : DC := (((loopsIn 0 (dOf 4).body)[0]?).getD (0, .skip)).2
def orcLX1_0 (a : Gw.Offer) (b : Gw.Offer) (i : ILX1_0) : Orc := match i with
  | .c0 j => noOrc
  | .c1 j => (fun k => match k with | 40 => some fun t h => (.bool true, h) | 42 => some fun t h => (vi (2 + (j : Int)), h) | _ => none)
  | .c2 j => noOrc
  | .c3 j => (fun k => match k with | 40 => some fun t h => (.bool true, h) | 42 => some fun t h => (vi (72 + (j : Int)), h) | _ => none)
  | .c4 j => noOrc
  | .c5 j => (fun k => match k with | 40 => some fun t h => (.bool true, h) | 42 => some fun t h => (vi (142 + (j : Int)), h) | _ => none)
  | .c6 j => noOrc
def orcsLX1_0 (a : Gw.Offer) (b : Gw.Offer) (i : ILX1_0) : Nat → Orc := match i with
  | .c0 j => (fun _ => noOrc)
  | .c1 j => (fun g => match g with | 35 => (fun k => match k with | 13 => some fun t h => (vi (2 + (j : Int)), h) | 25 => some fun t h => (.bool false, h) | 32 => some fun t h => (.bool false, h) | 37 => some fun t h => (vi (69 - (j : Int)), h) | 44 => some fun t h => (.bool true, h) | _ => none) | 16 => (fun k => match k with | 96 => some fun t h => (.bool false, h) | _ => none) | _ => noOrc)
  | .c2 j => (fun _ => noOrc)
  | .c3 j => (fun g => match g with | 35 => (fun k => match k with | 13 => some fun t h => (vi (72 + (j : Int)), h) | 25 => some fun t h => (.bool false, h) | 32 => some fun t h => (.bool false, h) | 37 => some fun t h => (vi (69 - (j : Int)), h) | 44 => some fun t h => (.bool true, h) | _ => none) | 16 => (fun k => match k with | 96 => some fun t h => (.bool false, h) | _ => none) | _ => noOrc)
  | .c4 j => (fun _ => noOrc)
  | .c5 j => (fun g => match g with | 35 => (fun k => match k with | 13 => some fun t h => (vi (142 + (j : Int)), h) | 25 => some fun t h => (.bool false, h) | 32 => some fun t h => (.bool false, h) | 37 => some fun t h => (vi (69 - (j : Int)), h) | 44 => some fun t h => (.bool true, h) | _ => none) | 16 => (fun k => match k with | 96 => some fun t h => (.bool false, h) | _ => none) | _ => noOrc)
  | .c6 j => (fun _ => noOrc)
def stsLX1_0 (i : ILX1_0) : Nat → List Nat := match i with
  | .c0 j => (fun k => match k with | 4 => [40, 51, 56, 60, 64, 69, 77, 84] | 16 => [15, 22, 31, 52, 74, 80, 86, 96] | 35 => [8, 25, 32] | 38 => [9] | 40 => [7] | 71 => [10] | _ => [])
  | .c1 j => (fun k => match k with | 4 => [40, 51, 84] | 16 => [15, 22, 31, 52, 74, 80, 86, 96] | 35 => [8, 25, 32, 44] | 38 => [9] | _ => [])
  | .c2 j => (fun k => match k with | 4 => [40, 51, 56, 60, 64, 69, 77, 84] | 16 => [15, 22, 31, 52, 74, 80, 86, 96] | 35 => [8, 25, 32, 44, 49, 55, 68, 73, 85] | 38 => [9] | 40 => [7] | 69 => [9] | 71 => [10] | _ => [])
  | .c3 j => (fun k => match k with | 4 => [40, 51, 84] | 16 => [15, 22, 31, 52, 74, 80, 86, 96] | 35 => [8, 25, 32, 44] | 38 => [9] | _ => [])
  | .c4 j => (fun k => match k with | 4 => [40, 51, 56, 60, 64, 69, 77, 84] | 16 => [15, 22, 31, 52, 74, 80, 86, 96] | 35 => [8, 25, 32, 44, 49, 55, 68, 73, 85] | 38 => [9] | 40 => [7] | 69 => [9] | 71 => [10] | _ => [])
  | .c5 j => (fun k => match k with | 4 => [40, 51, 84] | 16 => [15, 22, 31, 52, 74, 80, 86, 96] | 35 => [8, 25, 32, 44] | 38 => [9] | _ => [])
  | .c6 j => (fun k => match k with | 4 => [40] | _ => [])
def stLX1_0 (i : ILX1_0) : List Nat := match i with
  | .c0 j => [40, 51, 56, 60, 64, 69, 77, 84]
  | .c1 j => [40, 51, 84]
  | .c2 j => [40, 51, 56, 60, 64, 69, 77, 84]
  | .c3 j => [40, 51, 84]
  | .c4 j => [40, 51, 56, 60, 64, 69, 77, 84]
  | .c5 j => [40, 51, 84]
  | .c6 j => [40]
def treeLX1_0_0 (a : Gw.Offer) (b : Gw.Offer) (j : Nat) : DT (Ex × Snap) :=
  .ob (9 = 9 ∧ 0 ≤ (0 : Int) ∧ (0 : Int) < ((1 : Nat) : Int)) (
.ob (((V.beq (.agg [vi 0, vi 1]) (.agg [vi 0, vi 1])) && true) = true) (
.ob (True) (
.leaf (.normal, SNLX1_0 a b (vi 1) (vi 1) (vi 1) (vi 70) (vi 1)))))
set_option maxRecDepth 1000000 in
theorem treeLX1_0_0_eq (a : Gw.Offer) (b : Gw.Offer) (j : Nat) : rnd (orcsLX1_0 a b (.c0 j)) (stsLX1_0 (.c0 j)) (orcLX1_0 a b (.c0 j)) (stLX1_0 (.c0 j)) noLt 0 lpLX1_0 ((loopLX1_0 a b).t0 (.c0 j)) [] ((loopLX1_0 a b).h0 (.c0 j)) (loopLX1_0 a b).end_ = treeLX1_0_0 a b j := by kernel_rfl
def treeLX1_0_1 (a : Gw.Offer) (b : Gw.Offer) (j : Nat) : DT (Ex × Snap) :=
  .ob (binV .lss (vi (1 + (j : Int))) (vi 199) = some (.bool true)) (
.ob (binV .add (vi (1 + (j : Int))) (vi 1) = some (vi (2 + (j : Int)))) (
.ob (binV .geq (vi (2 + (j : Int))) (vi 200) = some (.bool false)) (
.ob (binV .eql (vi (70 - (j : Int))) (vi 0) = some (.bool false)) (
.ob (binV .sub (vi (70 - (j : Int))) (vi 1) = some (vi (69 - (j : Int)))) (
.ob (binV .gtr (vi (69 - (j : Int))) (vi 0) = some (.bool true)) (
.ob (binV .eql (vi (69 - (j : Int))) (vi 0) = some (.bool false)) (
.ob (binV .add (vi (1 + (j : Int))) (vi 1) = some (vi (2 + (j : Int)))) (
.leaf (.normal, SNLX1_0 a b (vi 1) (vi (2 + (j : Int))) (vi 1) (vi (69 - (j : Int))) (vi (2 + (j : Int))))))))))))
set_option maxRecDepth 1000000 in
theorem treeLX1_0_1_eq (a : Gw.Offer) (b : Gw.Offer) (j : Nat) : rnd (orcsLX1_0 a b (.c1 j)) (stsLX1_0 (.c1 j)) (orcLX1_0 a b (.c1 j)) (stLX1_0 (.c1 j)) noLt 0 lpLX1_0 ((loopLX1_0 a b).t0 (.c1 j)) [] ((loopLX1_0 a b).h0 (.c1 j)) (loopLX1_0 a b).end_ = treeLX1_0_1 a b j := by kernel_rfl
def treeLX1_0_2 (a : Gw.Offer) (b : Gw.Offer) (j : Nat) : DT (Ex × Snap) :=
  .ob (9 = 9 ∧ 0 ≤ (0 : Int) ∧ (0 : Int) < ((1 : Nat) : Int)) (
.ob (((V.beq (.agg [vi 0, vi 1]) (.agg [vi 0, vi 1])) && true) = true) (
.ob (True) (
.leaf (.normal, SNLX1_0 a b (vi 2) (vi 71) (vi 2) (vi 70) (vi 71)))))
set_option maxRecDepth 1000000 in
theorem treeLX1_0_2_eq (a : Gw.Offer) (b : Gw.Offer) (j : Nat) : rnd (orcsLX1_0 a b (.c2 j)) (stsLX1_0 (.c2 j)) (orcLX1_0 a b (.c2 j)) (stLX1_0 (.c2 j)) noLt 0 lpLX1_0 ((loopLX1_0 a b).t0 (.c2 j)) [] ((loopLX1_0 a b).h0 (.c2 j)) (loopLX1_0 a b).end_ = treeLX1_0_2 a b j := by kernel_rfl
def treeLX1_0_3 (a : Gw.Offer) (b : Gw.Offer) (j : Nat) : DT (Ex × Snap) :=
  .ob (binV .lss (vi (71 + (j : Int))) (vi 199) = some (.bool true)) (
.ob (binV .add (vi (71 + (j : Int))) (vi 1) = some (vi (72 + (j : Int)))) (
.ob (binV .geq (vi (72 + (j : Int))) (vi 200) = some (.bool false)) (
.ob (binV .eql (vi (70 - (j : Int))) (vi 0) = some (.bool false)) (
.ob (binV .sub (vi (70 - (j : Int))) (vi 1) = some (vi (69 - (j : Int)))) (
.ob (binV .gtr (vi (69 - (j : Int))) (vi 0) = some (.bool true)) (
.ob (binV .eql (vi (69 - (j : Int))) (vi 0) = some (.bool false)) (
.ob (binV .add (vi (71 + (j : Int))) (vi 1) = some (vi (72 + (j : Int)))) (
.leaf (.normal, SNLX1_0 a b (vi 2) (vi (72 + (j : Int))) (vi 2) (vi (69 - (j : Int))) (vi (72 + (j : Int))))))))))))
set_option maxRecDepth 1000000 in
theorem treeLX1_0_3_eq (a : Gw.Offer) (b : Gw.Offer) (j : Nat) : rnd (orcsLX1_0 a b (.c3 j)) (stsLX1_0 (.c3 j)) (orcLX1_0 a b (.c3 j)) (stLX1_0 (.c3 j)) noLt 0 lpLX1_0 ((loopLX1_0 a b).t0 (.c3 j)) [] ((loopLX1_0 a b).h0 (.c3 j)) (loopLX1_0 a b).end_ = treeLX1_0_3 a b j := by kernel_rfl
def treeLX1_0_4 (a : Gw.Offer) (b : Gw.Offer) (j : Nat) : DT (Ex × Snap) :=
  .ob (9 = 9 ∧ 0 ≤ (0 : Int) ∧ (0 : Int) < ((1 : Nat) : Int)) (
.ob (((V.beq (.agg [vi 0, vi 1]) (.agg [vi 0, vi 1])) && true) = true) (
.ob (True) (
.leaf (.normal, SNLX1_0 a b (vi 3) (vi 141) (vi 3) (vi 70) (vi 141)))))
set_option maxRecDepth 1000000 in
theorem treeLX1_0_4_eq (a : Gw.Offer) (b : Gw.Offer) (j : Nat) : rnd (orcsLX1_0 a b (.c4 j)) (stsLX1_0 (.c4 j)) (orcLX1_0 a b (.c4 j)) (stLX1_0 (.c4 j)) noLt 0 lpLX1_0 ((loopLX1_0 a b).t0 (.c4 j)) [] ((loopLX1_0 a b).h0 (.c4 j)) (loopLX1_0 a b).end_ = treeLX1_0_4 a b j := by kernel_rfl
def treeLX1_0_5 (a : Gw.Offer) (b : Gw.Offer) (j : Nat) : DT (Ex × Snap) :=
  .ob (binV .lss (vi (141 + (j : Int))) (vi 199) = some (.bool true)) (
.ob (binV .add (vi (141 + (j : Int))) (vi 1) = some (vi (142 + (j : Int)))) (
.ob (binV .geq (vi (142 + (j : Int))) (vi 200) = some (.bool false)) (
.ob (binV .eql (vi (70 - (j : Int))) (vi 0) = some (.bool false)) (
.ob (binV .sub (vi (70 - (j : Int))) (vi 1) = some (vi (69 - (j : Int)))) (
.ob (binV .gtr (vi (69 - (j : Int))) (vi 0) = some (.bool true)) (
.ob (binV .eql (vi (69 - (j : Int))) (vi 0) = some (.bool false)) (
.ob (binV .add (vi (141 + (j : Int))) (vi 1) = some (vi (142 + (j : Int)))) (
.leaf (.normal, SNLX1_0 a b (vi 3) (vi (142 + (j : Int))) (vi 3) (vi (69 - (j : Int))) (vi (142 + (j : Int))))))))))))
set_option maxRecDepth 1000000 in
theorem treeLX1_0_5_eq (a : Gw.Offer) (b : Gw.Offer) (j : Nat) : rnd (orcsLX1_0 a b (.c5 j)) (stsLX1_0 (.c5 j)) (orcLX1_0 a b (.c5 j)) (stLX1_0 (.c5 j)) noLt 0 lpLX1_0 ((loopLX1_0 a b).t0 (.c5 j)) [] ((loopLX1_0 a b).h0 (.c5 j)) (loopLX1_0 a b).end_ = treeLX1_0_5 a b j := by kernel_rfl
def treeLX1_0_6 (a : Gw.Offer) (b : Gw.Offer) (j : Nat) : DT (Ex × Snap) :=
  .leaf ((.exit 0), XLX1_0 a b)
set_option maxRecDepth 1000000 in
theorem treeLX1_0_6_eq (a : Gw.Offer) (b : Gw.Offer) (j : Nat) : rnd (orcsLX1_0 a b (.c6 j)) (stsLX1_0 (.c6 j)) (orcLX1_0 a b (.c6 j)) (stLX1_0 (.c6 j)) noLt 0 lpLX1_0 ((loopLX1_0 a b).t0 (.c6 j)) [] ((loopLX1_0 a b).h0 (.c6 j)) (loopLX1_0 a b).end_ = treeLX1_0_6 a b j := by kernel_rfl
def treeLX1_0L (a : Gw.Offer) (b : Gw.Offer) (i : ILX1_0) : DT (Ex × Snap) := match i with
  | .c0 j => treeLX1_0_0 a b j
  | .c1 j => treeLX1_0_1 a b j
  | .c2 j => treeLX1_0_2 a b j
  | .c3 j => treeLX1_0_3 a b j
  | .c4 j => treeLX1_0_4 a b j
  | .c5 j => treeLX1_0_5 a b j
  | .c6 j => treeLX1_0_6 a b j
theorem roundLX1_0 (a : Gw.Offer) (b : Gw.Offer) (hwa : loL (fineO a).wait = 1) (hwb : loL (fineO b).wait = 0) (i : ILX1_0) (Pr : Ex × Snap → Prop) (h : ((loopLX1_0 a b).out i).sat Pr) : (treeLX1_0L a b i).sat ((loopLX1_0 a b).next muLX1_0 i Pr) := by
  match i with
  | .c0 j =>
    have hj : j < 1 := h.1
    have hX := h.2
    obtain rfl : j = 0 := by omega
    exact sat_ob (by decide) (
sat_ob (by simp only [V.beq_refl, Bool.and_true]) (
sat_ob trivial (
sat_leaf (⟨.c1 0, by kernel_rfl, (by show 200 - (1 + 0) < 200 - (0 + 0); omega), ⟨(show 0 < 69 by decide), hX⟩⟩))))
  | .c1 j =>
    have hj : j < 69 := h.1
    have hX := h.2
    exact sat_ob (by simp [binV, binI]; omega) (
sat_ob (by show some (V.int .i64 (wrapK .i64 ((1 + (j : Int)) + 1))) = _; rw [wrap_small (by omega), show ((1 + (j : Int)) + 1) = (2 + (j : Int)) by omega]) (
sat_ob (by simp [binV, binI]; omega) (
sat_ob (by simp [binV, binI]; omega) (
sat_ob (by show some (V.int .i64 (wrapK .i64 ((70 - (j : Int)) - 1))) = _; rw [wrap_small (by omega), show ((70 - (j : Int)) - 1) = (69 - (j : Int)) by omega]) (
sat_ob (by simp [binV, binI]; omega) (
sat_ob (by simp [binV, binI]; omega) (
sat_ob (by show some (V.int .i64 (wrapK .i64 ((1 + (j : Int)) + 1))) = _; rw [wrap_small (by omega), show ((1 + (j : Int)) + 1) = (2 + (j : Int)) by omega]) (
sat_leaf (if h2 : j + 1 < 69 then ⟨.c1 (j + 1), (by show SNLX1_0 a b (vi 1) (vi (2 + (j : Int))) (vi 1) (vi (69 - (j : Int))) (vi (2 + (j : Int))) = SNLX1_0 a b (vi 1) (vi (1 + ((j + 1 : Nat) : Int))) (vi 1) (vi (70 - ((j + 1 : Nat) : Int))) (vi (1 + ((j + 1 : Nat) : Int))); rw [show ((1 + ((j + 1 : Nat) : Int)) : Int) = (2 + (j : Int)) by omega, show ((70 - ((j + 1 : Nat) : Int)) : Int) = (69 - (j : Int)) by omega]), (by show 200 - (1 + (j + 1)) < 200 - (1 + j); omega), ⟨h2, hX⟩⟩ else by
    obtain rfl : j = 68 := by omega
    exact ⟨.c2 0, by kernel_rfl, (by show 200 - (70 + 0) < 200 - (1 + 68); omega), ⟨(show 0 < 1 by decide), hX⟩⟩)))))))))
  | .c2 j =>
    have hj : j < 1 := h.1
    have hX := h.2
    obtain rfl : j = 0 := by omega
    exact sat_ob (by decide) (
sat_ob (by simp only [V.beq_refl, Bool.and_true]) (
sat_ob trivial (
sat_leaf (⟨.c3 0, by kernel_rfl, (by show 200 - (71 + 0) < 200 - (70 + 0); omega), ⟨(show 0 < 69 by decide), hX⟩⟩))))
  | .c3 j =>
    have hj : j < 69 := h.1
    have hX := h.2
    exact sat_ob (by simp [binV, binI]; omega) (
sat_ob (by show some (V.int .i64 (wrapK .i64 ((71 + (j : Int)) + 1))) = _; rw [wrap_small (by omega), show ((71 + (j : Int)) + 1) = (72 + (j : Int)) by omega]) (
sat_ob (by simp [binV, binI]; omega) (
sat_ob (by simp [binV, binI]; omega) (
sat_ob (by show some (V.int .i64 (wrapK .i64 ((70 - (j : Int)) - 1))) = _; rw [wrap_small (by omega), show ((70 - (j : Int)) - 1) = (69 - (j : Int)) by omega]) (
sat_ob (by simp [binV, binI]; omega) (
sat_ob (by simp [binV, binI]; omega) (
sat_ob (by show some (V.int .i64 (wrapK .i64 ((71 + (j : Int)) + 1))) = _; rw [wrap_small (by omega), show ((71 + (j : Int)) + 1) = (72 + (j : Int)) by omega]) (
sat_leaf (if h2 : j + 1 < 69 then ⟨.c3 (j + 1), (by show SNLX1_0 a b (vi 2) (vi (72 + (j : Int))) (vi 2) (vi (69 - (j : Int))) (vi (72 + (j : Int))) = SNLX1_0 a b (vi 2) (vi (71 + ((j + 1 : Nat) : Int))) (vi 2) (vi (70 - ((j + 1 : Nat) : Int))) (vi (71 + ((j + 1 : Nat) : Int))); rw [show ((70 - ((j + 1 : Nat) : Int)) : Int) = (69 - (j : Int)) by omega, show ((71 + ((j + 1 : Nat) : Int)) : Int) = (72 + (j : Int)) by omega]), (by show 200 - (71 + (j + 1)) < 200 - (71 + j); omega), ⟨h2, hX⟩⟩ else by
    obtain rfl : j = 68 := by omega
    exact ⟨.c4 0, by kernel_rfl, (by show 200 - (140 + 0) < 200 - (71 + 68); omega), ⟨(show 0 < 1 by decide), hX⟩⟩)))))))))
  | .c4 j =>
    have hj : j < 1 := h.1
    have hX := h.2
    obtain rfl : j = 0 := by omega
    exact sat_ob (by decide) (
sat_ob (by simp only [V.beq_refl, Bool.and_true]) (
sat_ob trivial (
sat_leaf (⟨.c5 0, by kernel_rfl, (by show 200 - (141 + 0) < 200 - (140 + 0); omega), ⟨(show 0 < 58 by decide), hX⟩⟩))))
  | .c5 j =>
    have hj : j < 58 := h.1
    have hX := h.2
    exact sat_ob (by simp [binV, binI]; omega) (
sat_ob (by show some (V.int .i64 (wrapK .i64 ((141 + (j : Int)) + 1))) = _; rw [wrap_small (by omega), show ((141 + (j : Int)) + 1) = (142 + (j : Int)) by omega]) (
sat_ob (by simp [binV, binI]; omega) (
sat_ob (by simp [binV, binI]; omega) (
sat_ob (by show some (V.int .i64 (wrapK .i64 ((70 - (j : Int)) - 1))) = _; rw [wrap_small (by omega), show ((70 - (j : Int)) - 1) = (69 - (j : Int)) by omega]) (
sat_ob (by simp [binV, binI]; omega) (
sat_ob (by simp [binV, binI]; omega) (
sat_ob (by show some (V.int .i64 (wrapK .i64 ((141 + (j : Int)) + 1))) = _; rw [wrap_small (by omega), show ((141 + (j : Int)) + 1) = (142 + (j : Int)) by omega]) (
sat_leaf (if h2 : j + 1 < 58 then ⟨.c5 (j + 1), (by show SNLX1_0 a b (vi 3) (vi (142 + (j : Int))) (vi 3) (vi (69 - (j : Int))) (vi (142 + (j : Int))) = SNLX1_0 a b (vi 3) (vi (141 + ((j + 1 : Nat) : Int))) (vi 3) (vi (70 - ((j + 1 : Nat) : Int))) (vi (141 + ((j + 1 : Nat) : Int))); rw [show ((141 + ((j + 1 : Nat) : Int)) : Int) = (142 + (j : Int)) by omega, show ((70 - ((j + 1 : Nat) : Int)) : Int) = (69 - (j : Int)) by omega]), (by show 200 - (141 + (j + 1)) < 200 - (141 + j); omega), ⟨h2, hX⟩⟩ else by
    obtain rfl : j = 57 := by omega
    exact ⟨.c6 0, by kernel_rfl, (by show 200 - (199 + 0) < 200 - (141 + 57); omega), ⟨(show 0 < 1 by decide), hX⟩⟩)))))))))
  | .c6 j =>
    have hj : j < 1 := h.1
    have hX := h.2
    obtain rfl : j = 0 := by omega
    exact sat_leaf (hX)
theorem ltLX1_0_ok (a : Gw.Offer) (b : Gw.Offer) (hwa : loL (fineO a).wait = 1) (hwb : loL (fineO b).wait = 0) (hint : Nat → List Nat) : Lt1 Tryz.prog hint 3 (loopLX1_0 a b).lt lpLX1_0 :=
  LoopD.lt1c mixed (show TabX Tryz.prog noPX oxM from tabM) tabD (loopLX1_0 a b) muLX1_0 (fun ex => match ex with | .normal => ⟨show 3 ≤ 358 by decide, show 3 ≤ 358 by decide⟩ | .exit _ => ⟨show 3 ≤ 358 by decide, show 3 ≤ 358 by decide⟩ | .ret => ⟨show 3 ≤ 358 by decide, show 3 ≤ 358 by decide⟩) (orcs := orcsLX1_0 a b) (sts := stsLX1_0) (orc := orcLX1_0 a b) (st := stLX1_0) (tree := treeLX1_0L a b)
    (fun i => match i with
    | .c0 j => treeLX1_0_0_eq a b j
    | .c1 j => treeLX1_0_1_eq a b j
    | .c2 j => treeLX1_0_2_eq a b j
    | .c3 j => treeLX1_0_3_eq a b j
    | .c4 j => treeLX1_0_4_eq a b j
    | .c5 j => treeLX1_0_5_eq a b j
    | .c6 j => treeLX1_0_6_eq a b j) (roundLX1_0 a b hwa hwb)
def oxLX1_0 (a : Gw.Offer) (b : Gw.Offer) : OTab := (consT 46 (gD dGet pGet (fun n => match n with | 138 => some (.tup [.agg [.int .u32 1, .int .u32 2, vi 0, vi 1, vi (fineO a).baud, vi 7, vi (fineO a).win, vi (fineO a).size, vi (fineO a).wait], .bool true]) | 298 => some (.tup [.agg [.int .u32 2, .int .u32 1, vi 0, vi 1, vi (fineO b).baud, vi 7, vi (fineO b).win, vi (fineO b).size, vi (fineO b).wait], .bool true]) | _ => none)) (consT 70 (gD dPut pPut noV) (consT 47 (gDT kT0 kT1 kT2 dDeal pDeal (fun n => match n with | 151 => some (.tup [.agg (dvD b a 1), .bool true]) | 311 => some (.tup [.agg (dvD a b 0), .bool true]) | _ => none)) (consT 43 (gD dOff pMayQ (fun n => match n with | 12 => some (.bool true) | 20 => some (.bool true) | _ => none)) (consT 10 (gD dOff pFine noV) (consO 9 (gTrue kT0 kT1 kT2) noOX))))))
def treeLX1_0 (a : Gw.Offer) (b : Gw.Offer) : DT V :=
  .ob (dOff [.agg a.vs]) (
.ob (((V.beq (.agg b.vs) (.agg b.vs)) && true) = true) (
.ob (dOff [.agg b.vs]) (
.ob (dOff [.agg (disO a).vs]) (
.ob (pMayQ [.agg (disO a).vs] = (.bool true)) (
.ob (((V.beq (.agg (disO b).vs) (.agg (disO b).vs)) && true) = true) (
.ob (dOff [.agg (disO b).vs]) (
.ob (pMayQ [.agg (disO b).vs] = (.bool true)) (
.ob (True) (
.ob (IntKind.i64 = IntKind.i64 ∧ (250 : Int) ≠ 0) (
.ob (((V.beq (.int .u32 2) (.int .u32 2)) && true) = true) (
.ob (((V.beq (.int .u32 2) (.int .u32 2)) && true) = true) (
.ob (dPut [.agg [.int .u32 1, .int .u32 2, vi 0, vi 1, vi (fineO a).baud, vi 7, vi (fineO a).win, vi (fineO a).size, vi (fineO a).wait]]) (
.ob (9 = 9 ∧ 0 ≤ (0 : Int) ∧ (0 : Int) < ((1 : Nat) : Int)) (
.ob (Gw.lenStr (.str (setupStr ⟨1, 2, 0, 1, (disO a)⟩)) = some (vi 25)) (
.ob (Gw.lenStr (.str (setupStr ⟨1, 2, 0, 1, (disO a)⟩)) = some (vi 25)) (
.ob (((V.beq (.str (setupStr ⟨1, 2, 0, 1, (disO a)⟩)) (.str (setupStr ⟨1, 2, 0, 1, (disO a)⟩))) && ((V.beq (.bool true) (.bool true)) && ((V.beq (.agg [vi 127, vi 255]) (.agg [vi 127, vi 255])) && true))) = true) (
.ob (((V.beq (vi 2) (vi 2)) && true) = true) (
.ob (((V.beq (.agg [vi 127, vi 255, .bool true, vi 3, vi 2, vi 0, vi 0, .bool true, .str (setupStr ⟨1, 2, 0, 1, (disO a)⟩)]) (.agg [vi 127, vi 255, .bool true, vi 3, vi 2, vi 0, vi 0, .bool true, .str (setupStr ⟨1, 2, 0, 1, (disO a)⟩)])) && true) = true) (
.ob (((eqV (.agg [.i, .i, .b, .i, .i, .i, .i, .b, .s]) (.agg [vi 127, vi 255, .bool true, vi 3, vi 2, vi 0, vi 0, .bool true, .str (setupStr ⟨1, 2, 0, 1, (disO a)⟩)]) (.agg [vi 127, vi 255, .bool true, vi 3, vi 2, vi 0, vi 0, .bool true, .str (setupStr ⟨1, 2, 0, 1, (disO a)⟩)])).map fun b => V.bool (if true then !b else b)) = some (.bool false)) (
.ob (((V.beq (.agg [vi 127, vi 255]) (.agg [vi 127, vi 255])) && true) = true) (
.ob (True) (
.ob (dGet [.str (setupStr ⟨1, 2, 0, 1, (disO a)⟩)]) (
.ob (pGet [.str (setupStr ⟨1, 2, 0, 1, (disO a)⟩)] = (.tup [.agg [.int .u32 1, .int .u32 2, vi 0, vi 1, vi (fineO a).baud, vi 7, vi (fineO a).win, vi (fineO a).size, vi (fineO a).wait], .bool true])) (
.ob (dDeal [.agg (disO b).vs, .agg (disO a).vs]) (
.ob (pDeal [.agg (disO b).vs, .agg (disO a).vs] = (.tup [.agg (dvD b a 1), .bool true])) (
.ob (((V.beq (vi (dealL (disO b) (disO a)).size) (vi (dealL (disO b) (disO a)).size)) && true) = true) (
.ob (((V.beq (vi (dealL (disO b) (disO a)).size) (vi (dealL (disO b) (disO a)).size)) && true) = true) (
.ob (((V.beq (.agg (dvD b a 1)) (.agg (dvD b a 1))) && ((V.beq (.agg [vi 0, vi 1]) (.agg [vi 0, vi 1])) && true)) = true) (
.ob (((V.beq (.agg (dvD b a 1)) (.agg (dvD b a 1))) && ((V.beq (.agg [vi 0, vi 1]) (.agg [vi 0, vi 1])) && true)) = true) (
.ob (((V.beq (.agg (dvD b a 1)) (.agg (dvD b a 1))) && ((V.beq (.agg [vi 0, vi 1]) (.agg [vi 0, vi 1])) && true)) = true) (
.ob (((V.beq (.agg (dvD b a 1)) (.agg (dvD b a 1))) && true) = true) (
.ob (((V.beq (vi 1) (vi 1)) && true) = true) (
.ob (((V.beq (vi 1) (vi 1)) && true) = true) (
.ob (((V.beq (vi 1) (vi 1)) && true) = true) (
.ob (dPut [.agg [.int .u32 2, .int .u32 1, vi 0, vi 1, vi (fineO b).baud, vi 7, vi (fineO b).win, vi (fineO b).size, vi (fineO b).wait]]) (
.ob (9 = 9 ∧ 0 ≤ (0 : Int) ∧ (0 : Int) < ((1 : Nat) : Int)) (
.ob (Gw.lenStr (.str (setupStr ⟨2, 1, 0, 1, (disO b)⟩)) = some (vi 25)) (
.ob (Gw.lenStr (.str (setupStr ⟨2, 1, 0, 1, (disO b)⟩)) = some (vi 25)) (
.ob (((V.beq (.str (setupStr ⟨2, 1, 0, 1, (disO b)⟩)) (.str (setupStr ⟨2, 1, 0, 1, (disO b)⟩))) && ((V.beq (.bool false) (.bool false)) && ((V.beq (.agg [vi 127, vi 255]) (.agg [vi 127, vi 255])) && true))) = true) (
.ob (((V.beq (vi 3) (vi 3)) && true) = true) (
.ob (((V.beq (.agg [vi 127, vi 255, .bool false, vi 3, vi 3, vi 0, vi 0, .bool true, .str (setupStr ⟨2, 1, 0, 1, (disO b)⟩)]) (.agg [vi 127, vi 255, .bool false, vi 3, vi 3, vi 0, vi 0, .bool true, .str (setupStr ⟨2, 1, 0, 1, (disO b)⟩)])) && true) = true) (
.ob (((eqV (.agg [.i, .i, .b, .i, .i, .i, .i, .b, .s]) (.agg [vi 127, vi 255, .bool false, vi 3, vi 3, vi 0, vi 0, .bool true, .str (setupStr ⟨2, 1, 0, 1, (disO b)⟩)]) (.agg [vi 127, vi 255, .bool false, vi 3, vi 3, vi 0, vi 0, .bool true, .str (setupStr ⟨2, 1, 0, 1, (disO b)⟩)])).map fun b => V.bool (if true then !b else b)) = some (.bool false)) (
.ob (((V.beq (.agg [vi 127, vi 255]) (.agg [vi 127, vi 255])) && true) = true) (
.ob (True) (
.ob (dGet [.str (setupStr ⟨2, 1, 0, 1, (disO b)⟩)]) (
.ob (pGet [.str (setupStr ⟨2, 1, 0, 1, (disO b)⟩)] = (.tup [.agg [.int .u32 2, .int .u32 1, vi 0, vi 1, vi (fineO b).baud, vi 7, vi (fineO b).win, vi (fineO b).size, vi (fineO b).wait], .bool true])) (
.ob (dDeal [.agg (disO a).vs, .agg (disO b).vs]) (
.ob (pDeal [.agg (disO a).vs, .agg (disO b).vs] = (.tup [.agg (dvD a b 0), .bool true])) (
.ob (True) (
.ob (((V.beq (vi (dealL (disO a) (disO b)).size) (vi (dealL (disO a) (disO b)).size)) && true) = true) (
.ob (((V.beq (vi (dealL (disO a) (disO b)).size) (vi (dealL (disO a) (disO b)).size)) && true) = true) (
.ob (((V.beq (.agg (dvD a b 0)) (.agg (dvD a b 0))) && ((V.beq (.agg [vi 0, vi 1]) (.agg [vi 0, vi 1])) && true)) = true) (
.ob (((V.beq (.agg (dvD a b 0)) (.agg (dvD a b 0))) && ((V.beq (.agg [vi 0, vi 1]) (.agg [vi 0, vi 1])) && true)) = true) (
.ob (((V.beq (.agg (dvD a b 0)) (.agg (dvD a b 0))) && ((V.beq (.agg [vi 0, vi 1]) (.agg [vi 0, vi 1])) && true)) = true) (
.ob (((V.beq (.agg (dvD a b 0)) (.agg (dvD a b 0))) && true) = true) (
.ob (((V.beq (vi 0) (vi 0)) && true) = true) (
.ob (((V.beq (vi 0) (vi 0)) && true) = true) (
.ob (((V.beq (vi 0) (vi 0)) && true) = true) (
.ob (True) (
.ob ((SNLX1_0 a b (vi 0) (vi 0) (vi 0) (vi 0) (vi 0) : Snap) = (loopLX1_0 a b).S (.c0 0)) (
.ob (invLX1_0 (.c0 0)) (
.ob (4 = 4 ∧ 0 ≤ (0 : Int) ∧ (0 : Int) < ((1 : Nat) : Int)) (
.leaf (.bool true))))))))))))))))))))))))))))))))))))))))))))))))))))))))))))))))
set_option maxRecDepth 1000000 in
theorem treeLX1_0_eq (a : Gw.Offer) (b : Gw.Offer) : funT (mkXT (noPX) (oxLX1_0 a b)) (mkXP (noPX)) (mkX (noPX) (oxLX1_0 a b)) D (fun g => match g with | 76 => (fun k => match k with | 38 => some fun t h => (match h.n with | 93 => (vi 25, h) | 112 => (vi 25, h) | 253 => (vi 25, h) | _ => (vi 25, h)) | _ => none) | 44 => (fun k => match k with | 52 => some fun t h => (match h.n with | 128 => (.bool false, h) | _ => (.bool false, h)) | _ => none) | _ => noOrc) (fun k => match k with | 4 => [16, 37, 91, 95, 102, 107] | 11 => [31, 41, 49, 60, 69, 72, 76] | 12 => [10, 15, 20, 25, 30, 31, 37, 41, 50, 57, 81, 90] | 16 => [15, 22, 31, 52, 58] | 21 => [8, 11, 15, 19, 23] | 22 => [16, 25, 30, 36, 39, 44, 47, 57, 67, 82, 86, 99] | 31 => [10, 33, 34, 40, 44, 49, 52, 66, 71] | 35 => [8, 25, 32] | 37 => [28, 30] | 44 => [8, 15, 26, 37, 41, 46, 52] | 48 => [14, 20, 28] | 49 => [13] | 71 => [10] | 76 => [11, 16, 20, 25, 30, 34, 39] | 77 => [8, 14, 19, 24, 34, 44] | 104 => [6, 9, 20] | 129 => [8, 19, 30, 34, 38] | 130 => [8, 13, 18, 21] | _ => []) 12 noOrc [16, 37, 91, 95, 102, 107] (ltLX1_0 a b) (dOf 4) [.agg a.vs, .agg b.vs] (tabH kT0 kT1 kT2 3) (fun v _ => v) = treeLX1_0 a b := by kernel_rfl
theorem satLX1_0 (a : Gw.Offer) (b : Gw.Offer) (hwa : loL (fineO a).wait = 1) (hwb : loL (fineO b).wait = 0) : (treeLX1_0 a b).sat fun v => v = .bool true :=
 sat_ob trivial (
sat_ob (by simp only [V.beq_refl, Bool.and_true]) (
sat_ob trivial (
sat_ob trivial (
sat_ob (pMay_dis a) (
sat_ob (by simp only [V.beq_refl, Bool.and_true]) (
sat_ob trivial (
sat_ob (pMay_dis b) (
sat_ob trivial (
sat_ob (by decide) (
sat_ob (by simp only [V.beq_refl, Bool.and_true]) (
sat_ob (by simp only [V.beq_refl, Bool.and_true]) (
sat_ob (okSetD 1 2 0 1 a (by decide) (by decide) (by decide) (by decide)) (
sat_ob (by decide) (
sat_ob rfl (
sat_ob rfl (
sat_ob (by simp only [V.beq_refl, Bool.and_true]) (
sat_ob (by simp only [V.beq_refl, Bool.and_true]) (
sat_ob (by simp only [V.beq_refl, Bool.and_true]) (
sat_ob (by simp [eqV, eqCells]) (
sat_ob (by simp only [V.beq_refl, Bool.and_true]) (
sat_ob trivial (
sat_ob ⟨⟨1, 2, 0, 1, (disO a)⟩, (okSetD 1 2 0 1 a (by decide) (by decide) (by decide) (by decide)), rfl⟩ (
sat_ob (get_put ⟨1, 2, 0, 1, (disO a)⟩ (okSetD 1 2 0 1 a (by decide) (by decide) (by decide) (by decide))) (
sat_ob ⟨(mayO_dis b), (mayO_dis a)⟩ (
sat_ob (by show V.tup [.agg [vi _, vi _, vi _, vi _, vi (loL (fineO a).wait)], .bool true] = _; rw [hwa]; rfl) (
sat_ob (by simp only [V.beq_refl, Bool.and_true]) (
sat_ob (by simp only [V.beq_refl, Bool.and_true]) (
sat_ob (by simp only [V.beq_refl, Bool.and_true]) (
sat_ob (by simp only [V.beq_refl, Bool.and_true]) (
sat_ob (by simp only [V.beq_refl, Bool.and_true]) (
sat_ob (by simp only [V.beq_refl, Bool.and_true]) (
sat_ob (by simp only [V.beq_refl, Bool.and_true]) (
sat_ob (by simp only [V.beq_refl, Bool.and_true]) (
sat_ob (by simp only [V.beq_refl, Bool.and_true]) (
sat_ob (okSetD 2 1 0 1 b (by decide) (by decide) (by decide) (by decide)) (
sat_ob (by decide) (
sat_ob rfl (
sat_ob rfl (
sat_ob (by simp only [V.beq_refl, Bool.and_true]) (
sat_ob (by simp only [V.beq_refl, Bool.and_true]) (
sat_ob (by simp only [V.beq_refl, Bool.and_true]) (
sat_ob (by simp [eqV, eqCells]) (
sat_ob (by simp only [V.beq_refl, Bool.and_true]) (
sat_ob trivial (
sat_ob ⟨⟨2, 1, 0, 1, (disO b)⟩, (okSetD 2 1 0 1 b (by decide) (by decide) (by decide) (by decide)), rfl⟩ (
sat_ob (get_put ⟨2, 1, 0, 1, (disO b)⟩ (okSetD 2 1 0 1 b (by decide) (by decide) (by decide) (by decide))) (
sat_ob ⟨(mayO_dis a), (mayO_dis b)⟩ (
sat_ob (by show V.tup [.agg [vi _, vi _, vi _, vi _, vi (loL (fineO b).wait)], .bool true] = _; rw [hwb]; rfl) (
sat_ob trivial (
sat_ob (by simp only [V.beq_refl, Bool.and_true]) (
sat_ob (by simp only [V.beq_refl, Bool.and_true]) (
sat_ob (by simp only [V.beq_refl, Bool.and_true]) (
sat_ob (by simp only [V.beq_refl, Bool.and_true]) (
sat_ob (by simp only [V.beq_refl, Bool.and_true]) (
sat_ob (by simp only [V.beq_refl, Bool.and_true]) (
sat_ob (by simp only [V.beq_refl, Bool.and_true]) (
sat_ob (by simp only [V.beq_refl, Bool.and_true]) (
sat_ob (by simp only [V.beq_refl, Bool.and_true]) (
sat_ob trivial (
sat_ob (by kernel_rfl) (
sat_ob (show 0 < 1 by decide) (
sat_ob (by decide) (
sat_leaf (rfl))))))))))))))))))))))))))))))))))))))))))))))))))))))))))))))))
def lpLX1_0_1 : DC := (((loopsIn 0 (dOf 4).body)[1]?).getD (0, .skip)).2
theorem loopsLX1_0 : loopsIn 0 (dOf 4).body = [(0, lpLX1_0), (2, lpLX1_0_1)] := by kernel_rfl
set_option maxRecDepth 1000000 in
theorem runLX1_0 (a : Gw.Offer) (b : Gw.Offer) (hwa : loL (fineO a).wait = 1) (hwb : loL (fineO b).wait = 0) : Run Tryz.prog 4 [.agg a.vs, .agg b.vs] (tabH kT0 kT1 kT2 3) fun v _ => v = .bool true := by
  refine run_loops mixed (show TabX Tryz.prog noPX (oxLX1_0 a b) from ((((((TabX.nil.addO ans_begun).addT (ans_fine noV)).addT (ans_may (fun n => match n with | 12 => some (.bool true) | 20 => some (.bool true) | _ => none))).addT (ans_deal (fun n => match n with | 151 => some (.tup [.agg (dvD b a 1), .bool true]) | 311 => some (.tup [.agg (dvD a b 0), .bool true]) | _ => none))).addT (ans_put noV)).addT (ans_get (fun n => match n with | 138 => some (.tup [.agg [.int .u32 1, .int .u32 2, vi 0, vi 1, vi (fineO a).baud, vi 7, vi (fineO a).win, vi (fineO a).size, vi (fineO a).wait], .bool true]) | 298 => some (.tup [.agg [.int .u32 2, .int .u32 1, vi 0, vi 1, vi (fineO b).baud, vi 7, vi (fineO b).win, vi (fineO b).size, vi (fineO b).wait], .bool true]) | _ => none)))) tabD (dIs (by kernel_rfl)) (lt := ltLX1_0 a b) (fun hint p hp => ?_) (treeLX1_0_eq a b) (satLX1_0 a b hwa hwb)
  rw [loopsLX1_0] at hp
  simp only [List.mem_cons, List.not_mem_nil, or_false] at hp
  rcases hp with rfl | rfl
  · exact ltLX1_0_ok a b hwa hwb hint
  · exact lt1_no
inductive ILX1_1
  | c0 (j : Nat)
  | c1 (j : Nat)
  | c2 (j : Nat)
  | c3 (j : Nat)
  | c4 (j : Nat)
  | c5 (j : Nat)
  | c6 (j : Nat)
  | c7 (j : Nat)
def RWLX1_1 (a : Gw.Offer) (b : Gw.Offer) (w0 : V) (w1 : V) (w2 : V) (w3 : V) (w4 : V) (w5 : V) : List (Option Blk) := [some (.cells true (zsV .u8 kT0)), some (.cells true (zsV .u8 kT1)), some (.cells true (zsV .u8 kT2)), cF (disO a).vs, cF (disO b).vs, none, cF (disO a).vs, cF (disO b).vs, none, none, cF (disO a).vs, none, none, none, none, none, cF [.int .u32 1, vi 0, vi (fineO a).baud, vi 7, vi (fineO a).win, vi (fineO a).size, vi (fineO a).wait, vi 2, .int .u32 2, vi 0, vi 1, vi (dealL (disO a) (disO b)).baud, vi 200, vi (dealL (disO a) (disO b)).win, vi (dealL (disO a) (disO b)).size, vi 1, .ptr 330 0, vi 1, vi 0, vi 0, w2, w3, w4, w5, .bool true, .bool false, .bool false, .nils], none, cF (disO b).vs, none, none, none, none, none, cF [.int .u32 2, vi 1, vi (fineO b).baud, vi 7, vi (fineO b).win, vi (fineO b).size, vi (fineO b).wait, vi 2, .int .u32 1, vi 0, vi 1, vi (dealL (disO b) (disO a)).baud, vi 200, vi (dealL (disO b) (disO a)).win, vi (dealL (disO b) (disO a)).size, vi 1, .ptr 170 0, vi 0, vi 0, vi 0, vi 0, vi 0, vi 0, vi 2, .bool false, .bool false, .bool false, .nils], none, some (.cells false [vi 2, vi 0, .int .u32 2, .str []]), none, some (.cells false [vi 2, vi 0, .int .u32 2, .str []]), none, none, none, none, some (.cells false [vi 2, vi 0, .int .u32 2, .str []]), none, cF [vi 0, vi 1], none, none, none, none, none, none, cF [vi 127, vi 255, .bool true, vi 3, vi 2, vi 0, vi 0, .bool true, .str (setupStr ⟨1, 2, 0, 1, (disO a)⟩)], none, none, cF [vi 0, vi 1], cF [vi 127, vi 255, .bool true, vi 3, vi 2, vi 0, vi 0, .bool true, .str (setupStr ⟨1, 2, 0, 1, (disO a)⟩)], cF [vi 127, vi 255], cF [vi 127, vi 255], cF [vi 127, vi 255, .bool true, vi 3, vi 2, vi 0, vi 0, .bool true, .str (setupStr ⟨1, 2, 0, 1, (disO a)⟩)], none, none, cF [vi 127, vi 255, .bool true, vi 3, vi 2, vi 0, vi 0, .bool true, .str (setupStr ⟨1, 2, 0, 1, (disO a)⟩)], none, cF [vi 127, vi 255, .bool true, vi 3, vi 2, vi 0, vi 0, .bool true, .str (setupStr ⟨1, 2, 0, 1, (disO a)⟩)], none, none, none, none, none, none, some (.cells false [vi 127, vi 255, .bool true, .iface 117 (.agg [vi 2, .bool true]), .str (setupStr ⟨1, 2, 0, 1, (disO a)⟩)]), none, none, cF [vi 127, vi 255, .bool true, vi 3, vi 2, vi 0, vi 0, .bool true, .str (setupStr ⟨1, 2, 0, 1, (disO a)⟩)], some (.cells false [vi 127, vi 255, .bool true, .iface 117 (.agg [vi 2, .bool true]), .str (setupStr ⟨1, 2, 0, 1, (disO a)⟩)]), none, none, none, none, none, none, none, none, some (.cells false [vi 127, vi 255, .bool true, .iface 117 (.agg [vi 2, .bool true]), .str (setupStr ⟨1, 2, 0, 1, (disO a)⟩)]), none, some (.cells false [vi 127, vi 255, .bool true, .iface 117 (.agg [vi 2, .bool true]), .str (setupStr ⟨1, 2, 0, 1, (disO a)⟩)]), none, none, none, none, none, none, none, cF [vi 0, vi 0, .bool false], none, none, none, none, cF [vi 127, vi 255], none, cF [vi 2, .bool true], none, some (.cells false [vi 127, vi 255, .bool true, .iface 117 (.agg [vi 2, .bool true]), .str (setupStr ⟨1, 2, 0, 1, (disO a)⟩)]), cF [vi 127, vi 255, .bool true, vi 3, vi 2, vi 0, vi 0, .bool true, .str (setupStr ⟨1, 2, 0, 1, (disO a)⟩)], some (.cells false [vi 127, vi 255, .bool true, .iface 117 (.agg [vi 2, .bool true]), .str (setupStr ⟨1, 2, 0, 1, (disO a)⟩)]), none, none, none, none, none, none, none, cF [vi 0, vi 0, .bool false], none, none, none, none, cF [vi 127, vi 255], none, cF [vi 2, .bool true], none, none, none, none, none, none, none, none, none, none, none, cF [vi 127, vi 255, .bool true, vi 3, vi 2, vi 0, vi 0, .bool true, .str (setupStr ⟨1, 2, 0, 1, (disO a)⟩)], none, cF [vi 2, .bool true], none, cF [vi 2, .bool true], none, cF [vi 127, vi 255], none, none, none, none, none, none, cF [.int .u32 1, .int .u32 2, vi 0, vi 1, vi (fineO a).baud, vi 7, vi (fineO a).win, vi (fineO a).size, vi (fineO a).wait], none, none, none, none, none, none, none, none, none, none, none, none, cF (dvD b a 1), none, none, cF [.int .u32 1, .int .u32 2, vi 0, vi 1, vi (fineO a).baud, vi 7, vi (fineO a).win, vi (fineO a).size, vi (fineO a).wait], cF (dvD b a 1), none, cF [vi 0, vi 1], cF (dvD b a 1), none, cF (dvD b a 1), none, none, none, none, none, none, none, none, none, none, none, none, cF [vi 2, vi (if (64 : Int) < (dealL (disO b) (disO a)).size then 64 else (dealL (disO b) (disO a)).size), .ptr 176 0, .ptr 179 0, .bool false], none, none, none, none, none, cF [vi (if (7 : Int) < (if (1 : Int) > (dealL (disO b) (disO a)).win then 1 else (dealL (disO b) (disO a)).win) then 7 else (if (1 : Int) > (dealL (disO b) (disO a)).win then 1 else (dealL (disO b) (disO a)).win)), .nils, vi 0, vi 0], none, none, cF [vi 0, .bool false], none, none, none, none, none, none, none, some (.cells false [vi 2, .int .u32 1, .str [], .nils]), none, cF [vi 0, vi 1], cF [vi 127, vi 255, .bool false, vi 3, vi 3, vi 0, vi 0, .bool true, .str (setupStr ⟨2, 1, 0, 1, (disO b)⟩)], cF [vi 127, vi 255], cF [vi 127, vi 255], cF [vi 127, vi 255, .bool false, vi 3, vi 3, vi 0, vi 0, .bool true, .str (setupStr ⟨2, 1, 0, 1, (disO b)⟩)], cF [vi 127, vi 255, .bool false, vi 3, vi 3, vi 0, vi 0, .bool true, .str (setupStr ⟨2, 1, 0, 1, (disO b)⟩)], none, none, none, cF [vi 127, vi 255, .bool false, vi 3, vi 3, vi 0, vi 0, .bool true, .str (setupStr ⟨2, 1, 0, 1, (disO b)⟩)], none, none, none, none, none, none, none, none, none, none, none, none, none, cF [vi 127, vi 255, .bool false, vi 3, vi 3, vi 0, vi 0, .bool true, .str (setupStr ⟨2, 1, 0, 1, (disO b)⟩)], none, cF [vi 127, vi 255, .bool false, vi 3, vi 3, vi 0, vi 0, .bool true, .str (setupStr ⟨2, 1, 0, 1, (disO b)⟩)], none, none, none, none, none, none, some (.cells false [vi 127, vi 255, .bool false, .iface 117 (.agg [vi 3, .bool true]), .str (setupStr ⟨2, 1, 0, 1, (disO b)⟩)]), none, none, cF [vi 127, vi 255, .bool false, vi 3, vi 3, vi 0, vi 0, .bool true, .str (setupStr ⟨2, 1, 0, 1, (disO b)⟩)], some (.cells false [vi 127, vi 255, .bool false, .iface 117 (.agg [vi 3, .bool true]), .str (setupStr ⟨2, 1, 0, 1, (disO b)⟩)]), none, none, none, none, none, none, none, none, some (.cells false [vi 127, vi 255, .bool false, .iface 117 (.agg [vi 3, .bool true]), .str (setupStr ⟨2, 1, 0, 1, (disO b)⟩)]), none, some (.cells false [vi 127, vi 255, .bool false, .iface 117 (.agg [vi 3, .bool true]), .str (setupStr ⟨2, 1, 0, 1, (disO b)⟩)]), none, none, none, none, none, none, none, cF [vi 0, vi 0, .bool false], none, none, none, none, cF [vi 127, vi 255], none, cF [vi 3, .bool true], none, some (.cells false [vi 127, vi 255, .bool false, .iface 117 (.agg [vi 3, .bool true]), .str (setupStr ⟨2, 1, 0, 1, (disO b)⟩)]), cF [vi 127, vi 255, .bool false, vi 3, vi 3, vi 0, vi 0, .bool true, .str (setupStr ⟨2, 1, 0, 1, (disO b)⟩)], some (.cells false [vi 127, vi 255, .bool false, .iface 117 (.agg [vi 3, .bool true]), .str (setupStr ⟨2, 1, 0, 1, (disO b)⟩)]), none, none, none, none, none, none, none, cF [vi 0, vi 0, .bool false], none, none, none, none, cF [vi 127, vi 255], none, cF [vi 3, .bool true], none, none, none, none, none, none, none, none, none, none, none, cF [vi 127, vi 255, .bool false, vi 3, vi 3, vi 0, vi 0, .bool true, .str (setupStr ⟨2, 1, 0, 1, (disO b)⟩)], none, cF [vi 3, .bool true], none, cF [vi 3, .bool true], none, cF [vi 127, vi 255], none, none, none, none, none, none, cF [.int .u32 2, .int .u32 1, vi 0, vi 1, vi (fineO b).baud, vi 7, vi (fineO b).win, vi (fineO b).size, vi (fineO b).wait], none, none, none, none, none, none, none, none, none, none, none, none, cF (dvD a b 1), none, none, cF [.int .u32 2, .int .u32 1, vi 0, vi 1, vi (fineO b).baud, vi 7, vi (fineO b).win, vi (fineO b).size, vi (fineO b).wait], cF (dvD a b 1), none, cF [vi 0, vi 1], cF (dvD a b 1), none, cF (dvD a b 1), none, none, none, none, none, none, none, none, none, none, none, none, cF [vi 1, vi (if (64 : Int) < (dealL (disO a) (disO b)).size then 64 else (dealL (disO a) (disO b)).size), .ptr 336 0, .ptr 339 0, .bool true], none, none, none, none, none, cF [vi (if (7 : Int) < (if (1 : Int) > (dealL (disO a) (disO b)).win then 1 else (dealL (disO a) (disO b)).win) then 7 else (if (1 : Int) > (dealL (disO a) (disO b)).win then 1 else (dealL (disO a) (disO b)).win)), .nils, vi 0, vi 0], none, none, cF [vi 0, .bool false], none, none, none, none, none, none, none, some (.cells false [vi 2, .int .u32 2, .str [], .nils]), none, some (.cells false [vi 4, vi 0, .int .u32 0, .str []]), none, some (.cells false [vi 4, vi 0, .int .u32 0, .str []]), none, none, none, none, some (.cells false [vi 4, vi 0, .int .u32 0, .str []]), none]
def SNLX1_1 (a : Gw.Offer) (b : Gw.Offer) (w0 : V) (w1 : V) (w2 : V) (w3 : V) (w4 : V) (w5 : V) : Snap := ([.agg a.vs, .agg b.vs, .ptr 3 0, .ptr 4 0, .bool true, .ptr 16 0, w0, w1, .bool true, .bool true, .bool false, .agg a.vs, .agg (fineO a).vs, .agg b.vs, .agg (fineO b).vs, .ptr 3 1, .ptr 4 1, .tup [.ptr 16 0, .ptr 24 0], .agg (disO a).vs, .agg (disO b).vs, .tup [.ptr 16 0, .ptr 24 0], .ptr 16 0, .ptr 24 0, .ptr 16 0, .bool false, .bool false, .ptr 16 0, .agg [vi 4, vi 0, .int .u32 0, .str []], vi 0, .bool false, .bool false], RWLX1_1 a b w0 w1 w2 w3 w4 w5)
def SSLX1_1 (a : Gw.Offer) (b : Gw.Offer) (i : ILX1_1) : Snap := match i with
  | .c0 j => SNLX1_1 a b (vi 0) (vi 0) (vi 0) (vi 0) (vi 1) (vi 0)
  | .c1 j => SNLX1_1 a b (vi 0) (vi 1) (vi 0) (vi 0) (vi 0) (vi 1)
  | .c2 j => SNLX1_1 a b (vi 1) (vi (2 + (j : Int))) (vi 1) (vi (70 - (j : Int))) (vi 0) (vi (2 + (j : Int)))
  | .c3 j => SNLX1_1 a b (vi 1) (vi 71) (vi 1) (vi 1) (vi 0) (vi 71)
  | .c4 j => SNLX1_1 a b (vi 2) (vi (72 + (j : Int))) (vi 2) (vi (70 - (j : Int))) (vi 0) (vi (72 + (j : Int)))
  | .c5 j => SNLX1_1 a b (vi 2) (vi 141) (vi 2) (vi 1) (vi 0) (vi 141)
  | .c6 j => SNLX1_1 a b (vi 3) (vi (142 + (j : Int))) (vi 3) (vi (70 - (j : Int))) (vi 0) (vi (142 + (j : Int)))
  | .c7 j => SNLX1_1 a b (vi 3) (vi 199) (vi 3) (vi 13) (vi 0) (vi 199)
def XLX1_1 (a : Gw.Offer) (b : Gw.Offer) : Snap := ([.agg a.vs, .agg b.vs, .ptr 3 0, .ptr 4 0, .bool true, .ptr 16 0, vi 3, .bool true, .bool true, .bool false, .agg a.vs, .agg (fineO a).vs, .agg b.vs, .agg (fineO b).vs, .ptr 3 1, .ptr 4 1, .tup [.ptr 16 0, .ptr 24 0], .agg (disO a).vs, .agg (disO b).vs, .tup [.ptr 16 0, .ptr 24 0], .ptr 16 0, .ptr 24 0, .ptr 16 0, .bool false, .bool false, .ptr 16 0, .agg [vi 4, vi 0, .int .u32 0, .str []], vi 0, .bool false, .bool false], RWLX1_1 a b (vi 0) (vi 0) (vi 3) (vi 13) (vi 0) (vi 199))
def invLX1_1 (i : ILX1_1) : Prop := match i with
  | .c0 j => j < 1
  | .c1 j => j < 1
  | .c2 j => j < 69
  | .c3 j => j < 1
  | .c4 j => j < 69
  | .c5 j => j < 1
  | .c6 j => j < 57
  | .c7 j => j < 1
def muLX1_1 (i : ILX1_1) : Nat := match i with
  | .c0 j => 200 - (0 + j)
  | .c1 j => 200 - (1 + j)
  | .c2 j => 200 - (2 + j)
  | .c3 j => 200 - (71 + j)
  | .c4 j => 200 - (72 + j)
  | .c5 j => 200 - (141 + j)
  | .c6 j => 200 - (142 + j)
  | .c7 j => 200 - (199 + j)
def loopLX1_1 (a : Gw.Offer) (b : Gw.Offer) : LoopD ILX1_1 where
  nt := 109
  fr := fun ex => match ex with | .normal => ⟨[0, 1, 2, 3, 5, 6, 8, 9, 16, 17, 18, 19, 20, 21, 22, 23, 24, 25, 26, 27, 28, 29, 30, 31, 32, 33, 34, 35, 36, 37, 38], 358, []⟩ | .exit _ => ⟨[0, 1, 2, 3, 5, 6, 8, 16, 17, 18, 19, 20, 21, 22, 23, 24, 25, 26, 27, 28, 29, 30, 31, 32, 33, 34, 35, 36, 37, 38], 358, []⟩ | .ret => ⟨[], 358, []⟩
  S := SSLX1_1 a b
  out := fun i => .ob (invLX1_1 i) (.leaf ((.exit 0), XLX1_1 a b))
  pick := fun _ => .c0 0
def ltLX1_1 (a : Gw.Offer) (b : Gw.Offer) : Lt := fun k => match k with | 0 => (loopLX1_1 a b).lt | _ => fun _ _ => .fail
def lpLX1_1 : DC := (((loopsIn 0 (dOf 4).body)[0]?).getD (0, .skip)).2
def orcLX1_1 (a : Gw.Offer) (b : Gw.Offer) (i : ILX1_1) : Orc := match i with
  | .c0 j => noOrc
  | .c1 j => noOrc
  | .c2 j => (fun k => match k with | 40 => some fun t h => (.bool true, h) | 42 => some fun t h => (vi (3 + (j : Int)), h) | _ => none)
  | .c3 j => noOrc
  | .c4 j => (fun k => match k with | 40 => some fun t h => (.bool true, h) | 42 => some fun t h => (vi (73 + (j : Int)), h) | _ => none)
  | .c5 j => noOrc
  | .c6 j => (fun k => match k with | 40 => some fun t h => (.bool true, h) | 42 => some fun t h => (vi (143 + (j : Int)), h) | _ => none)
  | .c7 j => noOrc
def orcsLX1_1 (a : Gw.Offer) (b : Gw.Offer) (i : ILX1_1) : Nat → Orc := match i with
  | .c0 j => (fun _ => noOrc)
  | .c1 j => (fun _ => noOrc)
  | .c2 j => (fun g => match g with | 35 => (fun k => match k with | 13 => some fun t h => (vi (3 + (j : Int)), h) | 25 => some fun t h => (.bool false, h) | 32 => some fun t h => (.bool false, h) | 37 => some fun t h => (vi (69 - (j : Int)), h) | 44 => some fun t h => (.bool true, h) | _ => none) | 16 => (fun k => match k with | 96 => some fun t h => (.bool false, h) | _ => none) | _ => noOrc)
  | .c3 j => (fun _ => noOrc)
  | .c4 j => (fun g => match g with | 35 => (fun k => match k with | 13 => some fun t h => (vi (73 + (j : Int)), h) | 25 => some fun t h => (.bool false, h) | 32 => some fun t h => (.bool false, h) | 37 => some fun t h => (vi (69 - (j : Int)), h) | 44 => some fun t h => (.bool true, h) | _ => none) | 16 => (fun k => match k with | 96 => some fun t h => (.bool false, h) | _ => none) | _ => noOrc)
  | .c5 j => (fun _ => noOrc)
  | .c6 j => (fun g => match g with | 35 => (fun k => match k with | 13 => some fun t h => (vi (143 + (j : Int)), h) | 25 => some fun t h => (.bool false, h) | 32 => some fun t h => (.bool false, h) | 37 => some fun t h => (vi (69 - (j : Int)), h) | 44 => some fun t h => (.bool true, h) | _ => none) | 16 => (fun k => match k with | 96 => some fun t h => (.bool false, h) | _ => none) | _ => noOrc)
  | .c7 j => (fun _ => noOrc)
def stsLX1_1 (i : ILX1_1) : Nat → List Nat := match i with
  | .c0 j => (fun k => match k with | 4 => [40, 51, 84] | 16 => [15, 22] | 35 => [8, 25, 32] | _ => [])
  | .c1 j => (fun k => match k with | 4 => [40, 51, 56, 60, 64, 69, 77, 84] | 16 => [15, 22, 31, 52, 74, 80, 86, 96] | 35 => [8, 25, 32] | 38 => [9] | 40 => [7] | 71 => [10] | _ => [])
  | .c2 j => (fun k => match k with | 4 => [40, 51, 84] | 16 => [15, 22, 31, 52, 74, 80, 86, 96] | 35 => [8, 25, 32, 44] | 38 => [9] | _ => [])
  | .c3 j => (fun k => match k with | 4 => [40, 51, 56, 60, 64, 69, 77, 84] | 16 => [15, 22, 31, 52, 74, 80, 86, 96] | 35 => [8, 25, 32, 44, 49, 55, 68, 73, 85] | 38 => [9] | 40 => [7] | 69 => [9] | 71 => [10] | _ => [])
  | .c4 j => (fun k => match k with | 4 => [40, 51, 84] | 16 => [15, 22, 31, 52, 74, 80, 86, 96] | 35 => [8, 25, 32, 44] | 38 => [9] | _ => [])
  | .c5 j => (fun k => match k with | 4 => [40, 51, 56, 60, 64, 69, 77, 84] | 16 => [15, 22, 31, 52, 74, 80, 86, 96] | 35 => [8, 25, 32, 44, 49, 55, 68, 73, 85] | 38 => [9] | 40 => [7] | 69 => [9] | 71 => [10] | _ => [])
  | .c6 j => (fun k => match k with | 4 => [40, 51, 84] | 16 => [15, 22, 31, 52, 74, 80, 86, 96] | 35 => [8, 25, 32, 44] | 38 => [9] | _ => [])
  | .c7 j => (fun k => match k with | 4 => [40] | _ => [])
def stLX1_1 (i : ILX1_1) : List Nat := match i with
  | .c0 j => [40, 51, 84]
  | .c1 j => [40, 51, 56, 60, 64, 69, 77, 84]
  | .c2 j => [40, 51, 84]
  | .c3 j => [40, 51, 56, 60, 64, 69, 77, 84]
  | .c4 j => [40, 51, 84]
  | .c5 j => [40, 51, 56, 60, 64, 69, 77, 84]
  | .c6 j => [40, 51, 84]
  | .c7 j => [40]
def treeLX1_1_0 (a : Gw.Offer) (b : Gw.Offer) (j : Nat) : DT (Ex × Snap) :=
  .leaf (.normal, SNLX1_1 a b (vi 0) (vi 1) (vi 0) (vi 0) (vi 0) (vi 1))
set_option maxRecDepth 1000000 in
theorem treeLX1_1_0_eq (a : Gw.Offer) (b : Gw.Offer) (j : Nat) : rnd (orcsLX1_1 a b (.c0 j)) (stsLX1_1 (.c0 j)) (orcLX1_1 a b (.c0 j)) (stLX1_1 (.c0 j)) noLt 0 lpLX1_1 ((loopLX1_1 a b).t0 (.c0 j)) [] ((loopLX1_1 a b).h0 (.c0 j)) (loopLX1_1 a b).end_ = treeLX1_1_0 a b j := by kernel_rfl
def treeLX1_1_1 (a : Gw.Offer) (b : Gw.Offer) (j : Nat) : DT (Ex × Snap) :=
  .ob (9 = 9 ∧ 0 ≤ (0 : Int) ∧ (0 : Int) < ((1 : Nat) : Int)) (
.ob (((V.beq (.agg [vi 0, vi 1]) (.agg [vi 0, vi 1])) && true) = true) (
.ob (True) (
.leaf (.normal, SNLX1_1 a b (vi 1) (vi 2) (vi 1) (vi 70) (vi 0) (vi 2)))))
set_option maxRecDepth 1000000 in
theorem treeLX1_1_1_eq (a : Gw.Offer) (b : Gw.Offer) (j : Nat) : rnd (orcsLX1_1 a b (.c1 j)) (stsLX1_1 (.c1 j)) (orcLX1_1 a b (.c1 j)) (stLX1_1 (.c1 j)) noLt 0 lpLX1_1 ((loopLX1_1 a b).t0 (.c1 j)) [] ((loopLX1_1 a b).h0 (.c1 j)) (loopLX1_1 a b).end_ = treeLX1_1_1 a b j := by kernel_rfl
def treeLX1_1_2 (a : Gw.Offer) (b : Gw.Offer) (j : Nat) : DT (Ex × Snap) :=
  .ob (binV .lss (vi (2 + (j : Int))) (vi 199) = some (.bool true)) (
.ob (binV .add (vi (2 + (j : Int))) (vi 1) = some (vi (3 + (j : Int)))) (
.ob (binV .geq (vi (3 + (j : Int))) (vi 200) = some (.bool false)) (
.ob (binV .eql (vi (70 - (j : Int))) (vi 0) = some (.bool false)) (
.ob (binV .sub (vi (70 - (j : Int))) (vi 1) = some (vi (69 - (j : Int)))) (
.ob (binV .gtr (vi (69 - (j : Int))) (vi 0) = some (.bool true)) (
.ob (binV .eql (vi (69 - (j : Int))) (vi 0) = some (.bool false)) (
.ob (binV .add (vi (2 + (j : Int))) (vi 1) = some (vi (3 + (j : Int)))) (
.leaf (.normal, SNLX1_1 a b (vi 1) (vi (3 + (j : Int))) (vi 1) (vi (69 - (j : Int))) (vi 0) (vi (3 + (j : Int))))))))))))
set_option maxRecDepth 1000000 in
theorem treeLX1_1_2_eq (a : Gw.Offer) (b : Gw.Offer) (j : Nat) : rnd (orcsLX1_1 a b (.c2 j)) (stsLX1_1 (.c2 j)) (orcLX1_1 a b (.c2 j)) (stLX1_1 (.c2 j)) noLt 0 lpLX1_1 ((loopLX1_1 a b).t0 (.c2 j)) [] ((loopLX1_1 a b).h0 (.c2 j)) (loopLX1_1 a b).end_ = treeLX1_1_2 a b j := by kernel_rfl
def treeLX1_1_3 (a : Gw.Offer) (b : Gw.Offer) (j : Nat) : DT (Ex × Snap) :=
  .ob (9 = 9 ∧ 0 ≤ (0 : Int) ∧ (0 : Int) < ((1 : Nat) : Int)) (
.ob (((V.beq (.agg [vi 0, vi 1]) (.agg [vi 0, vi 1])) && true) = true) (
.ob (True) (
.leaf (.normal, SNLX1_1 a b (vi 2) (vi 72) (vi 2) (vi 70) (vi 0) (vi 72)))))
set_option maxRecDepth 1000000 in
theorem treeLX1_1_3_eq (a : Gw.Offer) (b : Gw.Offer) (j : Nat) : rnd (orcsLX1_1 a b (.c3 j)) (stsLX1_1 (.c3 j)) (orcLX1_1 a b (.c3 j)) (stLX1_1 (.c3 j)) noLt 0 lpLX1_1 ((loopLX1_1 a b).t0 (.c3 j)) [] ((loopLX1_1 a b).h0 (.c3 j)) (loopLX1_1 a b).end_ = treeLX1_1_3 a b j := by kernel_rfl
def treeLX1_1_4 (a : Gw.Offer) (b : Gw.Offer) (j : Nat) : DT (Ex × Snap) :=
  .ob (binV .lss (vi (72 + (j : Int))) (vi 199) = some (.bool true)) (
.ob (binV .add (vi (72 + (j : Int))) (vi 1) = some (vi (73 + (j : Int)))) (
.ob (binV .geq (vi (73 + (j : Int))) (vi 200) = some (.bool false)) (
.ob (binV .eql (vi (70 - (j : Int))) (vi 0) = some (.bool false)) (
.ob (binV .sub (vi (70 - (j : Int))) (vi 1) = some (vi (69 - (j : Int)))) (
.ob (binV .gtr (vi (69 - (j : Int))) (vi 0) = some (.bool true)) (
.ob (binV .eql (vi (69 - (j : Int))) (vi 0) = some (.bool false)) (
.ob (binV .add (vi (72 + (j : Int))) (vi 1) = some (vi (73 + (j : Int)))) (
.leaf (.normal, SNLX1_1 a b (vi 2) (vi (73 + (j : Int))) (vi 2) (vi (69 - (j : Int))) (vi 0) (vi (73 + (j : Int))))))))))))
set_option maxRecDepth 1000000 in
theorem treeLX1_1_4_eq (a : Gw.Offer) (b : Gw.Offer) (j : Nat) : rnd (orcsLX1_1 a b (.c4 j)) (stsLX1_1 (.c4 j)) (orcLX1_1 a b (.c4 j)) (stLX1_1 (.c4 j)) noLt 0 lpLX1_1 ((loopLX1_1 a b).t0 (.c4 j)) [] ((loopLX1_1 a b).h0 (.c4 j)) (loopLX1_1 a b).end_ = treeLX1_1_4 a b j := by kernel_rfl
def treeLX1_1_5 (a : Gw.Offer) (b : Gw.Offer) (j : Nat) : DT (Ex × Snap) :=
  .ob (9 = 9 ∧ 0 ≤ (0 : Int) ∧ (0 : Int) < ((1 : Nat) : Int)) (
.ob (((V.beq (.agg [vi 0, vi 1]) (.agg [vi 0, vi 1])) && true) = true) (
.ob (True) (
.leaf (.normal, SNLX1_1 a b (vi 3) (vi 142) (vi 3) (vi 70) (vi 0) (vi 142)))))
set_option maxRecDepth 1000000 in
theorem treeLX1_1_5_eq (a : Gw.Offer) (b : Gw.Offer) (j : Nat) : rnd (orcsLX1_1 a b (.c5 j)) (stsLX1_1 (.c5 j)) (orcLX1_1 a b (.c5 j)) (stLX1_1 (.c5 j)) noLt 0 lpLX1_1 ((loopLX1_1 a b).t0 (.c5 j)) [] ((loopLX1_1 a b).h0 (.c5 j)) (loopLX1_1 a b).end_ = treeLX1_1_5 a b j := by kernel_rfl
def treeLX1_1_6 (a : Gw.Offer) (b : Gw.Offer) (j : Nat) : DT (Ex × Snap) :=
  .ob (binV .lss (vi (142 + (j : Int))) (vi 199) = some (.bool true)) (
.ob (binV .add (vi (142 + (j : Int))) (vi 1) = some (vi (143 + (j : Int)))) (
.ob (binV .geq (vi (143 + (j : Int))) (vi 200) = some (.bool false)) (
.ob (binV .eql (vi (70 - (j : Int))) (vi 0) = some (.bool false)) (
.ob (binV .sub (vi (70 - (j : Int))) (vi 1) = some (vi (69 - (j : Int)))) (
.ob (binV .gtr (vi (69 - (j : Int))) (vi 0) = some (.bool true)) (
.ob (binV .eql (vi (69 - (j : Int))) (vi 0) = some (.bool false)) (
.ob (binV .add (vi (142 + (j : Int))) (vi 1) = some (vi (143 + (j : Int)))) (
.leaf (.normal, SNLX1_1 a b (vi 3) (vi (143 + (j : Int))) (vi 3) (vi (69 - (j : Int))) (vi 0) (vi (143 + (j : Int))))))))))))
set_option maxRecDepth 1000000 in
theorem treeLX1_1_6_eq (a : Gw.Offer) (b : Gw.Offer) (j : Nat) : rnd (orcsLX1_1 a b (.c6 j)) (stsLX1_1 (.c6 j)) (orcLX1_1 a b (.c6 j)) (stLX1_1 (.c6 j)) noLt 0 lpLX1_1 ((loopLX1_1 a b).t0 (.c6 j)) [] ((loopLX1_1 a b).h0 (.c6 j)) (loopLX1_1 a b).end_ = treeLX1_1_6 a b j := by kernel_rfl
def treeLX1_1_7 (a : Gw.Offer) (b : Gw.Offer) (j : Nat) : DT (Ex × Snap) :=
  .leaf ((.exit 0), XLX1_1 a b)
set_option maxRecDepth 1000000 in
theorem treeLX1_1_7_eq (a : Gw.Offer) (b : Gw.Offer) (j : Nat) : rnd (orcsLX1_1 a b (.c7 j)) (stsLX1_1 (.c7 j)) (orcLX1_1 a b (.c7 j)) (stLX1_1 (.c7 j)) noLt 0 lpLX1_1 ((loopLX1_1 a b).t0 (.c7 j)) [] ((loopLX1_1 a b).h0 (.c7 j)) (loopLX1_1 a b).end_ = treeLX1_1_7 a b j := by kernel_rfl
def treeLX1_1L (a : Gw.Offer) (b : Gw.Offer) (i : ILX1_1) : DT (Ex × Snap) := match i with
  | .c0 j => treeLX1_1_0 a b j
  | .c1 j => treeLX1_1_1 a b j
  | .c2 j => treeLX1_1_2 a b j
  | .c3 j => treeLX1_1_3 a b j
  | .c4 j => treeLX1_1_4 a b j
  | .c5 j => treeLX1_1_5 a b j
  | .c6 j => treeLX1_1_6 a b j
  | .c7 j => treeLX1_1_7 a b j
theorem roundLX1_1 (a : Gw.Offer) (b : Gw.Offer) (hwa : loL (fineO a).wait = 1) (hwb : loL (fineO b).wait = 1) (i : ILX1_1) (Pr : Ex × Snap → Prop) (h : ((loopLX1_1 a b).out i).sat Pr) : (treeLX1_1L a b i).sat ((loopLX1_1 a b).next muLX1_1 i Pr) := by
  match i with
  | .c0 j =>
    have hj : j < 1 := h.1
    have hX := h.2
    obtain rfl : j = 0 := by omega
    exact sat_leaf (⟨.c1 0, by kernel_rfl, (by show 200 - (1 + 0) < 200 - (0 + 0); omega), ⟨(show 0 < 1 by decide), hX⟩⟩)
  | .c1 j =>
    have hj : j < 1 := h.1
    have hX := h.2
    obtain rfl : j = 0 := by omega
    exact sat_ob (by decide) (
sat_ob (by simp only [V.beq_refl, Bool.and_true]) (
sat_ob trivial (
sat_leaf (⟨.c2 0, by kernel_rfl, (by show 200 - (2 + 0) < 200 - (1 + 0); omega), ⟨(show 0 < 69 by decide), hX⟩⟩))))
  | .c2 j =>
    have hj : j < 69 := h.1
    have hX := h.2
    exact sat_ob (by simp [binV, binI]; omega) (
sat_ob (by show some (V.int .i64 (wrapK .i64 ((2 + (j : Int)) + 1))) = _; rw [wrap_small (by omega), show ((2 + (j : Int)) + 1) = (3 + (j : Int)) by omega]) (
sat_ob (by simp [binV, binI]; omega) (
sat_ob (by simp [binV, binI]; omega) (
sat_ob (by show some (V.int .i64 (wrapK .i64 ((70 - (j : Int)) - 1))) = _; rw [wrap_small (by omega), show ((70 - (j : Int)) - 1) = (69 - (j : Int)) by omega]) (
sat_ob (by simp [binV, binI]; omega) (
sat_ob (by simp [binV, binI]; omega) (
sat_ob (by show some (V.int .i64 (wrapK .i64 ((2 + (j : Int)) + 1))) = _; rw [wrap_small (by omega), show ((2 + (j : Int)) + 1) = (3 + (j : Int)) by omega]) (
sat_leaf (if h2 : j + 1 < 69 then ⟨.c2 (j + 1), (by show SNLX1_1 a b (vi 1) (vi (3 + (j : Int))) (vi 1) (vi (69 - (j : Int))) (vi 0) (vi (3 + (j : Int))) = SNLX1_1 a b (vi 1) (vi (2 + ((j + 1 : Nat) : Int))) (vi 1) (vi (70 - ((j + 1 : Nat) : Int))) (vi 0) (vi (2 + ((j + 1 : Nat) : Int))); rw [show ((2 + ((j + 1 : Nat) : Int)) : Int) = (3 + (j : Int)) by omega, show ((70 - ((j + 1 : Nat) : Int)) : Int) = (69 - (j : Int)) by omega]), (by show 200 - (2 + (j + 1)) < 200 - (2 + j); omega), ⟨h2, hX⟩⟩ else by
    obtain rfl : j = 68 := by omega
    exact ⟨.c3 0, by kernel_rfl, (by show 200 - (71 + 0) < 200 - (2 + 68); omega), ⟨(show 0 < 1 by decide), hX⟩⟩)))))))))
  | .c3 j =>
    have hj : j < 1 := h.1
    have hX := h.2
    obtain rfl : j = 0 := by omega
    exact sat_ob (by decide) (
sat_ob (by simp only [V.beq_refl, Bool.and_true]) (
sat_ob trivial (
sat_leaf (⟨.c4 0, by kernel_rfl, (by show 200 - (72 + 0) < 200 - (71 + 0); omega), ⟨(show 0 < 69 by decide), hX⟩⟩))))
  | .c4 j =>
    have hj : j < 69 := h.1
    have hX := h.2
    exact sat_ob (by simp [binV, binI]; omega) (
sat_ob (by show some (V.int .i64 (wrapK .i64 ((72 + (j : Int)) + 1))) = _; rw [wrap_small (by omega), show ((72 + (j : Int)) + 1) = (73 + (j : Int)) by omega]) (
sat_ob (by simp [binV, binI]; omega) (
sat_ob (by simp [binV, binI]; omega) (
sat_ob (by show some (V.int .i64 (wrapK .i64 ((70 - (j : Int)) - 1))) = _; rw [wrap_small (by omega), show ((70 - (j : Int)) - 1) = (69 - (j : Int)) by omega]) (
sat_ob (by simp [binV, binI]; omega) (
sat_ob (by simp [binV, binI]; omega) (
sat_ob (by show some (V.int .i64 (wrapK .i64 ((72 + (j : Int)) + 1))) = _; rw [wrap_small (by omega), show ((72 + (j : Int)) + 1) = (73 + (j : Int)) by omega]) (
sat_leaf (if h2 : j + 1 < 69 then ⟨.c4 (j + 1), (by show SNLX1_1 a b (vi 2) (vi (73 + (j : Int))) (vi 2) (vi (69 - (j : Int))) (vi 0) (vi (73 + (j : Int))) = SNLX1_1 a b (vi 2) (vi (72 + ((j + 1 : Nat) : Int))) (vi 2) (vi (70 - ((j + 1 : Nat) : Int))) (vi 0) (vi (72 + ((j + 1 : Nat) : Int))); rw [show ((70 - ((j + 1 : Nat) : Int)) : Int) = (69 - (j : Int)) by omega, show ((72 + ((j + 1 : Nat) : Int)) : Int) = (73 + (j : Int)) by omega]), (by show 200 - (72 + (j + 1)) < 200 - (72 + j); omega), ⟨h2, hX⟩⟩ else by
    obtain rfl : j = 68 := by omega
    exact ⟨.c5 0, by kernel_rfl, (by show 200 - (141 + 0) < 200 - (72 + 68); omega), ⟨(show 0 < 1 by decide), hX⟩⟩)))))))))
  | .c5 j =>
    have hj : j < 1 := h.1
    have hX := h.2
    obtain rfl : j = 0 := by omega
    exact sat_ob (by decide) (
sat_ob (by simp only [V.beq_refl, Bool.and_true]) (
sat_ob trivial (
sat_leaf (⟨.c6 0, by kernel_rfl, (by show 200 - (142 + 0) < 200 - (141 + 0); omega), ⟨(show 0 < 57 by decide), hX⟩⟩))))
  | .c6 j =>
    have hj : j < 57 := h.1
    have hX := h.2
    exact sat_ob (by simp [binV, binI]; omega) (
sat_ob (by show some (V.int .i64 (wrapK .i64 ((142 + (j : Int)) + 1))) = _; rw [wrap_small (by omega), show ((142 + (j : Int)) + 1) = (143 + (j : Int)) by omega]) (
sat_ob (by simp [binV, binI]; omega) (
sat_ob (by simp [binV, binI]; omega) (
sat_ob (by show some (V.int .i64 (wrapK .i64 ((70 - (j : Int)) - 1))) = _; rw [wrap_small (by omega), show ((70 - (j : Int)) - 1) = (69 - (j : Int)) by omega]) (
sat_ob (by simp [binV, binI]; omega) (
sat_ob (by simp [binV, binI]; omega) (
sat_ob (by show some (V.int .i64 (wrapK .i64 ((142 + (j : Int)) + 1))) = _; rw [wrap_small (by omega), show ((142 + (j : Int)) + 1) = (143 + (j : Int)) by omega]) (
sat_leaf (if h2 : j + 1 < 57 then ⟨.c6 (j + 1), (by show SNLX1_1 a b (vi 3) (vi (143 + (j : Int))) (vi 3) (vi (69 - (j : Int))) (vi 0) (vi (143 + (j : Int))) = SNLX1_1 a b (vi 3) (vi (142 + ((j + 1 : Nat) : Int))) (vi 3) (vi (70 - ((j + 1 : Nat) : Int))) (vi 0) (vi (142 + ((j + 1 : Nat) : Int))); rw [show ((142 + ((j + 1 : Nat) : Int)) : Int) = (143 + (j : Int)) by omega, show ((70 - ((j + 1 : Nat) : Int)) : Int) = (69 - (j : Int)) by omega]), (by show 200 - (142 + (j + 1)) < 200 - (142 + j); omega), ⟨h2, hX⟩⟩ else by
    obtain rfl : j = 56 := by omega
    exact ⟨.c7 0, by kernel_rfl, (by show 200 - (199 + 0) < 200 - (142 + 56); omega), ⟨(show 0 < 1 by decide), hX⟩⟩)))))))))
  | .c7 j =>
    have hj : j < 1 := h.1
    have hX := h.2
    obtain rfl : j = 0 := by omega
    exact sat_leaf (hX)
theorem ltLX1_1_ok (a : Gw.Offer) (b : Gw.Offer) (hwa : loL (fineO a).wait = 1) (hwb : loL (fineO b).wait = 1) (hint : Nat → List Nat) : Lt1 Tryz.prog hint 3 (loopLX1_1 a b).lt lpLX1_1 :=
  LoopD.lt1c mixed (show TabX Tryz.prog noPX oxM from tabM) tabD (loopLX1_1 a b) muLX1_1 (fun ex => match ex with | .normal => ⟨show 3 ≤ 358 by decide, show 3 ≤ 358 by decide⟩ | .exit _ => ⟨show 3 ≤ 358 by decide, show 3 ≤ 358 by decide⟩ | .ret => ⟨show 3 ≤ 358 by decide, show 3 ≤ 358 by decide⟩) (orcs := orcsLX1_1 a b) (sts := stsLX1_1) (orc := orcLX1_1 a b) (st := stLX1_1) (tree := treeLX1_1L a b)
    (fun i => match i with
    | .c0 j => treeLX1_1_0_eq a b j
    | .c1 j => treeLX1_1_1_eq a b j
    | .c2 j => treeLX1_1_2_eq a b j
    | .c3 j => treeLX1_1_3_eq a b j
    | .c4 j => treeLX1_1_4_eq a b j
    | .c5 j => treeLX1_1_5_eq a b j
    | .c6 j => treeLX1_1_6_eq a b j
    | .c7 j => treeLX1_1_7_eq a b j) (roundLX1_1 a b hwa hwb)
def oxLX1_1 (a : Gw.Offer) (b : Gw.Offer) : OTab := (consT 46 (gD dGet pGet (fun n => match n with | 138 => some (.tup [.agg [.int .u32 1, .int .u32 2, vi 0, vi 1, vi (fineO a).baud, vi 7, vi (fineO a).win, vi (fineO a).size, vi (fineO a).wait], .bool true]) | 298 => some (.tup [.agg [.int .u32 2, .int .u32 1, vi 0, vi 1, vi (fineO b).baud, vi 7, vi (fineO b).win, vi (fineO b).size, vi (fineO b).wait], .bool true]) | _ => none)) (consT 70 (gD dPut pPut noV) (consT 47 (gDT kT0 kT1 kT2 dDeal pDeal (fun n => match n with | 151 => some (.tup [.agg (dvD b a 1), .bool true]) | 311 => some (.tup [.agg (dvD a b 1), .bool true]) | _ => none)) (consT 43 (gD dOff pMayQ (fun n => match n with | 12 => some (.bool true) | 20 => some (.bool true) | _ => none)) (consT 10 (gD dOff pFine noV) (consO 9 (gTrue kT0 kT1 kT2) noOX))))))
def treeLX1_1 (a : Gw.Offer) (b : Gw.Offer) : DT V :=
  .ob (dOff [.agg a.vs]) (
.ob (((V.beq (.agg b.vs) (.agg b.vs)) && true) = true) (
.ob (dOff [.agg b.vs]) (
.ob (dOff [.agg (disO a).vs]) (
.ob (pMayQ [.agg (disO a).vs] = (.bool true)) (
.ob (((V.beq (.agg (disO b).vs) (.agg (disO b).vs)) && true) = true) (
.ob (dOff [.agg (disO b).vs]) (
.ob (pMayQ [.agg (disO b).vs] = (.bool true)) (
.ob (True) (
.ob (IntKind.i64 = IntKind.i64 ∧ (250 : Int) ≠ 0) (
.ob (((V.beq (.int .u32 2) (.int .u32 2)) && true) = true) (
.ob (((V.beq (.int .u32 2) (.int .u32 2)) && true) = true) (
.ob (dPut [.agg [.int .u32 1, .int .u32 2, vi 0, vi 1, vi (fineO a).baud, vi 7, vi (fineO a).win, vi (fineO a).size, vi (fineO a).wait]]) (
.ob (9 = 9 ∧ 0 ≤ (0 : Int) ∧ (0 : Int) < ((1 : Nat) : Int)) (
.ob (Gw.lenStr (.str (setupStr ⟨1, 2, 0, 1, (disO a)⟩)) = some (vi 25)) (
.ob (Gw.lenStr (.str (setupStr ⟨1, 2, 0, 1, (disO a)⟩)) = some (vi 25)) (
.ob (((V.beq (.str (setupStr ⟨1, 2, 0, 1, (disO a)⟩)) (.str (setupStr ⟨1, 2, 0, 1, (disO a)⟩))) && ((V.beq (.bool true) (.bool true)) && ((V.beq (.agg [vi 127, vi 255]) (.agg [vi 127, vi 255])) && true))) = true) (
.ob (((V.beq (vi 2) (vi 2)) && true) = true) (
.ob (((V.beq (.agg [vi 127, vi 255, .bool true, vi 3, vi 2, vi 0, vi 0, .bool true, .str (setupStr ⟨1, 2, 0, 1, (disO a)⟩)]) (.agg [vi 127, vi 255, .bool true, vi 3, vi 2, vi 0, vi 0, .bool true, .str (setupStr ⟨1, 2, 0, 1, (disO a)⟩)])) && true) = true) (
.ob (((eqV (.agg [.i, .i, .b, .i, .i, .i, .i, .b, .s]) (.agg [vi 127, vi 255, .bool true, vi 3, vi 2, vi 0, vi 0, .bool true, .str (setupStr ⟨1, 2, 0, 1, (disO a)⟩)]) (.agg [vi 127, vi 255, .bool true, vi 3, vi 2, vi 0, vi 0, .bool true, .str (setupStr ⟨1, 2, 0, 1, (disO a)⟩)])).map fun b => V.bool (if true then !b else b)) = some (.bool false)) (
.ob (((V.beq (.agg [vi 127, vi 255]) (.agg [vi 127, vi 255])) && true) = true) (
.ob (True) (
.ob (dGet [.str (setupStr ⟨1, 2, 0, 1, (disO a)⟩)]) (
.ob (pGet [.str (setupStr ⟨1, 2, 0, 1, (disO a)⟩)] = (.tup [.agg [.int .u32 1, .int .u32 2, vi 0, vi 1, vi (fineO a).baud, vi 7, vi (fineO a).win, vi (fineO a).size, vi (fineO a).wait], .bool true])) (
.ob (dDeal [.agg (disO b).vs, .agg (disO a).vs]) (
.ob (pDeal [.agg (disO b).vs, .agg (disO a).vs] = (.tup [.agg (dvD b a 1), .bool true])) (
.ob (((V.beq (vi (dealL (disO b) (disO a)).size) (vi (dealL (disO b) (disO a)).size)) && true) = true) (
.ob (((V.beq (vi (dealL (disO b) (disO a)).size) (vi (dealL (disO b) (disO a)).size)) && true) = true) (
.ob (((V.beq (.agg (dvD b a 1)) (.agg (dvD b a 1))) && ((V.beq (.agg [vi 0, vi 1]) (.agg [vi 0, vi 1])) && true)) = true) (
.ob (((V.beq (.agg (dvD b a 1)) (.agg (dvD b a 1))) && ((V.beq (.agg [vi 0, vi 1]) (.agg [vi 0, vi 1])) && true)) = true) (
.ob (((V.beq (.agg (dvD b a 1)) (.agg (dvD b a 1))) && ((V.beq (.agg [vi 0, vi 1]) (.agg [vi 0, vi 1])) && true)) = true) (
.ob (((V.beq (.agg (dvD b a 1)) (.agg (dvD b a 1))) && true) = true) (
.ob (((V.beq (vi 1) (vi 1)) && true) = true) (
.ob (((V.beq (vi 1) (vi 1)) && true) = true) (
.ob (((V.beq (vi 1) (vi 1)) && true) = true) (
.ob (dPut [.agg [.int .u32 2, .int .u32 1, vi 0, vi 1, vi (fineO b).baud, vi 7, vi (fineO b).win, vi (fineO b).size, vi (fineO b).wait]]) (
.ob (9 = 9 ∧ 0 ≤ (0 : Int) ∧ (0 : Int) < ((1 : Nat) : Int)) (
.ob (Gw.lenStr (.str (setupStr ⟨2, 1, 0, 1, (disO b)⟩)) = some (vi 25)) (
.ob (Gw.lenStr (.str (setupStr ⟨2, 1, 0, 1, (disO b)⟩)) = some (vi 25)) (
.ob (((V.beq (.str (setupStr ⟨2, 1, 0, 1, (disO b)⟩)) (.str (setupStr ⟨2, 1, 0, 1, (disO b)⟩))) && ((V.beq (.bool false) (.bool false)) && ((V.beq (.agg [vi 127, vi 255]) (.agg [vi 127, vi 255])) && true))) = true) (
.ob (((V.beq (vi 3) (vi 3)) && true) = true) (
.ob (((V.beq (.agg [vi 127, vi 255, .bool false, vi 3, vi 3, vi 0, vi 0, .bool true, .str (setupStr ⟨2, 1, 0, 1, (disO b)⟩)]) (.agg [vi 127, vi 255, .bool false, vi 3, vi 3, vi 0, vi 0, .bool true, .str (setupStr ⟨2, 1, 0, 1, (disO b)⟩)])) && true) = true) (
.ob (((eqV (.agg [.i, .i, .b, .i, .i, .i, .i, .b, .s]) (.agg [vi 127, vi 255, .bool false, vi 3, vi 3, vi 0, vi 0, .bool true, .str (setupStr ⟨2, 1, 0, 1, (disO b)⟩)]) (.agg [vi 127, vi 255, .bool false, vi 3, vi 3, vi 0, vi 0, .bool true, .str (setupStr ⟨2, 1, 0, 1, (disO b)⟩)])).map fun b => V.bool (if true then !b else b)) = some (.bool false)) (
.ob (((V.beq (.agg [vi 127, vi 255]) (.agg [vi 127, vi 255])) && true) = true) (
.ob (True) (
.ob (dGet [.str (setupStr ⟨2, 1, 0, 1, (disO b)⟩)]) (
.ob (pGet [.str (setupStr ⟨2, 1, 0, 1, (disO b)⟩)] = (.tup [.agg [.int .u32 2, .int .u32 1, vi 0, vi 1, vi (fineO b).baud, vi 7, vi (fineO b).win, vi (fineO b).size, vi (fineO b).wait], .bool true])) (
.ob (dDeal [.agg (disO a).vs, .agg (disO b).vs]) (
.ob (pDeal [.agg (disO a).vs, .agg (disO b).vs] = (.tup [.agg (dvD a b 1), .bool true])) (
.ob (True) (
.ob (((V.beq (vi (dealL (disO a) (disO b)).size) (vi (dealL (disO a) (disO b)).size)) && true) = true) (
.ob (((V.beq (vi (dealL (disO a) (disO b)).size) (vi (dealL (disO a) (disO b)).size)) && true) = true) (
.ob (((V.beq (.agg (dvD a b 1)) (.agg (dvD a b 1))) && ((V.beq (.agg [vi 0, vi 1]) (.agg [vi 0, vi 1])) && true)) = true) (
.ob (((V.beq (.agg (dvD a b 1)) (.agg (dvD a b 1))) && ((V.beq (.agg [vi 0, vi 1]) (.agg [vi 0, vi 1])) && true)) = true) (
.ob (((V.beq (.agg (dvD a b 1)) (.agg (dvD a b 1))) && ((V.beq (.agg [vi 0, vi 1]) (.agg [vi 0, vi 1])) && true)) = true) (
.ob (((V.beq (.agg (dvD a b 1)) (.agg (dvD a b 1))) && true) = true) (
.ob (((V.beq (vi 1) (vi 1)) && true) = true) (
.ob (((V.beq (vi 1) (vi 1)) && true) = true) (
.ob (((V.beq (vi 1) (vi 1)) && true) = true) (
.ob (True) (
.ob ((SNLX1_1 a b (vi 0) (vi 0) (vi 0) (vi 0) (vi 1) (vi 0) : Snap) = (loopLX1_1 a b).S (.c0 0)) (
.ob (invLX1_1 (.c0 0)) (
.ob (4 = 4 ∧ 0 ≤ (0 : Int) ∧ (0 : Int) < ((1 : Nat) : Int)) (
.leaf (.bool true))))))))))))))))))))))))))))))))))))))))))))))))))))))))))))))))
set_option maxRecDepth 1000000 in
theorem treeLX1_1_eq (a : Gw.Offer) (b : Gw.Offer) : funT (mkXT (noPX) (oxLX1_1 a b)) (mkXP (noPX)) (mkX (noPX) (oxLX1_1 a b)) D (fun g => match g with | 76 => (fun k => match k with | 38 => some fun t h => (match h.n with | 93 => (vi 25, h) | 112 => (vi 25, h) | 253 => (vi 25, h) | _ => (vi 25, h)) | _ => none) | 44 => (fun k => match k with | 52 => some fun t h => (match h.n with | 128 => (.bool false, h) | _ => (.bool false, h)) | _ => none) | _ => noOrc) (fun k => match k with | 4 => [16, 37, 91, 95, 102, 107] | 11 => [31, 41, 49, 60, 69, 72, 76] | 12 => [10, 15, 20, 25, 30, 31, 37, 41, 50, 57, 81, 90] | 16 => [15, 22, 31, 52, 58] | 21 => [8, 11, 15, 19, 23] | 22 => [16, 25, 30, 36, 39, 44, 47, 57, 67, 82, 86, 99] | 31 => [10, 33, 34, 40, 44, 49, 52, 66, 71] | 35 => [8, 25, 32] | 37 => [28, 30] | 44 => [8, 15, 26, 37, 41, 46, 52] | 48 => [14, 20, 28] | 49 => [13] | 71 => [10] | 76 => [11, 16, 20, 25, 30, 34, 39] | 77 => [8, 14, 19, 24, 34, 44] | 104 => [6, 9, 20] | 129 => [8, 19, 30, 34, 38] | 130 => [8, 13, 18, 21] | _ => []) 12 noOrc [16, 37, 91, 95, 102, 107] (ltLX1_1 a b) (dOf 4) [.agg a.vs, .agg b.vs] (tabH kT0 kT1 kT2 3) (fun v _ => v) = treeLX1_1 a b := by kernel_rfl
theorem satLX1_1 (a : Gw.Offer) (b : Gw.Offer) (hwa : loL (fineO a).wait = 1) (hwb : loL (fineO b).wait = 1) : (treeLX1_1 a b).sat fun v => v = .bool true :=
 sat_ob trivial (
sat_ob (by simp only [V.beq_refl, Bool.and_true]) (
sat_ob trivial (
sat_ob trivial (
sat_ob (pMay_dis a) (
sat_ob (by simp only [V.beq_refl, Bool.and_true]) (
sat_ob trivial (
sat_ob (pMay_dis b) (
sat_ob trivial (
sat_ob (by decide) (
sat_ob (by simp only [V.beq_refl, Bool.and_true]) (
sat_ob (by simp only [V.beq_refl, Bool.and_true]) (
sat_ob (okSetD 1 2 0 1 a (by decide) (by decide) (by decide) (by decide)) (
sat_ob (by decide) (
sat_ob rfl (
sat_ob rfl (
sat_ob (by simp only [V.beq_refl, Bool.and_true]) (
sat_ob (by simp only [V.beq_refl, Bool.and_true]) (
sat_ob (by simp only [V.beq_refl, Bool.and_true]) (
sat_ob (by simp [eqV, eqCells]) (
sat_ob (by simp only [V.beq_refl, Bool.and_true]) (
sat_ob trivial (
sat_ob ⟨⟨1, 2, 0, 1, (disO a)⟩, (okSetD 1 2 0 1 a (by decide) (by decide) (by decide) (by decide)), rfl⟩ (
sat_ob (get_put ⟨1, 2, 0, 1, (disO a)⟩ (okSetD 1 2 0 1 a (by decide) (by decide) (by decide) (by decide))) (
sat_ob ⟨(mayO_dis b), (mayO_dis a)⟩ (
sat_ob (by show V.tup [.agg [vi _, vi _, vi _, vi _, vi (loL (fineO a).wait)], .bool true] = _; rw [hwa]; rfl) (
sat_ob (by simp only [V.beq_refl, Bool.and_true]) (
sat_ob (by simp only [V.beq_refl, Bool.and_true]) (
sat_ob (by simp only [V.beq_refl, Bool.and_true]) (
sat_ob (by simp only [V.beq_refl, Bool.and_true]) (
sat_ob (by simp only [V.beq_refl, Bool.and_true]) (
sat_ob (by simp only [V.beq_refl, Bool.and_true]) (
sat_ob (by simp only [V.beq_refl, Bool.and_true]) (
sat_ob (by simp only [V.beq_refl, Bool.and_true]) (
sat_ob (by simp only [V.beq_refl, Bool.and_true]) (
sat_ob (okSetD 2 1 0 1 b (by decide) (by decide) (by decide) (by decide)) (
sat_ob (by decide) (
sat_ob rfl (
sat_ob rfl (
sat_ob (by simp only [V.beq_refl, Bool.and_true]) (
sat_ob (by simp only [V.beq_refl, Bool.and_true]) (
sat_ob (by simp only [V.beq_refl, Bool.and_true]) (
sat_ob (by simp [eqV, eqCells]) (
sat_ob (by simp only [V.beq_refl, Bool.and_true]) (
sat_ob trivial (
sat_ob ⟨⟨2, 1, 0, 1, (disO b)⟩, (okSetD 2 1 0 1 b (by decide) (by decide) (by decide) (by decide)), rfl⟩ (
sat_ob (get_put ⟨2, 1, 0, 1, (disO b)⟩ (okSetD 2 1 0 1 b (by decide) (by decide) (by decide) (by decide))) (
sat_ob ⟨(mayO_dis a), (mayO_dis b)⟩ (
sat_ob (by show V.tup [.agg [vi _, vi _, vi _, vi _, vi (loL (fineO b).wait)], .bool true] = _; rw [hwb]; rfl) (
sat_ob trivial (
sat_ob (by simp only [V.beq_refl, Bool.and_true]) (
sat_ob (by simp only [V.beq_refl, Bool.and_true]) (
sat_ob (by simp only [V.beq_refl, Bool.and_true]) (
sat_ob (by simp only [V.beq_refl, Bool.and_true]) (
sat_ob (by simp only [V.beq_refl, Bool.and_true]) (
sat_ob (by simp only [V.beq_refl, Bool.and_true]) (
sat_ob (by simp only [V.beq_refl, Bool.and_true]) (
sat_ob (by simp only [V.beq_refl, Bool.and_true]) (
sat_ob (by simp only [V.beq_refl, Bool.and_true]) (
sat_ob trivial (
sat_ob (by kernel_rfl) (
sat_ob (show 0 < 1 by decide) (
sat_ob (by decide) (
sat_leaf (rfl))))))))))))))))))))))))))))))))))))))))))))))))))))))))))))))))
def lpLX1_1_1 : DC := (((loopsIn 0 (dOf 4).body)[1]?).getD (0, .skip)).2
theorem loopsLX1_1 : loopsIn 0 (dOf 4).body = [(0, lpLX1_1), (2, lpLX1_1_1)] := by kernel_rfl
set_option maxRecDepth 1000000 in
theorem runLX1_1 (a : Gw.Offer) (b : Gw.Offer) (hwa : loL (fineO a).wait = 1) (hwb : loL (fineO b).wait = 1) : Run Tryz.prog 4 [.agg a.vs, .agg b.vs] (tabH kT0 kT1 kT2 3) fun v _ => v = .bool true := by
  refine run_loops mixed (show TabX Tryz.prog noPX (oxLX1_1 a b) from ((((((TabX.nil.addO ans_begun).addT (ans_fine noV)).addT (ans_may (fun n => match n with | 12 => some (.bool true) | 20 => some (.bool true) | _ => none))).addT (ans_deal (fun n => match n with | 151 => some (.tup [.agg (dvD b a 1), .bool true]) | 311 => some (.tup [.agg (dvD a b 1), .bool true]) | _ => none))).addT (ans_put noV)).addT (ans_get (fun n => match n with | 138 => some (.tup [.agg [.int .u32 1, .int .u32 2, vi 0, vi 1, vi (fineO a).baud, vi 7, vi (fineO a).win, vi (fineO a).size, vi (fineO a).wait], .bool true]) | 298 => some (.tup [.agg [.int .u32 2, .int .u32 1, vi 0, vi 1, vi (fineO b).baud, vi 7, vi (fineO b).win, vi (fineO b).size, vi (fineO b).wait], .bool true]) | _ => none)))) tabD (dIs (by kernel_rfl)) (lt := ltLX1_1 a b) (fun hint p hp => ?_) (treeLX1_1_eq a b) (satLX1_1 a b hwa hwb)
  rw [loopsLX1_1] at hp
  simp only [List.mem_cons, List.not_mem_nil, or_false] at hp
  rcases hp with rfl | rfl
  · exact ltLX1_1_ok a b hwa hwb hint
  · exact lt1_no
inductive ILX1_2
  | c0 (j : Nat)
  | c1 (j : Nat)
  | c2 (j : Nat)
  | c3 (j : Nat)
  | c4 (j : Nat)
  | c5 (j : Nat)
  | c6 (j : Nat)
  | c7 (j : Nat)
  | c8 (j : Nat)
def RWLX1_2 (a : Gw.Offer) (b : Gw.Offer) (w0 : V) (w1 : V) (w2 : V) (w3 : V) (w4 : V) (w5 : V) : List (Option Blk) := [some (.cells true (zsV .u8 kT0)), some (.cells true (zsV .u8 kT1)), some (.cells true (zsV .u8 kT2)), cF (disO a).vs, cF (disO b).vs, none, cF (disO a).vs, cF (disO b).vs, none, none, cF (disO a).vs, none, none, none, none, none, cF [.int .u32 1, vi 0, vi (fineO a).baud, vi 7, vi (fineO a).win, vi (fineO a).size, vi (fineO a).wait, vi 2, .int .u32 2, vi 0, vi 1, vi (dealL (disO a) (disO b)).baud, vi 200, vi (dealL (disO a) (disO b)).win, vi (dealL (disO a) (disO b)).size, vi 2, .ptr 330 0, vi 1, vi 0, vi 0, w2, w3, w4, w5, .bool true, .bool false, .bool false, .nils], none, cF (disO b).vs, none, none, none, none, none, cF [.int .u32 2, vi 1, vi (fineO b).baud, vi 7, vi (fineO b).win, vi (fineO b).size, vi (fineO b).wait, vi 2, .int .u32 1, vi 0, vi 1, vi (dealL (disO b) (disO a)).baud, vi 200, vi (dealL (disO b) (disO a)).win, vi (dealL (disO b) (disO a)).size, vi 1, .ptr 170 0, vi 0, vi 0, vi 0, vi 0, vi 0, vi 0, vi 2, .bool false, .bool false, .bool false, .nils], none, some (.cells false [vi 2, vi 0, .int .u32 2, .str []]), none, some (.cells false [vi 2, vi 0, .int .u32 2, .str []]), none, none, none, none, some (.cells false [vi 2, vi 0, .int .u32 2, .str []]), none, cF [vi 0, vi 1], none, none, none, none, none, none, cF [vi 127, vi 255, .bool true, vi 3, vi 2, vi 0, vi 0, .bool true, .str (setupStr ⟨1, 2, 0, 1, (disO a)⟩)], none, none, cF [vi 0, vi 1], cF [vi 127, vi 255, .bool true, vi 3, vi 2, vi 0, vi 0, .bool true, .str (setupStr ⟨1, 2, 0, 1, (disO a)⟩)], cF [vi 127, vi 255], cF [vi 127, vi 255], cF [vi 127, vi 255, .bool true, vi 3, vi 2, vi 0, vi 0, .bool true, .str (setupStr ⟨1, 2, 0, 1, (disO a)⟩)], none, none, cF [vi 127, vi 255, .bool true, vi 3, vi 2, vi 0, vi 0, .bool true, .str (setupStr ⟨1, 2, 0, 1, (disO a)⟩)], none, cF [vi 127, vi 255, .bool true, vi 3, vi 2, vi 0, vi 0, .bool true, .str (setupStr ⟨1, 2, 0, 1, (disO a)⟩)], none, none, none, none, none, none, some (.cells false [vi 127, vi 255, .bool true, .iface 117 (.agg [vi 2, .bool true]), .str (setupStr ⟨1, 2, 0, 1, (disO a)⟩)]), none, none, cF [vi 127, vi 255, .bool true, vi 3, vi 2, vi 0, vi 0, .bool true, .str (setupStr ⟨1, 2, 0, 1, (disO a)⟩)], some (.cells false [vi 127, vi 255, .bool true, .iface 117 (.agg [vi 2, .bool true]), .str (setupStr ⟨1, 2, 0, 1, (disO a)⟩)]), none, none, none, none, none, none, none, none, some (.cells false [vi 127, vi 255, .bool true, .iface 117 (.agg [vi 2, .bool true]), .str (setupStr ⟨1, 2, 0, 1, (disO a)⟩)]), none, some (.cells false [vi 127, vi 255, .bool true, .iface 117 (.agg [vi 2, .bool true]), .str (setupStr ⟨1, 2, 0, 1, (disO a)⟩)]), none, none, none, none, none, none, none, cF [vi 0, vi 0, .bool false], none, none, none, none, cF [vi 127, vi 255], none, cF [vi 2, .bool true], none, some (.cells false [vi 127, vi 255, .bool true, .iface 117 (.agg [vi 2, .bool true]), .str (setupStr ⟨1, 2, 0, 1, (disO a)⟩)]), cF [vi 127, vi 255, .bool true, vi 3, vi 2, vi 0, vi 0, .bool true, .str (setupStr ⟨1, 2, 0, 1, (disO a)⟩)], some (.cells false [vi 127, vi 255, .bool true, .iface 117 (.agg [vi 2, .bool true]), .str (setupStr ⟨1, 2, 0, 1, (disO a)⟩)]), none, none, none, none, none, none, none, cF [vi 0, vi 0, .bool false], none, none, none, none, cF [vi 127, vi 255], none, cF [vi 2, .bool true], none, none, none, none, none, none, none, none, none, none, none, cF [vi 127, vi 255, .bool true, vi 3, vi 2, vi 0, vi 0, .bool true, .str (setupStr ⟨1, 2, 0, 1, (disO a)⟩)], none, cF [vi 2, .bool true], none, cF [vi 2, .bool true], none, cF [vi 127, vi 255], none, none, none, none, none, none, cF [.int .u32 1, .int .u32 2, vi 0, vi 1, vi (fineO a).baud, vi 7, vi (fineO a).win, vi (fineO a).size, vi (fineO a).wait], none, none, none, none, none, none, none, none, none, none, none, none, cF (dvD b a 1), none, none, cF [.int .u32 1, .int .u32 2, vi 0, vi 1, vi (fineO a).baud, vi 7, vi (fineO a).win, vi (fineO a).size, vi (fineO a).wait], cF (dvD b a 1), none, cF [vi 0, vi 1], cF (dvD b a 1), none, cF (dvD b a 1), none, none, none, none, none, none, none, none, none, none, none, none, cF [vi 2, vi (if (64 : Int) < (dealL (disO b) (disO a)).size then 64 else (dealL (disO b) (disO a)).size), .ptr 176 0, .ptr 179 0, .bool false], none, none, none, none, none, cF [vi (if (7 : Int) < (if (1 : Int) > (dealL (disO b) (disO a)).win then 1 else (dealL (disO b) (disO a)).win) then 7 else (if (1 : Int) > (dealL (disO b) (disO a)).win then 1 else (dealL (disO b) (disO a)).win)), .nils, vi 0, vi 0], none, none, cF [vi 0, .bool false], none, none, none, none, none, none, none, some (.cells false [vi 2, .int .u32 1, .str [], .nils]), none, cF [vi 0, vi 1], cF [vi 127, vi 255, .bool false, vi 3, vi 3, vi 0, vi 0, .bool true, .str (setupStr ⟨2, 1, 0, 1, (disO b)⟩)], cF [vi 127, vi 255], cF [vi 127, vi 255], cF [vi 127, vi 255, .bool false, vi 3, vi 3, vi 0, vi 0, .bool true, .str (setupStr ⟨2, 1, 0, 1, (disO b)⟩)], cF [vi 127, vi 255, .bool false, vi 3, vi 3, vi 0, vi 0, .bool true, .str (setupStr ⟨2, 1, 0, 1, (disO b)⟩)], none, none, none, cF [vi 127, vi 255, .bool false, vi 3, vi 3, vi 0, vi 0, .bool true, .str (setupStr ⟨2, 1, 0, 1, (disO b)⟩)], none, none, none, none, none, none, none, none, none, none, none, none, none, cF [vi 127, vi 255, .bool false, vi 3, vi 3, vi 0, vi 0, .bool true, .str (setupStr ⟨2, 1, 0, 1, (disO b)⟩)], none, cF [vi 127, vi 255, .bool false, vi 3, vi 3, vi 0, vi 0, .bool true, .str (setupStr ⟨2, 1, 0, 1, (disO b)⟩)], none, none, none, none, none, none, some (.cells false [vi 127, vi 255, .bool false, .iface 117 (.agg [vi 3, .bool true]), .str (setupStr ⟨2, 1, 0, 1, (disO b)⟩)]), none, none, cF [vi 127, vi 255, .bool false, vi 3, vi 3, vi 0, vi 0, .bool true, .str (setupStr ⟨2, 1, 0, 1, (disO b)⟩)], some (.cells false [vi 127, vi 255, .bool false, .iface 117 (.agg [vi 3, .bool true]), .str (setupStr ⟨2, 1, 0, 1, (disO b)⟩)]), none, none, none, none, none, none, none, none, some (.cells false [vi 127, vi 255, .bool false, .iface 117 (.agg [vi 3, .bool true]), .str (setupStr ⟨2, 1, 0, 1, (disO b)⟩)]), none, some (.cells false [vi 127, vi 255, .bool false, .iface 117 (.agg [vi 3, .bool true]), .str (setupStr ⟨2, 1, 0, 1, (disO b)⟩)]), none, none, none, none, none, none, none, cF [vi 0, vi 0, .bool false], none, none, none, none, cF [vi 127, vi 255], none, cF [vi 3, .bool true], none, some (.cells false [vi 127, vi 255, .bool false, .iface 117 (.agg [vi 3, .bool true]), .str (setupStr ⟨2, 1, 0, 1, (disO b)⟩)]), cF [vi 127, vi 255, .bool false, vi 3, vi 3, vi 0, vi 0, .bool true, .str (setupStr ⟨2, 1, 0, 1, (disO b)⟩)], some (.cells false [vi 127, vi 255, .bool false, .iface 117 (.agg [vi 3, .bool true]), .str (setupStr ⟨2, 1, 0, 1, (disO b)⟩)]), none, none, none, none, none, none, none, cF [vi 0, vi 0, .bool false], none, none, none, none, cF [vi 127, vi 255], none, cF [vi 3, .bool true], none, none, none, none, none, none, none, none, none, none, none, cF [vi 127, vi 255, .bool false, vi 3, vi 3, vi 0, vi 0, .bool true, .str (setupStr ⟨2, 1, 0, 1, (disO b)⟩)], none, cF [vi 3, .bool true], none, cF [vi 3, .bool true], none, cF [vi 127, vi 255], none, none, none, none, none, none, cF [.int .u32 2, .int .u32 1, vi 0, vi 1, vi (fineO b).baud, vi 7, vi (fineO b).win, vi (fineO b).size, vi (fineO b).wait], none, none, none, none, none, none, none, none, none, none, none, none, cF (dvD a b 2), none, none, cF [.int .u32 2, .int .u32 1, vi 0, vi 1, vi (fineO b).baud, vi 7, vi (fineO b).win, vi (fineO b).size, vi (fineO b).wait], cF (dvD a b 2), none, cF [vi 0, vi 1], cF (dvD a b 2), none, cF (dvD a b 2), none, none, none, none, none, none, none, none, none, none, none, none, cF [vi 1, vi (if (64 : Int) < (dealL (disO a) (disO b)).size then 64 else (dealL (disO a) (disO b)).size), .ptr 336 0, .ptr 339 0, .bool true], none, none, none, none, none, cF [vi (if (7 : Int) < (if (1 : Int) > (dealL (disO a) (disO b)).win then 1 else (dealL (disO a) (disO b)).win) then 7 else (if (1 : Int) > (dealL (disO a) (disO b)).win then 1 else (dealL (disO a) (disO b)).win)), .nils, vi 0, vi 0], none, none, cF [vi 0, .bool false], none, none, none, none, none, none, none, some (.cells false [vi 2, .int .u32 2, .str [], .nils]), none, some (.cells false [vi 4, vi 0, .int .u32 0, .str []]), none, some (.cells false [vi 4, vi 0, .int .u32 0, .str []]), none, none, none, none, some (.cells false [vi 4, vi 0, .int .u32 0, .str []]), none]
def SNLX1_2 (a : Gw.Offer) (b : Gw.Offer) (w0 : V) (w1 : V) (w2 : V) (w3 : V) (w4 : V) (w5 : V) : Snap := ([.agg a.vs, .agg b.vs, .ptr 3 0, .ptr 4 0, .bool true, .ptr 16 0, w0, w1, .bool true, .bool true, .bool false, .agg a.vs, .agg (fineO a).vs, .agg b.vs, .agg (fineO b).vs, .ptr 3 1, .ptr 4 1, .tup [.ptr 16 0, .ptr 24 0], .agg (disO a).vs, .agg (disO b).vs, .tup [.ptr 16 0, .ptr 24 0], .ptr 16 0, .ptr 24 0, .ptr 16 0, .bool false, .bool false, .ptr 16 0, .agg [vi 4, vi 0, .int .u32 0, .str []], vi 0, .bool false, .bool false], RWLX1_2 a b w0 w1 w2 w3 w4 w5)
def SSLX1_2 (a : Gw.Offer) (b : Gw.Offer) (i : ILX1_2) : Snap := match i with
  | .c0 j => SNLX1_2 a b (vi 0) (vi 0) (vi 0) (vi 0) (vi 2) (vi 0)
  | .c1 j => SNLX1_2 a b (vi 0) (vi 1) (vi 0) (vi 0) (vi 1) (vi 1)
  | .c2 j => SNLX1_2 a b (vi 0) (vi 2) (vi 0) (vi 0) (vi 0) (vi 2)
  | .c3 j => SNLX1_2 a b (vi 1) (vi (3 + (j : Int))) (vi 1) (vi (70 - (j : Int))) (vi 0) (vi (3 + (j : Int)))
  | .c4 j => SNLX1_2 a b (vi 1) (vi 72) (vi 1) (vi 1) (vi 0) (vi 72)
  | .c5 j => SNLX1_2 a b (vi 2) (vi (73 + (j : Int))) (vi 2) (vi (70 - (j : Int))) (vi 0) (vi (73 + (j : Int)))
  | .c6 j => SNLX1_2 a b (vi 2) (vi 142) (vi 2) (vi 1) (vi 0) (vi 142)
  | .c7 j => SNLX1_2 a b (vi 3) (vi (143 + (j : Int))) (vi 3) (vi (70 - (j : Int))) (vi 0) (vi (143 + (j : Int)))
  | .c8 j => SNLX1_2 a b (vi 3) (vi 199) (vi 3) (vi 14) (vi 0) (vi 199)
def XLX1_2 (a : Gw.Offer) (b : Gw.Offer) : Snap := ([.agg a.vs, .agg b.vs, .ptr 3 0, .ptr 4 0, .bool true, .ptr 16 0, vi 3, .bool true, .bool true, .bool false, .agg a.vs, .agg (fineO a).vs, .agg b.vs, .agg (fineO b).vs, .ptr 3 1, .ptr 4 1, .tup [.ptr 16 0, .ptr 24 0], .agg (disO a).vs, .agg (disO b).vs, .tup [.ptr 16 0, .ptr 24 0], .ptr 16 0, .ptr 24 0, .ptr 16 0, .bool false, .bool false, .ptr 16 0, .agg [vi 4, vi 0, .int .u32 0, .str []], vi 0, .bool false, .bool false], RWLX1_2 a b (vi 0) (vi 0) (vi 3) (vi 14) (vi 0) (vi 199))
def invLX1_2 (i : ILX1_2) : Prop := match i with
  | .c0 j => j < 1
  | .c1 j => j < 1
  | .c2 j => j < 1
  | .c3 j => j < 69
  | .c4 j => j < 1
  | .c5 j => j < 69
  | .c6 j => j < 1
  | .c7 j => j < 56
  | .c8 j => j < 1
def muLX1_2 (i : ILX1_2) : Nat := match i with
  | .c0 j => 200 - (0 + j)
  | .c1 j => 200 - (1 + j)
  | .c2 j => 200 - (2 + j)
  | .c3 j => 200 - (3 + j)
  | .c4 j => 200 - (72 + j)
  | .c5 j => 200 - (73 + j)
  | .c6 j => 200 - (142 + j)
  | .c7 j => 200 - (143 + j)
  | .c8 j => 200 - (199 + j)
def loopLX1_2 (a : Gw.Offer) (b : Gw.Offer) : LoopD ILX1_2 where
  nt := 109
  fr := fun ex => match ex with | .normal => ⟨[0, 1, 2, 3, 5, 6, 8, 9, 16, 17, 18, 19, 20, 21, 22, 23, 24, 25, 26, 27, 28, 29, 30, 31, 32, 33, 34, 35, 36, 37, 38], 358, []⟩ | .exit _ => ⟨[0, 1, 2, 3, 5, 6, 8, 16, 17, 18, 19, 20, 21, 22, 23, 24, 25, 26, 27, 28, 29, 30, 31, 32, 33, 34, 35, 36, 37, 38], 358, []⟩ | .ret => ⟨[], 358, []⟩
  S := SSLX1_2 a b
  out := fun i => .ob (invLX1_2 i) (.leaf ((.exit 0), XLX1_2 a b))
  pick := fun _ => .c0 0
def ltLX1_2 (a : Gw.Offer) (b : Gw.Offer) : Lt := fun k => match k with | 0 => (loopLX1_2 a b).lt | _ => fun _ _ => .fail
def lpLX1_2 : DC := (((loopsIn 0 (dOf 4).body)[0]?).getD (0, .skip)).2
def orcLX1_2 (a : Gw.Offer) (b : Gw.Offer) (i : ILX1_2) : Orc := match i with
  | .c0 j => noOrc
  | .c1 j => noOrc
  | .c2 j => noOrc
  | .c3 j => (fun k => match k with | 40 => some fun t h => (.bool true, h) | 42 => some fun t h => (vi (4 + (j : Int)), h) | _ => none)
  | .c4 j => noOrc
  | .c5 j => (fun k => match k with | 40 => some fun t h => (.bool true, h) | 42 => some fun t h => (vi (74 + (j : Int)), h) | _ => none)
  | .c6 j => noOrc
  | .c7 j => (fun k => match k with | 40 => some fun t h => (.bool true, h) | 42 => some fun t h => (vi (144 + (j : Int)), h) | _ => none)
  | .c8 j => noOrc
def orcsLX1_2 (a : Gw.Offer) (b : Gw.Offer) (i : ILX1_2) : Nat → Orc := match i with
  | .c0 j => (fun _ => noOrc)
  | .c1 j => (fun _ => noOrc)
  | .c2 j => (fun _ => noOrc)
  | .c3 j => (fun g => match g with | 35 => (fun k => match k with | 13 => some fun t h => (vi (4 + (j : Int)), h) | 25 => some fun t h => (.bool false, h) | 32 => some fun t h => (.bool false, h) | 37 => some fun t h => (vi (69 - (j : Int)), h) | 44 => some fun t h => (.bool true, h) | _ => none) | 16 => (fun k => match k with | 96 => some fun t h => (.bool false, h) | _ => none) | _ => noOrc)
  | .c4 j => (fun _ => noOrc)
  | .c5 j => (fun g => match g with | 35 => (fun k => match k with | 13 => some fun t h => (vi (74 + (j : Int)), h) | 25 => some fun t h => (.bool false, h) | 32 => some fun t h => (.bool false, h) | 37 => some fun t h => (vi (69 - (j : Int)), h) | 44 => some fun t h => (.bool true, h) | _ => none) | 16 => (fun k => match k with | 96 => some fun t h => (.bool false, h) | _ => none) | _ => noOrc)
  | .c6 j => (fun _ => noOrc)
  | .c7 j => (fun g => match g with | 35 => (fun k => match k with | 13 => some fun t h => (vi (144 + (j : Int)), h) | 25 => some fun t h => (.bool false, h) | 32 => some fun t h => (.bool false, h) | 37 => some fun t h => (vi (69 - (j : Int)), h) | 44 => some fun t h => (.bool true, h) | _ => none) | 16 => (fun k => match k with | 96 => some fun t h => (.bool false, h) | _ => none) | _ => noOrc)
  | .c8 j => (fun _ => noOrc)
def stsLX1_2 (i : ILX1_2) : Nat → List Nat := match i with
  | .c0 j => (fun k => match k with | 4 => [40, 51, 84] | 16 => [15, 22] | 35 => [8, 25, 32] | _ => [])
  | .c1 j => (fun k => match k with | 4 => [40, 51, 84] | 16 => [15, 22] | 35 => [8, 25, 32] | _ => [])
  | .c2 j => (fun k => match k with | 4 => [40, 51, 56, 60, 64, 69, 77, 84] | 16 => [15, 22, 31, 52, 74, 80, 86, 96] | 35 => [8, 25, 32] | 38 => [9] | 40 => [7] | 71 => [10] | _ => [])
  | .c3 j => (fun k => match k with | 4 => [40, 51, 84] | 16 => [15, 22, 31, 52, 74, 80, 86, 96] | 35 => [8, 25, 32, 44] | 38 => [9] | _ => [])
  | .c4 j => (fun k => match k with | 4 => [40, 51, 56, 60, 64, 69, 77, 84] | 16 => [15, 22, 31, 52, 74, 80, 86, 96] | 35 => [8, 25, 32, 44, 49, 55, 68, 73, 85] | 38 => [9] | 40 => [7] | 69 => [9] | 71 => [10] | _ => [])
  | .c5 j => (fun k => match k with | 4 => [40, 51, 84] | 16 => [15, 22, 31, 52, 74, 80, 86, 96] | 35 => [8, 25, 32, 44] | 38 => [9] | _ => [])
  | .c6 j => (fun k => match k with | 4 => [40, 51, 56, 60, 64, 69, 77, 84] | 16 => [15, 22, 31, 52, 74, 80, 86, 96] | 35 => [8, 25, 32, 44, 49, 55, 68, 73, 85] | 38 => [9] | 40 => [7] | 69 => [9] | 71 => [10] | _ => [])
  | .c7 j => (fun k => match k with | 4 => [40, 51, 84] | 16 => [15, 22, 31, 52, 74, 80, 86, 96] | 35 => [8, 25, 32, 44] | 38 => [9] | _ => [])
  | .c8 j => (fun k => match k with | 4 => [40] | _ => [])
def stLX1_2 (i : ILX1_2) : List Nat := match i with
  | .c0 j => [40, 51, 84]
  | .c1 j => [40, 51, 84]
  | .c2 j => [40, 51, 56, 60, 64, 69, 77, 84]
  | .c3 j => [40, 51, 84]
  | .c4 j => [40, 51, 56, 60, 64, 69, 77, 84]
  | .c5 j => [40, 51, 84]
  | .c6 j => [40, 51, 56, 60, 64, 69, 77, 84]
  | .c7 j => [40, 51, 84]
  | .c8 j => [40]
def treeLX1_2_0 (a : Gw.Offer) (b : Gw.Offer) (j : Nat) : DT (Ex × Snap) :=
  .leaf (.normal, SNLX1_2 a b (vi 0) (vi 1) (vi 0) (vi 0) (vi 1) (vi 1))
set_option maxRecDepth 1000000 in
theorem treeLX1_2_0_eq (a : Gw.Offer) (b : Gw.Offer) (j : Nat) : rnd (orcsLX1_2 a b (.c0 j)) (stsLX1_2 (.c0 j)) (orcLX1_2 a b (.c0 j)) (stLX1_2 (.c0 j)) noLt 0 lpLX1_2 ((loopLX1_2 a b).t0 (.c0 j)) [] ((loopLX1_2 a b).h0 (.c0 j)) (loopLX1_2 a b).end_ = treeLX1_2_0 a b j := by kernel_rfl
def treeLX1_2_1 (a : Gw.Offer) (b : Gw.Offer) (j : Nat) : DT (Ex × Snap) :=
  .leaf (.normal, SNLX1_2 a b (vi 0) (vi 2) (vi 0) (vi 0) (vi 0) (vi 2))
set_option maxRecDepth 1000000 in
theorem treeLX1_2_1_eq (a : Gw.Offer) (b : Gw.Offer) (j : Nat) : rnd (orcsLX1_2 a b (.c1 j)) (stsLX1_2 (.c1 j)) (orcLX1_2 a b (.c1 j)) (stLX1_2 (.c1 j)) noLt 0 lpLX1_2 ((loopLX1_2 a b).t0 (.c1 j)) [] ((loopLX1_2 a b).h0 (.c1 j)) (loopLX1_2 a b).end_ = treeLX1_2_1 a b j := by kernel_rfl
def treeLX1_2_2 (a : Gw.Offer) (b : Gw.Offer) (j : Nat) : DT (Ex × Snap) :=
  .ob (9 = 9 ∧ 0 ≤ (0 : Int) ∧ (0 : Int) < ((1 : Nat) : Int)) (
.ob (((V.beq (.agg [vi 0, vi 1]) (.agg [vi 0, vi 1])) && true) = true) (
.ob (True) (
.leaf (.normal, SNLX1_2 a b (vi 1) (vi 3) (vi 1) (vi 70) (vi 0) (vi 3)))))
set_option maxRecDepth 1000000 in
theorem treeLX1_2_2_eq (a : Gw.Offer) (b : Gw.Offer) (j : Nat) : rnd (orcsLX1_2 a b (.c2 j)) (stsLX1_2 (.c2 j)) (orcLX1_2 a b (.c2 j)) (stLX1_2 (.c2 j)) noLt 0 lpLX1_2 ((loopLX1_2 a b).t0 (.c2 j)) [] ((loopLX1_2 a b).h0 (.c2 j)) (loopLX1_2 a b).end_ = treeLX1_2_2 a b j := by kernel_rfl
def treeLX1_2_3 (a : Gw.Offer) (b : Gw.Offer) (j : Nat) : DT (Ex × Snap) :=
  .ob (binV .lss (vi (3 + (j : Int))) (vi 199) = some (.bool true)) (
.ob (binV .add (vi (3 + (j : Int))) (vi 1) = some (vi (4 + (j : Int)))) (
.ob (binV .geq (vi (4 + (j : Int))) (vi 200) = some (.bool false)) (
.ob (binV .eql (vi (70 - (j : Int))) (vi 0) = some (.bool false)) (
.ob (binV .sub (vi (70 - (j : Int))) (vi 1) = some (vi (69 - (j : Int)))) (
.ob (binV .gtr (vi (69 - (j : Int))) (vi 0) = some (.bool true)) (
.ob (binV .eql (vi (69 - (j : Int))) (vi 0) = some (.bool false)) (
.ob (binV .add (vi (3 + (j : Int))) (vi 1) = some (vi (4 + (j : Int)))) (
.leaf (.normal, SNLX1_2 a b (vi 1) (vi (4 + (j : Int))) (vi 1) (vi (69 - (j : Int))) (vi 0) (vi (4 + (j : Int))))))))))))
set_option maxRecDepth 1000000 in
theorem treeLX1_2_3_eq (a : Gw.Offer) (b : Gw.Offer) (j : Nat) : rnd (orcsLX1_2 a b (.c3 j)) (stsLX1_2 (.c3 j)) (orcLX1_2 a b (.c3 j)) (stLX1_2 (.c3 j)) noLt 0 lpLX1_2 ((loopLX1_2 a b).t0 (.c3 j)) [] ((loopLX1_2 a b).h0 (.c3 j)) (loopLX1_2 a b).end_ = treeLX1_2_3 a b j := by kernel_rfl
def treeLX1_2_4 (a : Gw.Offer) (b : Gw.Offer) (j : Nat) : DT (Ex × Snap) :=
  .ob (9 = 9 ∧ 0 ≤ (0 : Int) ∧ (0 : Int) < ((1 : Nat) : Int)) (
.ob (((V.beq (.agg [vi 0, vi 1]) (.agg [vi 0, vi 1])) && true) = true) (
.ob (True) (
.leaf (.normal, SNLX1_2 a b (vi 2) (vi 73) (vi 2) (vi 70) (vi 0) (vi 73)))))
set_option maxRecDepth 1000000 in
theorem treeLX1_2_4_eq (a : Gw.Offer) (b : Gw.Offer) (j : Nat) : rnd (orcsLX1_2 a b (.c4 j)) (stsLX1_2 (.c4 j)) (orcLX1_2 a b (.c4 j)) (stLX1_2 (.c4 j)) noLt 0 lpLX1_2 ((loopLX1_2 a b).t0 (.c4 j)) [] ((loopLX1_2 a b).h0 (.c4 j)) (loopLX1_2 a b).end_ = treeLX1_2_4 a b j := by kernel_rfl
def treeLX1_2_5 (a : Gw.Offer) (b : Gw.Offer) (j : Nat) : DT (Ex × Snap) :=
  .ob (binV .lss (vi (73 + (j : Int))) (vi 199) = some (.bool true)) (
.ob (binV .add (vi (73 + (j : Int))) (vi 1) = some (vi (74 + (j : Int)))) (
.ob (binV .geq (vi (74 + (j : Int))) (vi 200) = some (.bool false)) (
.ob (binV .eql (vi (70 - (j : Int))) (vi 0) = some (.bool false)) (
.ob (binV .sub (vi (70 - (j : Int))) (vi 1) = some (vi (69 - (j : Int)))) (
.ob (binV .gtr (vi (69 - (j : Int))) (vi 0) = some (.bool true)) (
.ob (binV .eql (vi (69 - (j : Int))) (vi 0) = some (.bool false)) (
.ob (binV .add (vi (73 + (j : Int))) (vi 1) = some (vi (74 + (j : Int)))) (
.leaf (.normal, SNLX1_2 a b (vi 2) (vi (74 + (j : Int))) (vi 2) (vi (69 - (j : Int))) (vi 0) (vi (74 + (j : Int))))))))))))
set_option maxRecDepth 1000000 in
theorem treeLX1_2_5_eq (a : Gw.Offer) (b : Gw.Offer) (j : Nat) : rnd (orcsLX1_2 a b (.c5 j)) (stsLX1_2 (.c5 j)) (orcLX1_2 a b (.c5 j)) (stLX1_2 (.c5 j)) noLt 0 lpLX1_2 ((loopLX1_2 a b).t0 (.c5 j)) [] ((loopLX1_2 a b).h0 (.c5 j)) (loopLX1_2 a b).end_ = treeLX1_2_5 a b j := by kernel_rfl
def treeLX1_2_6 (a : Gw.Offer) (b : Gw.Offer) (j : Nat) : DT (Ex × Snap) :=
  .ob (9 = 9 ∧ 0 ≤ (0 : Int) ∧ (0 : Int) < ((1 : Nat) : Int)) (
.ob (((V.beq (.agg [vi 0, vi 1]) (.agg [vi 0, vi 1])) && true) = true) (
.ob (True) (
.leaf (.normal, SNLX1_2 a b (vi 3) (vi 143) (vi 3) (vi 70) (vi 0) (vi 143)))))
set_option maxRecDepth 1000000 in
theorem treeLX1_2_6_eq (a : Gw.Offer) (b : Gw.Offer) (j : Nat) : rnd (orcsLX1_2 a b (.c6 j)) (stsLX1_2 (.c6 j)) (orcLX1_2 a b (.c6 j)) (stLX1_2 (.c6 j)) noLt 0 lpLX1_2 ((loopLX1_2 a b).t0 (.c6 j)) [] ((loopLX1_2 a b).h0 (.c6 j)) (loopLX1_2 a b).end_ = treeLX1_2_6 a b j := by kernel_rfl
def treeLX1_2_7 (a : Gw.Offer) (b : Gw.Offer) (j : Nat) : DT (Ex × Snap) :=
  .ob (binV .lss (vi (143 + (j : Int))) (vi 199) = some (.bool true)) (
.ob (binV .add (vi (143 + (j : Int))) (vi 1) = some (vi (144 + (j : Int)))) (
.ob (binV .geq (vi (144 + (j : Int))) (vi 200) = some (.bool false)) (
.ob (binV .eql (vi (70 - (j : Int))) (vi 0) = some (.bool false)) (
.ob (binV .sub (vi (70 - (j : Int))) (vi 1) = some (vi (69 - (j : Int)))) (
.ob (binV .gtr (vi (69 - (j : Int))) (vi 0) = some (.bool true)) (
.ob (binV .eql (vi (69 - (j : Int))) (vi 0) = some (.bool false)) (
.ob (binV .add (vi (143 + (j : Int))) (vi 1) = some (vi (144 + (j : Int)))) (
.leaf (.normal, SNLX1_2 a b (vi 3) (vi (144 + (j : Int))) (vi 3) (vi (69 - (j : Int))) (vi 0) (vi (144 + (j : Int))))))))))))
set_option maxRecDepth 1000000 in
theorem treeLX1_2_7_eq (a : Gw.Offer) (b : Gw.Offer) (j : Nat) : rnd (orcsLX1_2 a b (.c7 j)) (stsLX1_2 (.c7 j)) (orcLX1_2 a b (.c7 j)) (stLX1_2 (.c7 j)) noLt 0 lpLX1_2 ((loopLX1_2 a b).t0 (.c7 j)) [] ((loopLX1_2 a b).h0 (.c7 j)) (loopLX1_2 a b).end_ = treeLX1_2_7 a b j := by kernel_rfl
def treeLX1_2_8 (a : Gw.Offer) (b : Gw.Offer) (j : Nat) : DT (Ex × Snap) :=
  .leaf ((.exit 0), XLX1_2 a b)
set_option maxRecDepth 1000000 in
theorem treeLX1_2_8_eq (a : Gw.Offer) (b : Gw.Offer) (j : Nat) : rnd (orcsLX1_2 a b (.c8 j)) (stsLX1_2 (.c8 j)) (orcLX1_2 a b (.c8 j)) (stLX1_2 (.c8 j)) noLt 0 lpLX1_2 ((loopLX1_2 a b).t0 (.c8 j)) [] ((loopLX1_2 a b).h0 (.c8 j)) (loopLX1_2 a b).end_ = treeLX1_2_8 a b j := by kernel_rfl
def treeLX1_2L (a : Gw.Offer) (b : Gw.Offer) (i : ILX1_2) : DT (Ex × Snap) := match i with
  | .c0 j => treeLX1_2_0 a b j
  | .c1 j => treeLX1_2_1 a b j
  | .c2 j => treeLX1_2_2 a b j
  | .c3 j => treeLX1_2_3 a b j
  | .c4 j => treeLX1_2_4 a b j
  | .c5 j => treeLX1_2_5 a b j
  | .c6 j => treeLX1_2_6 a b j
  | .c7 j => treeLX1_2_7 a b j
  | .c8 j => treeLX1_2_8 a b j
theorem roundLX1_2 (a : Gw.Offer) (b : Gw.Offer) (hwa : loL (fineO a).wait = 1) (hwb : loL (fineO b).wait = 2) (i : ILX1_2) (Pr : Ex × Snap → Prop) (h : ((loopLX1_2 a b).out i).sat Pr) : (treeLX1_2L a b i).sat ((loopLX1_2 a b).next muLX1_2 i Pr) := by
  match i with
  | .c0 j =>
    have hj : j < 1 := h.1
    have hX := h.2
    obtain rfl : j = 0 := by omega
    exact sat_leaf (⟨.c1 0, by kernel_rfl, (by show 200 - (1 + 0) < 200 - (0 + 0); omega), ⟨(show 0 < 1 by decide), hX⟩⟩)
  | .c1 j =>
    have hj : j < 1 := h.1
    have hX := h.2
    obtain rfl : j = 0 := by omega
    exact sat_leaf (⟨.c2 0, by kernel_rfl, (by show 200 - (2 + 0) < 200 - (1 + 0); omega), ⟨(show 0 < 1 by decide), hX⟩⟩)
  | .c2 j =>
    have hj : j < 1 := h.1
    have hX := h.2
    obtain rfl : j = 0 := by omega
    exact sat_ob (by decide) (
sat_ob (by simp only [V.beq_refl, Bool.and_true]) (
sat_ob trivial (
sat_leaf (⟨.c3 0, by kernel_rfl, (by show 200 - (3 + 0) < 200 - (2 + 0); omega), ⟨(show 0 < 69 by decide), hX⟩⟩))))
  | .c3 j =>
    have hj : j < 69 := h.1
    have hX := h.2
    exact sat_ob (by simp [binV, binI]; omega) (
sat_ob (by show some (V.int .i64 (wrapK .i64 ((3 + (j : Int)) + 1))) = _; rw [wrap_small (by omega), show ((3 + (j : Int)) + 1) = (4 + (j : Int)) by omega]) (
sat_ob (by simp [binV, binI]; omega) (
sat_ob (by simp [binV, binI]; omega) (
sat_ob (by show some (V.int .i64 (wrapK .i64 ((70 - (j : Int)) - 1))) = _; rw [wrap_small (by omega), show ((70 - (j : Int)) - 1) = (69 - (j : Int)) by omega]) (
sat_ob (by simp [binV, binI]; omega) (
sat_ob (by simp [binV, binI]; omega) (
sat_ob (by show some (V.int .i64 (wrapK .i64 ((3 + (j : Int)) + 1))) = _; rw [wrap_small (by omega), show ((3 + (j : Int)) + 1) = (4 + (j : Int)) by omega]) (
sat_leaf (if h2 : j + 1 < 69 then ⟨.c3 (j + 1), (by show SNLX1_2 a b (vi 1) (vi (4 + (j : Int))) (vi 1) (vi (69 - (j : Int))) (vi 0) (vi (4 + (j : Int))) = SNLX1_2 a b (vi 1) (vi (3 + ((j + 1 : Nat) : Int))) (vi 1) (vi (70 - ((j + 1 : Nat) : Int))) (vi 0) (vi (3 + ((j + 1 : Nat) : Int))); rw [show ((3 + ((j + 1 : Nat) : Int)) : Int) = (4 + (j : Int)) by omega, show ((70 - ((j + 1 : Nat) : Int)) : Int) = (69 - (j : Int)) by omega]), (by show 200 - (3 + (j + 1)) < 200 - (3 + j); omega), ⟨h2, hX⟩⟩ else by
    obtain rfl : j = 68 := by omega
    exact ⟨.c4 0, by kernel_rfl, (by show 200 - (72 + 0) < 200 - (3 + 68); omega), ⟨(show 0 < 1 by decide), hX⟩⟩)))))))))
  | .c4 j =>
    have hj : j < 1 := h.1
    have hX := h.2
    obtain rfl : j = 0 := by omega
    exact sat_ob (by decide) (
sat_ob (by simp only [V.beq_refl, Bool.and_true]) (
sat_ob trivial (
sat_leaf (⟨.c5 0, by kernel_rfl, (by show 200 - (73 + 0) < 200 - (72 + 0); omega), ⟨(show 0 < 69 by decide), hX⟩⟩))))
  | .c5 j =>
    have hj : j < 69 := h.1
    have hX := h.2
    exact sat_ob (by simp [binV, binI]; omega) (
sat_ob (by show some (V.int .i64 (wrapK .i64 ((73 + (j : Int)) + 1))) = _; rw [wrap_small (by omega), show ((73 + (j : Int)) + 1) = (74 + (j : Int)) by omega]) (
sat_ob (by simp [binV, binI]; omega) (
sat_ob (by simp [binV, binI]; omega) (
sat_ob (by show some (V.int .i64 (wrapK .i64 ((70 - (j : Int)) - 1))) = _; rw [wrap_small (by omega), show ((70 - (j : Int)) - 1) = (69 - (j : Int)) by omega]) (
sat_ob (by simp [binV, binI]; omega) (
sat_ob (by simp [binV, binI]; omega) (
sat_ob (by show some (V.int .i64 (wrapK .i64 ((73 + (j : Int)) + 1))) = _; rw [wrap_small (by omega), show ((73 + (j : Int)) + 1) = (74 + (j : Int)) by omega]) (
sat_leaf (if h2 : j + 1 < 69 then ⟨.c5 (j + 1), (by show SNLX1_2 a b (vi 2) (vi (74 + (j : Int))) (vi 2) (vi (69 - (j : Int))) (vi 0) (vi (74 + (j : Int))) = SNLX1_2 a b (vi 2) (vi (73 + ((j + 1 : Nat) : Int))) (vi 2) (vi (70 - ((j + 1 : Nat) : Int))) (vi 0) (vi (73 + ((j + 1 : Nat) : Int))); rw [show ((70 - ((j + 1 : Nat) : Int)) : Int) = (69 - (j : Int)) by omega, show ((73 + ((j + 1 : Nat) : Int)) : Int) = (74 + (j : Int)) by omega]), (by show 200 - (73 + (j + 1)) < 200 - (73 + j); omega), ⟨h2, hX⟩⟩ else by
    obtain rfl : j = 68 := by omega
    exact ⟨.c6 0, by kernel_rfl, (by show 200 - (142 + 0) < 200 - (73 + 68); omega), ⟨(show 0 < 1 by decide), hX⟩⟩)))))))))
  | .c6 j =>
    have hj : j < 1 := h.1
    have hX := h.2
    obtain rfl : j = 0 := by omega
    exact sat_ob (by decide) (
sat_ob (by simp only [V.beq_refl, Bool.and_true]) (
sat_ob trivial (
sat_leaf (⟨.c7 0, by kernel_rfl, (by show 200 - (143 + 0) < 200 - (142 + 0); omega), ⟨(show 0 < 56 by decide), hX⟩⟩))))
  | .c7 j =>
    have hj : j < 56 := h.1
    have hX := h.2
    exact sat_ob (by simp [binV, binI]; omega) (
sat_ob (by show some (V.int .i64 (wrapK .i64 ((143 + (j : Int)) + 1))) = _; rw [wrap_small (by omega), show ((143 + (j : Int)) + 1) = (144 + (j : Int)) by omega]) (
sat_ob (by simp [binV, binI]; omega) (
sat_ob (by simp [binV, binI]; omega) (
sat_ob (by show some (V.int .i64 (wrapK .i64 ((70 - (j : Int)) - 1))) = _; rw [wrap_small (by omega), show ((70 - (j : Int)) - 1) = (69 - (j : Int)) by omega]) (
sat_ob (by simp [binV, binI]; omega) (
sat_ob (by simp [binV, binI]; omega) (
sat_ob (by show some (V.int .i64 (wrapK .i64 ((143 + (j : Int)) + 1))) = _; rw [wrap_small (by omega), show ((143 + (j : Int)) + 1) = (144 + (j : Int)) by omega]) (
sat_leaf (if h2 : j + 1 < 56 then ⟨.c7 (j + 1), (by show SNLX1_2 a b (vi 3) (vi (144 + (j : Int))) (vi 3) (vi (69 - (j : Int))) (vi 0) (vi (144 + (j : Int))) = SNLX1_2 a b (vi 3) (vi (143 + ((j + 1 : Nat) : Int))) (vi 3) (vi (70 - ((j + 1 : Nat) : Int))) (vi 0) (vi (143 + ((j + 1 : Nat) : Int))); rw [show ((143 + ((j + 1 : Nat) : Int)) : Int) = (144 + (j : Int)) by omega, show ((70 - ((j + 1 : Nat) : Int)) : Int) = (69 - (j : Int)) by omega]), (by show 200 - (143 + (j + 1)) < 200 - (143 + j); omega), ⟨h2, hX⟩⟩ else by
    obtain rfl : j = 55 := by omega
    exact ⟨.c8 0, by kernel_rfl, (by show 200 - (199 + 0) < 200 - (143 + 55); omega), ⟨(show 0 < 1 by decide), hX⟩⟩)))))))))
  | .c8 j =>
    have hj : j < 1 := h.1
    have hX := h.2
    obtain rfl : j = 0 := by omega
    exact sat_leaf (hX)
theorem ltLX1_2_ok (a : Gw.Offer) (b : Gw.Offer) (hwa : loL (fineO a).wait = 1) (hwb : loL (fineO b).wait = 2) (hint : Nat → List Nat) : Lt1 Tryz.prog hint 3 (loopLX1_2 a b).lt lpLX1_2 :=
  LoopD.lt1c mixed (show TabX Tryz.prog noPX oxM from tabM) tabD (loopLX1_2 a b) muLX1_2 (fun ex => match ex with | .normal => ⟨show 3 ≤ 358 by decide, show 3 ≤ 358 by decide⟩ | .exit _ => ⟨show 3 ≤ 358 by decide, show 3 ≤ 358 by decide⟩ | .ret => ⟨show 3 ≤ 358 by decide, show 3 ≤ 358 by decide⟩) (orcs := orcsLX1_2 a b) (sts := stsLX1_2) (orc := orcLX1_2 a b) (st := stLX1_2) (tree := treeLX1_2L a b)
    (fun i => match i with
    | .c0 j => treeLX1_2_0_eq a b j
    | .c1 j => treeLX1_2_1_eq a b j
    | .c2 j => treeLX1_2_2_eq a b j
    | .c3 j => treeLX1_2_3_eq a b j
    | .c4 j => treeLX1_2_4_eq a b j
    | .c5 j => treeLX1_2_5_eq a b j
    | .c6 j => treeLX1_2_6_eq a b j
    | .c7 j => treeLX1_2_7_eq a b j
    | .c8 j => treeLX1_2_8_eq a b j) (roundLX1_2 a b hwa hwb)
def oxLX1_2 (a : Gw.Offer) (b : Gw.Offer) : OTab := (consT 46 (gD dGet pGet (fun n => match n with | 138 => some (.tup [.agg [.int .u32 1, .int .u32 2, vi 0, vi 1, vi (fineO a).baud, vi 7, vi (fineO a).win, vi (fineO a).size, vi (fineO a).wait], .bool true]) | 298 => some (.tup [.agg [.int .u32 2, .int .u32 1, vi 0, vi 1, vi (fineO b).baud, vi 7, vi (fineO b).win, vi (fineO b).size, vi (fineO b).wait], .bool true]) | _ => none)) (consT 70 (gD dPut pPut noV) (consT 47 (gDT kT0 kT1 kT2 dDeal pDeal (fun n => match n with | 151 => some (.tup [.agg (dvD b a 1), .bool true]) | 311 => some (.tup [.agg (dvD a b 2), .bool true]) | _ => none)) (consT 43 (gD dOff pMayQ (fun n => match n with | 12 => some (.bool true) | 20 => some (.bool true) | _ => none)) (consT 10 (gD dOff pFine noV) (consO 9 (gTrue kT0 kT1 kT2) noOX))))))
def treeLX1_2 (a : Gw.Offer) (b : Gw.Offer) : DT V :=
  .ob (dOff [.agg a.vs]) (
.ob (((V.beq (.agg b.vs) (.agg b.vs)) && true) = true) (
.ob (dOff [.agg b.vs]) (
.ob (dOff [.agg (disO a).vs]) (
.ob (pMayQ [.agg (disO a).vs] = (.bool true)) (
.ob (((V.beq (.agg (disO b).vs) (.agg (disO b).vs)) && true) = true) (
.ob (dOff [.agg (disO b).vs]) (
.ob (pMayQ [.agg (disO b).vs] = (.bool true)) (
.ob (True) (
.ob (IntKind.i64 = IntKind.i64 ∧ (250 : Int) ≠ 0) (
.ob (((V.beq (.int .u32 2) (.int .u32 2)) && true) = true) (
.ob (((V.beq (.int .u32 2) (.int .u32 2)) && true) = true) (
.ob (dPut [.agg [.int .u32 1, .int .u32 2, vi 0, vi 1, vi (fineO a).baud, vi 7, vi (fineO a).win, vi (fineO a).size, vi (fineO a).wait]]) (
.ob (9 = 9 ∧ 0 ≤ (0 : Int) ∧ (0 : Int) < ((1 : Nat) : Int)) (
.ob (Gw.lenStr (.str (setupStr ⟨1, 2, 0, 1, (disO a)⟩)) = some (vi 25)) (
.ob (Gw.lenStr (.str (setupStr ⟨1, 2, 0, 1, (disO a)⟩)) = some (vi 25)) (
.ob (((V.beq (.str (setupStr ⟨1, 2, 0, 1, (disO a)⟩)) (.str (setupStr ⟨1, 2, 0, 1, (disO a)⟩))) && ((V.beq (.bool true) (.bool true)) && ((V.beq (.agg [vi 127, vi 255]) (.agg [vi 127, vi 255])) && true))) = true) (
.ob (((V.beq (vi 2) (vi 2)) && true) = true) (
.ob (((V.beq (.agg [vi 127, vi 255, .bool true, vi 3, vi 2, vi 0, vi 0, .bool true, .str (setupStr ⟨1, 2, 0, 1, (disO a)⟩)]) (.agg [vi 127, vi 255, .bool true, vi 3, vi 2, vi 0, vi 0, .bool true, .str (setupStr ⟨1, 2, 0, 1, (disO a)⟩)])) && true) = true) (
.ob (((eqV (.agg [.i, .i, .b, .i, .i, .i, .i, .b, .s]) (.agg [vi 127, vi 255, .bool true, vi 3, vi 2, vi 0, vi 0, .bool true, .str (setupStr ⟨1, 2, 0, 1, (disO a)⟩)]) (.agg [vi 127, vi 255, .bool true, vi 3, vi 2, vi 0, vi 0, .bool true, .str (setupStr ⟨1, 2, 0, 1, (disO a)⟩)])).map fun b => V.bool (if true then !b else b)) = some (.bool false)) (
.ob (((V.beq (.agg [vi 127, vi 255]) (.agg [vi 127, vi 255])) && true) = true) (
.ob (True) (
.ob (dGet [.str (setupStr ⟨1, 2, 0, 1, (disO a)⟩)]) (
.ob (pGet [.str (setupStr ⟨1, 2, 0, 1, (disO a)⟩)] = (.tup [.agg [.int .u32 1, .int .u32 2, vi 0, vi 1, vi (fineO a).baud, vi 7, vi (fineO a).win, vi (fineO a).size, vi (fineO a).wait], .bool true])) (
.ob (dDeal [.agg (disO b).vs, .agg (disO a).vs]) (
.ob (pDeal [.agg (disO b).vs, .agg (disO a).vs] = (.tup [.agg (dvD b a 1), .bool true])) (
.ob (((V.beq (vi (dealL (disO b) (disO a)).size) (vi (dealL (disO b) (disO a)).size)) && true) = true) (
.ob (((V.beq (vi (dealL (disO b) (disO a)).size) (vi (dealL (disO b) (disO a)).size)) && true) = true) (
.ob (((V.beq (.agg (dvD b a 1)) (.agg (dvD b a 1))) && ((V.beq (.agg [vi 0, vi 1]) (.agg [vi 0, vi 1])) && true)) = true) (
.ob (((V.beq (.agg (dvD b a 1)) (.agg (dvD b a 1))) && ((V.beq (.agg [vi 0, vi 1]) (.agg [vi 0, vi 1])) && true)) = true) (
.ob (((V.beq (.agg (dvD b a 1)) (.agg (dvD b a 1))) && ((V.beq (.agg [vi 0, vi 1]) (.agg [vi 0, vi 1])) && true)) = true) (
.ob (((V.beq (.agg (dvD b a 1)) (.agg (dvD b a 1))) && true) = true) (
.ob (((V.beq (vi 1) (vi 1)) && true) = true) (
.ob (((V.beq (vi 1) (vi 1)) && true) = true) (
.ob (((V.beq (vi 1) (vi 1)) && true) = true) (
.ob (dPut [.agg [.int .u32 2, .int .u32 1, vi 0, vi 1, vi (fineO b).baud, vi 7, vi (fineO b).win, vi (fineO b).size, vi (fineO b).wait]]) (
.ob (9 = 9 ∧ 0 ≤ (0 : Int) ∧ (0 : Int) < ((1 : Nat) : Int)) (
.ob (Gw.lenStr (.str (setupStr ⟨2, 1, 0, 1, (disO b)⟩)) = some (vi 25)) (
.ob (Gw.lenStr (.str (setupStr ⟨2, 1, 0, 1, (disO b)⟩)) = some (vi 25)) (
.ob (((V.beq (.str (setupStr ⟨2, 1, 0, 1, (disO b)⟩)) (.str (setupStr ⟨2, 1, 0, 1, (disO b)⟩))) && ((V.beq (.bool false) (.bool false)) && ((V.beq (.agg [vi 127, vi 255]) (.agg [vi 127, vi 255])) && true))) = true) (
.ob (((V.beq (vi 3) (vi 3)) && true) = true) (
.ob (((V.beq (.agg [vi 127, vi 255, .bool false, vi 3, vi 3, vi 0, vi 0, .bool true, .str (setupStr ⟨2, 1, 0, 1, (disO b)⟩)]) (.agg [vi 127, vi 255, .bool false, vi 3, vi 3, vi 0, vi 0, .bool true, .str (setupStr ⟨2, 1, 0, 1, (disO b)⟩)])) && true) = true) (
.ob (((eqV (.agg [.i, .i, .b, .i, .i, .i, .i, .b, .s]) (.agg [vi 127, vi 255, .bool false, vi 3, vi 3, vi 0, vi 0, .bool true, .str (setupStr ⟨2, 1, 0, 1, (disO b)⟩)]) (.agg [vi 127, vi 255, .bool false, vi 3, vi 3, vi 0, vi 0, .bool true, .str (setupStr ⟨2, 1, 0, 1, (disO b)⟩)])).map fun b => V.bool (if true then !b else b)) = some (.bool false)) (
.ob (((V.beq (.agg [vi 127, vi 255]) (.agg [vi 127, vi 255])) && true) = true) (
.ob (True) (
.ob (dGet [.str (setupStr ⟨2, 1, 0, 1, (disO b)⟩)]) (
.ob (pGet [.str (setupStr ⟨2, 1, 0, 1, (disO b)⟩)] = (.tup [.agg [.int .u32 2, .int .u32 1, vi 0, vi 1, vi (fineO b).baud, vi 7, vi (fineO b).win, vi (fineO b).size, vi (fineO b).wait], .bool true])) (
.ob (dDeal [.agg (disO a).vs, .agg (disO b).vs]) (
.ob (pDeal [.agg (disO a).vs, .agg (disO b).vs] = (.tup [.agg (dvD a b 2), .bool true])) (
.ob (True) (
.ob (((V.beq (vi (dealL (disO a) (disO b)).size) (vi (dealL (disO a) (disO b)).size)) && true) = true) (
.ob (((V.beq (vi (dealL (disO a) (disO b)).size) (vi (dealL (disO a) (disO b)).size)) && true) = true) (
.ob (((V.beq (.agg (dvD a b 2)) (.agg (dvD a b 2))) && ((V.beq (.agg [vi 0, vi 1]) (.agg [vi 0, vi 1])) && true)) = true) (
.ob (((V.beq (.agg (dvD a b 2)) (.agg (dvD a b 2))) && ((V.beq (.agg [vi 0, vi 1]) (.agg [vi 0, vi 1])) && true)) = true) (
.ob (((V.beq (.agg (dvD a b 2)) (.agg (dvD a b 2))) && ((V.beq (.agg [vi 0, vi 1]) (.agg [vi 0, vi 1])) && true)) = true) (
.ob (((V.beq (.agg (dvD a b 2)) (.agg (dvD a b 2))) && true) = true) (
.ob (((V.beq (vi 2) (vi 2)) && true) = true) (
.ob (((V.beq (vi 2) (vi 2)) && true) = true) (
.ob (((V.beq (vi 2) (vi 2)) && true) = true) (
.ob (True) (
.ob ((SNLX1_2 a b (vi 0) (vi 0) (vi 0) (vi 0) (vi 2) (vi 0) : Snap) = (loopLX1_2 a b).S (.c0 0)) (
.ob (invLX1_2 (.c0 0)) (
.ob (4 = 4 ∧ 0 ≤ (0 : Int) ∧ (0 : Int) < ((1 : Nat) : Int)) (
.leaf (.bool true))))))))))))))))))))))))))))))))))))))))))))))))))))))))))))))))
set_option maxRecDepth 1000000 in
theorem treeLX1_2_eq (a : Gw.Offer) (b : Gw.Offer) : funT (mkXT (noPX) (oxLX1_2 a b)) (mkXP (noPX)) (mkX (noPX) (oxLX1_2 a b)) D (fun g => match g with | 76 => (fun k => match k with | 38 => some fun t h => (match h.n with | 93 => (vi 25, h) | 112 => (vi 25, h) | 253 => (vi 25, h) | _ => (vi 25, h)) | _ => none) | 44 => (fun k => match k with | 52 => some fun t h => (match h.n with | 128 => (.bool false, h) | _ => (.bool false, h)) | _ => none) | _ => noOrc) (fun k => match k with | 4 => [16, 37, 91, 95, 102, 107] | 11 => [31, 41, 49, 60, 69, 72, 76] | 12 => [10, 15, 20, 25, 30, 31, 37, 41, 50, 57, 81, 90] | 16 => [15, 22, 31, 52, 58] | 21 => [8, 11, 15, 19, 23] | 22 => [16, 25, 30, 36, 39, 44, 47, 57, 67, 82, 86, 99] | 31 => [10, 33, 34, 40, 44, 49, 52, 66, 71] | 35 => [8, 25, 32] | 37 => [28, 30] | 44 => [8, 15, 26, 37, 41, 46, 52] | 48 => [14, 20, 28] | 49 => [13] | 71 => [10] | 76 => [11, 16, 20, 25, 30, 34, 39] | 77 => [8, 14, 19, 24, 34, 44] | 104 => [6, 9, 20] | 129 => [8, 19, 30, 34, 38] | 130 => [8, 13, 18, 21] | _ => []) 12 noOrc [16, 37, 91, 95, 102, 107] (ltLX1_2 a b) (dOf 4) [.agg a.vs, .agg b.vs] (tabH kT0 kT1 kT2 3) (fun v _ => v) = treeLX1_2 a b := by kernel_rfl
theorem satLX1_2 (a : Gw.Offer) (b : Gw.Offer) (hwa : loL (fineO a).wait = 1) (hwb : loL (fineO b).wait = 2) : (treeLX1_2 a b).sat fun v => v = .bool true :=
 sat_ob trivial (
sat_ob (by simp only [V.beq_refl, Bool.and_true]) (
sat_ob trivial (
sat_ob trivial (
sat_ob (pMay_dis a) (
sat_ob (by simp only [V.beq_refl, Bool.and_true]) (
sat_ob trivial (
sat_ob (pMay_dis b) (
sat_ob trivial (
sat_ob (by decide) (
sat_ob (by simp only [V.beq_refl, Bool.and_true]) (
sat_ob (by simp only [V.beq_refl, Bool.and_true]) (
sat_ob (okSetD 1 2 0 1 a (by decide) (by decide) (by decide) (by decide)) (
sat_ob (by decide) (
sat_ob rfl (
sat_ob rfl (
sat_ob (by simp only [V.beq_refl, Bool.and_true]) (
sat_ob (by simp only [V.beq_refl, Bool.and_true]) (
sat_ob (by simp only [V.beq_refl, Bool.and_true]) (
sat_ob (by simp [eqV, eqCells]) (
sat_ob (by simp only [V.beq_refl, Bool.and_true]) (
sat_ob trivial (
sat_ob ⟨⟨1, 2, 0, 1, (disO a)⟩, (okSetD 1 2 0 1 a (by decide) (by decide) (by decide) (by decide)), rfl⟩ (
sat_ob (get_put ⟨1, 2, 0, 1, (disO a)⟩ (okSetD 1 2 0 1 a (by decide) (by decide) (by decide) (by decide))) (
sat_ob ⟨(mayO_dis b), (mayO_dis a)⟩ (
sat_ob (by show V.tup [.agg [vi _, vi _, vi _, vi _, vi (loL (fineO a).wait)], .bool true] = _; rw [hwa]; rfl) (
sat_ob (by simp only [V.beq_refl, Bool.and_true]) (
sat_ob (by simp only [V.beq_refl, Bool.and_true]) (
sat_ob (by simp only [V.beq_refl, Bool.and_true]) (
sat_ob (by simp only [V.beq_refl, Bool.and_true]) (
sat_ob (by simp only [V.beq_refl, Bool.and_true]) (
sat_ob (by simp only [V.beq_refl, Bool.and_true]) (
sat_ob (by simp only [V.beq_refl, Bool.and_true]) (
sat_ob (by simp only [V.beq_refl, Bool.and_true]) (
sat_ob (by simp only [V.beq_refl, Bool.and_true]) (
sat_ob (okSetD 2 1 0 1 b (by decide) (by decide) (by decide) (by decide)) (
sat_ob (by decide) (
sat_ob rfl (
sat_ob rfl (
sat_ob (by simp only [V.beq_refl, Bool.and_true]) (
sat_ob (by simp only [V.beq_refl, Bool.and_true]) (
sat_ob (by simp only [V.beq_refl, Bool.and_true]) (
sat_ob (by simp [eqV, eqCells]) (
sat_ob (by simp only [V.beq_refl, Bool.and_true]) (
sat_ob trivial (
sat_ob ⟨⟨2, 1, 0, 1, (disO b)⟩, (okSetD 2 1 0 1 b (by decide) (by decide) (by decide) (by decide)), rfl⟩ (
sat_ob (get_put ⟨2, 1, 0, 1, (disO b)⟩ (okSetD 2 1 0 1 b (by decide) (by decide) (by decide) (by decide))) (
sat_ob ⟨(mayO_dis a), (mayO_dis b)⟩ (
sat_ob (by show V.tup [.agg [vi _, vi _, vi _, vi _, vi (loL (fineO b).wait)], .bool true] = _; rw [hwb]; rfl) (
sat_ob trivial (
sat_ob (by simp only [V.beq_refl, Bool.and_true]) (
sat_ob (by simp only [V.beq_refl, Bool.and_true]) (
sat_ob (by simp only [V.beq_refl, Bool.and_true]) (
sat_ob (by simp only [V.beq_refl, Bool.and_true]) (
sat_ob (by simp only [V.beq_refl, Bool.and_true]) (
sat_ob (by simp only [V.beq_refl, Bool.and_true]) (
sat_ob (by simp only [V.beq_refl, Bool.and_true]) (
sat_ob (by simp only [V.beq_refl, Bool.and_true]) (
sat_ob (by simp only [V.beq_refl, Bool.and_true]) (
sat_ob trivial (
sat_ob (by kernel_rfl) (
sat_ob (show 0 < 1 by decide) (
sat_ob (by decide) (
sat_leaf (rfl))))))))))))))))))))))))))))))))))))))))))))))))))))))))))))))))
def lpLX1_2_1 : DC := (((loopsIn 0 (dOf 4).body)[1]?).getD (0, .skip)).2
theorem loopsLX1_2 : loopsIn 0 (dOf 4).body = [(0, lpLX1_2), (2, lpLX1_2_1)] := by kernel_rfl
set_option maxRecDepth 1000000 in
theorem runLX1_2 (a : Gw.Offer) (b : Gw.Offer) (hwa : loL (fineO a).wait = 1) (hwb : loL (fineO b).wait = 2) : Run Tryz.prog 4 [.agg a.vs, .agg b.vs] (tabH kT0 kT1 kT2 3) fun v _ => v = .bool true := by
  refine run_loops mixed (show TabX Tryz.prog noPX (oxLX1_2 a b) from ((((((TabX.nil.addO ans_begun).addT (ans_fine noV)).addT (ans_may (fun n => match n with | 12 => some (.bool true) | 20 => some (.bool true) | _ => none))).addT (ans_deal (fun n => match n with | 151 => some (.tup [.agg (dvD b a 1), .bool true]) | 311 => some (.tup [.agg (dvD a b 2), .bool true]) | _ => none))).addT (ans_put noV)).addT (ans_get (fun n => match n with | 138 => some (.tup [.agg [.int .u32 1, .int .u32 2, vi 0, vi 1, vi (fineO a).baud, vi 7, vi (fineO a).win, vi (fineO a).size, vi (fineO a).wait], .bool true]) | 298 => some (.tup [.agg [.int .u32 2, .int .u32 1, vi 0, vi 1, vi (fineO b).baud, vi 7, vi (fineO b).win, vi (fineO b).size, vi (fineO b).wait], .bool true]) | _ => none)))) tabD (dIs (by kernel_rfl)) (lt := ltLX1_2 a b) (fun hint p hp => ?_) (treeLX1_2_eq a b) (satLX1_2 a b hwa hwb)
  rw [loopsLX1_2] at hp
  simp only [List.mem_cons, List.not_mem_nil, or_false] at hp
  rcases hp with rfl | rfl
  · exact ltLX1_2_ok a b hwa hwb hint
  · exact lt1_no
end Go.Proofs.YtjcninlcdnkofaaGreatDoor
