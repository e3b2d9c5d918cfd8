/- LinkSilence: its trees, its loop. -/
import Derived.Test.YtjcninlcdnkofaaGreatDoorGxSI
noncomputable section
namespace Go.Proofs.YtjcninlcdnkofaaGreatDoor
open Go Gw Go.RowKit
set_option linter.unusedSimpArgs false
set_option linter.unusedVariables false
inductive ILS2_0
  | c0 (j : Nat)
  | c1 (j : Nat)
  | c2 (j : Nat)
  | c3 (j : Nat)
  | c4 (j : Nat)
  | c5 (j : Nat)
  | c6 (j : Nat)
  | c7 (j : Nat)
def RWLS2_0 (a : Gw.Offer) (b : Gw.Offer) (body : Str) (w0 : V) (w1 : V) (w2 : V) (w3 : V) (w4 : V) (w5 : V) (w6 : V) (w7 : V) (w8 : V) (w9 : V) (w10 : V) (w11 : V) (w12 : V) (w13 : V) : List (Option Blk) := [some (.cells true (zsV .u8 kT0)), some (.cells true (zsV .u8 kT1)), some (.cells true (zsV .u8 kT2)), cF (fineO a).vs, cF (fineO b).vs, none, cF (fineO a).vs, cF (fineO b).vs, none, none, cF (fineO a).vs, none, none, none, none, none, cF [.int .u32 1, vi 0, vi (fineO a).baud, vi (fineO a).silent, vi (fineO a).win, vi (fineO a).size, vi (fineO a).wait, w2, w3, vi 0, w4, w5, w6, w7, w8, vi 0, w9, vi 1, vi 0, vi 0, vi 0, w10, vi 0, w11, .bool false, .bool false, .bool false, .nils], none, cF (fineO b).vs, none, none, none, none, none, cF [.int .u32 2, vi 1, vi (fineO b).baud, vi (fineO b).silent, vi (fineO b).win, vi (fineO b).size, vi (fineO b).wait, vi 2, .int .u32 1, vi 0, vi 1, vi (dealL (fineO b) (fineO a)).baud, vi 200, vi (dealL (fineO b) (fineO a)).win, vi (dealL (fineO b) (fineO a)).size, vi 2, .ptr 170 0, vi 0, vi 0, vi 0, vi 0, vi 0, vi 0, vi 3, .bool false, .bool false, .bool false, .nils], none, some (.cells false [vi 2, vi 0, .int .u32 2, .str []]), none, some (.cells false [vi 2, vi 0, .int .u32 2, .str []]), none, none, none, none, some (.cells false [vi 2, vi 0, .int .u32 2, .str []]), none, cF [vi 0, vi 1], none, none, none, none, none, none, cF [vi 127, vi 255, .bool true, vi 3, vi 2, vi 0, vi 0, .bool true, .str (setupStr ⟨1, 2, 0, 1, (fineO a)⟩)], none, none, cF [vi 0, vi 1], cF [vi 127, vi 255, .bool true, vi 3, vi 2, vi 0, vi 0, .bool true, .str (setupStr ⟨1, 2, 0, 1, (fineO a)⟩)], cF [vi 127, vi 255], cF [vi 127, vi 255], cF [vi 127, vi 255, .bool true, vi 3, vi 2, vi 0, vi 0, .bool true, .str (setupStr ⟨1, 2, 0, 1, (fineO a)⟩)], none, none, cF [vi 127, vi 255, .bool true, vi 3, vi 2, vi 0, vi 0, .bool true, .str (setupStr ⟨1, 2, 0, 1, (fineO a)⟩)], none, cF [vi 127, vi 255, .bool true, vi 3, vi 2, vi 0, vi 0, .bool true, .str (setupStr ⟨1, 2, 0, 1, (fineO a)⟩)], none, none, none, none, none, none, some (.cells false [vi 127, vi 255, .bool true, .iface 117 (.agg [vi 2, .bool true]), .str (setupStr ⟨1, 2, 0, 1, (fineO a)⟩)]), none, none, cF [vi 127, vi 255, .bool true, vi 3, vi 2, vi 0, vi 0, .bool true, .str (setupStr ⟨1, 2, 0, 1, (fineO a)⟩)], some (.cells false [vi 127, vi 255, .bool true, .iface 117 (.agg [vi 2, .bool true]), .str (setupStr ⟨1, 2, 0, 1, (fineO a)⟩)]), none, none, none, none, none, none, none, none, some (.cells false [vi 127, vi 255, .bool true, .iface 117 (.agg [vi 2, .bool true]), .str (setupStr ⟨1, 2, 0, 1, (fineO a)⟩)]), none, some (.cells false [vi 127, vi 255, .bool true, .iface 117 (.agg [vi 2, .bool true]), .str (setupStr ⟨1, 2, 0, 1, (fineO a)⟩)]), none, none, none, none, none, none, none, cF [vi 0, vi 0, .bool false], none, none, none, none, cF [vi 127, vi 255], none, cF [vi 2, .bool true], none, some (.cells false [vi 127, vi 255, .bool true, .iface 117 (.agg [vi 2, .bool true]), .str (setupStr ⟨1, 2, 0, 1, (fineO a)⟩)]), cF [vi 127, vi 255, .bool true, vi 3, vi 2, vi 0, vi 0, .bool true, .str (setupStr ⟨1, 2, 0, 1, (fineO a)⟩)], some (.cells false [vi 127, vi 255, .bool true, .iface 117 (.agg [vi 2, .bool true]), .str (setupStr ⟨1, 2, 0, 1, (fineO a)⟩)]), none, none, none, none, none, none, none, cF [vi 0, vi 0, .bool false], none, none, none, none, cF [vi 127, vi 255], none, cF [vi 2, .bool true], none, none, none, none, none, none, none, none, none, none, none, cF [vi 127, vi 255, .bool true, vi 3, vi 2, vi 0, vi 0, .bool true, .str (setupStr ⟨1, 2, 0, 1, (fineO a)⟩)], none, cF [vi 2, .bool true], none, cF [vi 2, .bool true], none, cF [vi 127, vi 255], none, none, none, none, none, none, cF [.int .u32 1, .int .u32 2, vi 0, vi 1, vi (fineO a).baud, vi (fineO a).silent, vi (fineO a).win, vi (fineO a).size, vi (fineO a).wait], none, none, none, none, none, none, none, none, none, none, none, none, cF (dv b a 2), none, none, cF [.int .u32 1, .int .u32 2, vi 0, vi 1, vi (fineO a).baud, vi (fineO a).silent, vi (fineO a).win, vi (fineO a).size, vi (fineO a).wait], cF (dv b a 2), none, cF [vi 0, vi 1], cF (dv b a 2), none, cF (dv b a 2), none, none, none, none, none, none, none, none, none, none, none, none, cF [vi 2, vi (if (64 : Int) < (dealL (fineO b) (fineO a)).size then 64 else (dealL (fineO b) (fineO a)).size), .ptr 176 0, .ptr 179 0, .bool false], none, none, none, none, none, cF [vi (if (7 : Int) < (if (1 : Int) > (dealL (fineO b) (fineO a)).win then 1 else (dealL (fineO b) (fineO a)).win) then 7 else (if (1 : Int) > (dealL (fineO b) (fineO a)).win then 1 else (dealL (fineO b) (fineO a)).win)), .nils, vi 0, vi 0], none, none, cF [vi 0, .bool false], none, none, none, none, none, none, none, some (.cells false [vi 2, .int .u32 1, .str [], .nils]), none, cF [vi 0, vi 1], cF [vi 127, vi 255, .bool false, vi 3, vi 3, vi 0, vi 0, .bool true, .str (setupStr ⟨2, 1, 0, 1, (fineO b)⟩)], cF [vi 127, vi 255], cF [vi 127, vi 255], cF [vi 127, vi 255, .bool false, vi 3, vi 3, vi 0, vi 0, .bool true, .str (setupStr ⟨2, 1, 0, 1, (fineO b)⟩)], cF [vi 127, vi 255, .bool false, vi 3, vi 3, vi 0, vi 0, .bool true, .str (setupStr ⟨2, 1, 0, 1, (fineO b)⟩)], none, none, none, cF [vi 127, vi 255, .bool false, vi 3, vi 3, vi 0, vi 0, .bool true, .str (setupStr ⟨2, 1, 0, 1, (fineO b)⟩)], none, none, none, none, none, none, none, none, none, none, none, none, none, cF [vi 127, vi 255, .bool false, vi 3, vi 3, vi 0, vi 0, .bool true, .str (setupStr ⟨2, 1, 0, 1, (fineO b)⟩)], none, cF [vi 127, vi 255, .bool false, vi 3, vi 3, vi 0, vi 0, .bool true, .str (setupStr ⟨2, 1, 0, 1, (fineO b)⟩)], none, none, none, none, none, none, some (.cells false [vi 127, vi 255, .bool false, .iface 117 (.agg [vi 3, .bool true]), .str (setupStr ⟨2, 1, 0, 1, (fineO b)⟩)]), none, none, cF [vi 127, vi 255, .bool false, vi 3, vi 3, vi 0, vi 0, .bool true, .str (setupStr ⟨2, 1, 0, 1, (fineO b)⟩)], some (.cells false [vi 127, vi 255, .bool false, .iface 117 (.agg [vi 3, .bool true]), .str (setupStr ⟨2, 1, 0, 1, (fineO b)⟩)]), none, none, none, none, none, none, none, none, some (.cells false [vi 127, vi 255, .bool false, .iface 117 (.agg [vi 3, .bool true]), .str (setupStr ⟨2, 1, 0, 1, (fineO b)⟩)]), none, some (.cells false [vi 127, vi 255, .bool false, .iface 117 (.agg [vi 3, .bool true]), .str (setupStr ⟨2, 1, 0, 1, (fineO b)⟩)]), none, none, none, none, none, none, none, cF [vi 0, vi 0, .bool false], none, none, none, none, cF [vi 127, vi 255], none, cF [vi 3, .bool true], none, some (.cells false [vi 127, vi 255, .bool false, .iface 117 (.agg [vi 3, .bool true]), .str (setupStr ⟨2, 1, 0, 1, (fineO b)⟩)]), cF [vi 127, vi 255, .bool false, vi 3, vi 3, vi 0, vi 0, .bool true, .str (setupStr ⟨2, 1, 0, 1, (fineO b)⟩)], some (.cells false [vi 127, vi 255, .bool false, .iface 117 (.agg [vi 3, .bool true]), .str (setupStr ⟨2, 1, 0, 1, (fineO b)⟩)]), none, none, none, none, none, none, none, cF [vi 0, vi 0, .bool false], none, none, none, none, cF [vi 127, vi 255], none, cF [vi 3, .bool true], none, none, none, none, none, none, none, none, none, none, none, cF [vi 127, vi 255, .bool false, vi 3, vi 3, vi 0, vi 0, .bool true, .str (setupStr ⟨2, 1, 0, 1, (fineO b)⟩)], none, cF [vi 3, .bool true], none, cF [vi 3, .bool true], none, cF [vi 127, vi 255], none, none, none, none, none, none, cF [.int .u32 2, .int .u32 1, vi 0, vi 1, vi (fineO b).baud, vi (fineO b).silent, vi (fineO b).win, vi (fineO b).size, vi (fineO b).wait], none, none, none, none, none, none, none, none, none, none, none, none, cF (dv a b 0), none, none, cF [.int .u32 2, .int .u32 1, vi 0, vi 1, vi (fineO b).baud, vi (fineO b).silent, vi (fineO b).win, vi (fineO b).size, vi (fineO b).wait], cF (dv a b 0), none, cF [vi 0, vi 1], cF (dv a b 0), none, cF (dv a b 0), none, none, none, none, none, none, none, none, none, none, none, none, cF [vi 1, vi (if (64 : Int) < (dealL (fineO a) (fineO b)).size then 64 else (dealL (fineO a) (fineO b)).size), .ptr 336 0, .ptr 339 0, w12], none, none, none, none, none, cF [vi (if (7 : Int) < (if (1 : Int) > (dealL (fineO a) (fineO b)).win then 1 else (dealL (fineO a) (fineO b)).win) then 7 else (if (1 : Int) > (dealL (fineO a) (fineO b)).win then 1 else (dealL (fineO a) (fineO b)).win)), .slice 369 0 1 1 none, vi 0, w13], none, none, cF [vi 0, .bool false], none, none, none, none, none, none, none, some (.cells false [vi 2, .int .u32 2, .str [], .nils]), none, cF [vi 3, vi 0, .int .u32 0, .str (cut8 body)], none, cF [vi 3, vi 0, .int .u32 0, .str (cut8 body)], none, none, none, none, cF [vi 3, vi 0, .int .u32 0, .str (cut8 body)], none, none, none, none, none, none, none, cF [.str (cut8 body)], none, none, none, none, cF [.str (cut8 body)], none, none, none, none, cF (dv a b 0), none, none, cF (dv a b 0)]
def SNLS2_0 (a : Gw.Offer) (b : Gw.Offer) (body : Str) (w0 : V) (w1 : V) (w2 : V) (w3 : V) (w4 : V) (w5 : V) (w6 : V) (w7 : V) (w8 : V) (w9 : V) (w10 : V) (w11 : V) (w12 : V) (w13 : V) : Snap := ([.agg a.vs, .agg b.vs, .bool true, .str body, .ptr 3 0, .ptr 4 0, .bool true, .ptr 16 0, .ptr 24 0, .ptr 16 0, .ptr 374 0, .int .u32 2, w0, w1, .bool true, .bool true, .bool false, .agg a.vs, .agg (fineO a).vs, .agg b.vs, .agg (fineO b).vs, .tup [.ptr 16 0, .ptr 24 0], .agg (fineO a).vs, .agg (fineO b).vs, .tup [.ptr 16 0, .ptr 24 0], .ptr 16 0, .ptr 24 0, .ptr 16 0, .bool false, .bool false, .ptr 24 0, .bool false, .bool false, .ptr 24 0, .bool true, .ptr 16 0, .ptr 16 0, .str body, .str (cut8 body), .agg [vi 3, vi 0, .int .u32 0, .str (cut8 body)], .ptr 16 0, .agg (dv a b 0), .ptr 16 0, .int .u32 2], RWLS2_0 a b body w0 w1 w2 w3 w4 w5 w6 w7 w8 w9 w10 w11 w12 w13)
def SSLS2_0 (a : Gw.Offer) (b : Gw.Offer) (body : Str) (i : ILS2_0) : Snap := match i with
  | .c0 j => SNLS2_0 a b body (vi 0) (vi 1) (vi 2) (.int .u32 2) (vi 1) (vi (dealL (fineO a) (fineO b)).baud) (vi 200) (vi (dealL (fineO a) (fineO b)).win) (vi (dealL (fineO a) (fineO b)).size) (.ptr 330 0) (vi 0) (vi 0) (.bool true) (vi 0)
  | .c1 j => SNLS2_0 a b body (vi 0) (vi (2 + (j : Int))) (vi 2) (.int .u32 2) (vi 1) (vi (dealL (fineO a) (fineO b)).baud) (vi 200) (vi (dealL (fineO a) (fineO b)).win) (vi (dealL (fineO a) (fineO b)).size) (.ptr 330 0) (vi (70 - (j : Int))) (vi (1 + (j : Int))) (.bool false) (vi 1)
  | .c2 j => SNLS2_0 a b body (vi 0) (vi 71) (vi 2) (.int .u32 2) (vi 1) (vi (dealL (fineO a) (fineO b)).baud) (vi 200) (vi (dealL (fineO a) (fineO b)).win) (vi (dealL (fineO a) (fineO b)).size) (.ptr 330 0) (vi 1) (vi 70) (.bool false) (vi 1)
  | .c3 j => SNLS2_0 a b body (vi 0) (vi (72 + (j : Int))) (vi 2) (.int .u32 2) (vi 1) (vi (dealL (fineO a) (fineO b)).baud) (vi 200) (vi (dealL (fineO a) (fineO b)).win) (vi (dealL (fineO a) (fineO b)).size) (.ptr 330 0) (vi (70 - (j : Int))) (vi (71 + (j : Int))) (.bool false) (vi 1)
  | .c4 j => SNLS2_0 a b body (vi 0) (vi 141) (vi 2) (.int .u32 2) (vi 1) (vi (dealL (fineO a) (fineO b)).baud) (vi 200) (vi (dealL (fineO a) (fineO b)).win) (vi (dealL (fineO a) (fineO b)).size) (.ptr 330 0) (vi 1) (vi 140) (.bool false) (vi 1)
  | .c5 j => SNLS2_0 a b body (vi 0) (vi (142 + (j : Int))) (vi 2) (.int .u32 2) (vi 1) (vi (dealL (fineO a) (fineO b)).baud) (vi 200) (vi (dealL (fineO a) (fineO b)).win) (vi (dealL (fineO a) (fineO b)).size) (.ptr 330 0) (vi (70 - (j : Int))) (vi (141 + (j : Int))) (.bool false) (vi 1)
  | .c6 j => SNLS2_0 a b body (vi 0) (vi 200) (vi 2) (.int .u32 2) (vi 1) (vi (dealL (fineO a) (fineO b)).baud) (vi 200) (vi (dealL (fineO a) (fineO b)).win) (vi (dealL (fineO a) (fineO b)).size) (.ptr 330 0) (vi 12) (vi 199) (.bool false) (vi 1)
  | .c7 j => SNLS2_0 a b body (vi 1) (vi 201) (vi 0) (.int .u32 0) (vi 0) (vi 0) (vi 0) (vi 0) (vi 0) (.nilp) (vi 0) (vi 0) (.bool false) (vi 1)
def XLS2_0 (a : Gw.Offer) (b : Gw.Offer) (body : Str) : Snap := ([.agg a.vs, .agg b.vs, .bool true, .str body, .ptr 3 0, .ptr 4 0, .bool true, .ptr 16 0, .ptr 24 0, .ptr 16 0, .ptr 374 0, vi 1, .bool true, .bool true, .bool false, .agg a.vs, .agg (fineO a).vs, .agg b.vs, .agg (fineO b).vs, .tup [.ptr 16 0, .ptr 24 0], .agg (fineO a).vs, .agg (fineO b).vs, .tup [.ptr 16 0, .ptr 24 0], .ptr 16 0, .ptr 24 0, .ptr 16 0, .bool false, .bool false, .ptr 24 0, .bool false, .bool false, .ptr 24 0, .bool true, .ptr 16 0, .ptr 16 0, .str body, .str (cut8 body), .agg [vi 3, vi 0, .int .u32 0, .str (cut8 body)], .ptr 16 0, .agg (dv a b 0), .ptr 16 0, .int .u32 2], RWLS2_0 a b body (vi 0) (vi 1) (vi 0) (.int .u32 0) (vi 0) (vi 0) (vi 0) (vi 0) (vi 0) (.nilp) (vi 0) (vi 0) (.bool false) (vi 1))
def invLS2_0 (i : ILS2_0) : Prop := match i with
  | .c0 j => j < 1
  | .c1 j => j < 69
  | .c2 j => j < 1
  | .c3 j => j < 69
  | .c4 j => j < 1
  | .c5 j => j < 58
  | .c6 j => j < 1
  | .c7 j => j < 1
def muLS2_0 (i : ILS2_0) : Nat := match i with
  | .c0 j => 201 - (0 + j)
  | .c1 j => 201 - (1 + j)
  | .c2 j => 201 - (70 + j)
  | .c3 j => 201 - (71 + j)
  | .c4 j => 201 - (140 + j)
  | .c5 j => 201 - (141 + j)
  | .c6 j => 201 - (199 + j)
  | .c7 j => 201 - (200 + j)
def loopLS2_0 (a : Gw.Offer) (b : Gw.Offer) (body : Str) : LoopD ILS2_0 where
  nt := 134
  fr := fun ex => match ex with | .normal => ⟨[0, 1, 2, 3, 4, 5, 9, 10, 11, 12, 13, 14, 15, 16, 21, 22, 23, 24, 25, 26, 27, 28, 29, 30, 31, 32, 33, 34, 35, 36, 37, 38, 39, 40, 41, 42, 43, 44, 45, 46, 48, 49, 50, 51], 378, []⟩ | .exit _ => ⟨[0, 1, 2, 3, 4, 5, 9, 10, 11, 12, 13, 15, 21, 22, 23, 24, 25, 26, 27, 28, 29, 30, 31, 32, 33, 34, 35, 36, 37, 38, 39, 40, 41, 42, 43, 44, 45, 46, 48, 49, 50, 51], 378, []⟩ | .ret => ⟨[], 378, []⟩
  S := SSLS2_0 a b body
  out := fun i => .ob (invLS2_0 i) (.leaf ((.exit 0), XLS2_0 a b body))
  pick := fun _ => .c0 0
def ltLS2_0 (a : Gw.Offer) (b : Gw.Offer) (body : Str) : Lt := fun k => match k with | 0 => (loopLS2_0 a b body).lt | _ => fun _ _ => .fail
def lpLS2_0 : DC := (((loopsIn 0 (dOf 3).body)[0]?).getD (0, .skip)).2
def orcLS2_0 (a : Gw.Offer) (b : Gw.Offer) (body : Str) (i : ILS2_0) : Orc := match i with
  | .c0 j => noOrc
  | .c1 j => (fun k => match k with | 55 => some fun t h => (.bool true, h) | 57 => some fun t h => (vi (3 + (j : Int)), h) | _ => none)
  | .c2 j => noOrc
  | .c3 j => (fun k => match k with | 55 => some fun t h => (.bool true, h) | 57 => some fun t h => (vi (73 + (j : Int)), h) | _ => none)
  | .c4 j => noOrc
  | .c5 j => (fun k => match k with | 55 => some fun t h => (.bool true, h) | 57 => some fun t h => (vi (143 + (j : Int)), h) | _ => none)
  | .c6 j => noOrc
  | .c7 j => noOrc
def orcsLS2_0 (a : Gw.Offer) (b : Gw.Offer) (body : Str) (i : ILS2_0) : Nat → Orc := match i with
  | .c0 j => (fun g => match g with | 105 => (fun k => match k with | 18 => some fun t h => (vi 1, h) | _ => none) | _ => noOrc)
  | .c1 j => (fun g => match g with | 35 => (fun k => match k with | 13 => some fun t h => (vi (2 + (j : Int)), h) | 25 => some fun t h => (.bool false, h) | 32 => some fun t h => (.bool false, h) | 37 => some fun t h => (vi (69 - (j : Int)), h) | 44 => some fun t h => (.bool true, h) | _ => none) | _ => noOrc)
  | .c2 j => (fun g => match g with | 105 => (fun k => match k with | 18 => some fun t h => (vi 1, h) | _ => none) | _ => noOrc)
  | .c3 j => (fun g => match g with | 35 => (fun k => match k with | 13 => some fun t h => (vi (72 + (j : Int)), h) | 25 => some fun t h => (.bool false, h) | 32 => some fun t h => (.bool false, h) | 37 => some fun t h => (vi (69 - (j : Int)), h) | 44 => some fun t h => (.bool true, h) | _ => none) | _ => noOrc)
  | .c4 j => (fun g => match g with | 105 => (fun k => match k with | 18 => some fun t h => (vi 1, h) | _ => none) | _ => noOrc)
  | .c5 j => (fun g => match g with | 35 => (fun k => match k with | 13 => some fun t h => (vi (142 + (j : Int)), h) | 25 => some fun t h => (.bool false, h) | 32 => some fun t h => (.bool false, h) | 37 => some fun t h => (vi (69 - (j : Int)), h) | 44 => some fun t h => (.bool true, h) | _ => none) | _ => noOrc)
  | .c6 j => (fun _ => noOrc)
  | .c7 j => (fun _ => noOrc)
def stsLS2_0 (i : ILS2_0) : Nat → List Nat := match i with
  | .c0 j => (fun k => match k with | 3 => [55, 65] | 16 => [15, 22, 31, 52, 74, 80, 86, 96] | 35 => [8, 25, 32] | 38 => [9] | 40 => [7, 20, 34] | 72 => [11, 17, 34] | 73 => [13] | 105 => [30] | _ => [])
  | .c1 j => (fun k => match k with | 3 => [55, 65] | 16 => [15, 22, 31, 52, 74, 80] | 35 => [8, 25, 32, 44] | 38 => [9] | _ => [])
  | .c2 j => (fun k => match k with | 3 => [55, 65] | 16 => [15, 22, 31, 52, 74, 80, 86, 96] | 35 => [8, 25, 32, 44, 49, 55, 68, 73, 78] | 38 => [9] | 40 => [7, 20, 34] | 69 => [9, 16] | 72 => [11, 17, 34] | 73 => [13] | 105 => [30] | _ => [])
  | .c3 j => (fun k => match k with | 3 => [55, 65] | 16 => [15, 22, 31, 52, 74, 80] | 35 => [8, 25, 32, 44] | 38 => [9] | _ => [])
  | .c4 j => (fun k => match k with | 3 => [55, 65] | 16 => [15, 22, 31, 52, 74, 80, 86, 96] | 35 => [8, 25, 32, 44, 49, 55, 68, 73, 78] | 38 => [9] | 40 => [7, 20, 34] | 69 => [9, 16] | 72 => [11, 17, 34] | 73 => [13] | 105 => [30] | _ => [])
  | .c5 j => (fun k => match k with | 3 => [55, 65] | 16 => [15, 22, 31, 52, 74, 80] | 35 => [8, 25, 32, 44] | 38 => [9] | _ => [])
  | .c6 j => (fun k => match k with | 3 => [55, 65, 68, 73, 80, 85, 92, 100] | 16 => [15] | 35 => [8, 25] | _ => [])
  | .c7 j => (fun k => match k with | 3 => [55] | _ => [])
def stLS2_0 (i : ILS2_0) : List Nat := match i with
  | .c0 j => [55, 65]
  | .c1 j => [55, 65]
  | .c2 j => [55, 65]
  | .c3 j => [55, 65]
  | .c4 j => [55, 65]
  | .c5 j => [55, 65]
  | .c6 j => [55, 65, 68, 73, 80, 85, 92, 100]
  | .c7 j => [55]
def treeLS2_0_0 (a : Gw.Offer) (b : Gw.Offer) (body : Str) (j : Nat) : DT (Ex × Snap) :=
  .ob (((V.beq (vi 1) (vi 1)) && true) = true) (
.ob (minV (vi (if (7 : Int) < (if (1 : Int) > (dealL (fineO a) (fineO b)).win then 1 else (dealL (fineO a) (fineO b)).win) then 7 else (if (1 : Int) > (dealL (fineO a) (fineO b)).win then 1 else (dealL (fineO a) (fineO b)).win))) [(vi 1)] = some (vi 1)) (
.ob (IntKind.i64 = IntKind.i64 ∧ (8 : Int) ≠ 0) (
.ob (IntKind.i64 = IntKind.i64 ∧ (8 : Int) ≠ 0) (
.ob (IntKind.i64 = IntKind.i64 ∧ (8 : Int) ≠ 0) (
.ob (IntKind.i64 = IntKind.i64 ∧ (8 : Int) ≠ 0) (
.ob ((1 = 1 ∧ ([vi 0] : List V).length = 1 * 1) ∧ allOne [vi 0] = true ∧ 1 * 8 ≤ 70368744177664) (
.ob (1 = 1 ∧ (0 ≤ (1 : Int) ∧ (1 : Int) ≤ ((1 : Nat) : Int)) ∧ (True)) (
.ob (1 = 1 ∧ 0 ≤ (0 : Int) ∧ (0 : Int) < ((1 : Nat) : Int)) (
.ob (1 = 1 ∧ 0 ≤ (0 : Int) ∧ (0 : Int) < ((1 : Nat) : Int)) (
.ob ((9 = 9 ∧ ([vi 0, vi 0, .bool true, vi 1, vi 0, vi 0, vi 0, .bool false, .str (cut8 body)] : List V).length = 1 * 9) ∧ allOne [vi 0, vi 0, .bool true, vi 1, vi 0, vi 0, vi 0, .bool false, .str (cut8 body)] = true ∧ 1 * 80 ≤ 70368744177664) (
.ob (9 = 9 ∧ 0 ≤ (0 : Int) ∧ (0 : Int) < ((1 : Nat) : Int)) (
.ob (9 = 9 ∧ 0 ≤ (0 : Int) ∧ (0 : Int) < ((1 : Nat) : Int)) (
.leaf (.normal, SNLS2_0 a b body (vi 0) (vi 2) (vi 2) (.int .u32 2) (vi 1) (vi (dealL (fineO a) (fineO b)).baud) (vi 200) (vi (dealL (fineO a) (fineO b)).win) (vi (dealL (fineO a) (fineO b)).size) (.ptr 330 0) (vi 70) (vi 1) (.bool false) (vi 1)))))))))))))))
set_option maxRecDepth 1000000 in
theorem treeLS2_0_0_eq (a : Gw.Offer) (b : Gw.Offer) (body : Str) (j : Nat) : rnd (orcsLS2_0 a b body (.c0 j)) (stsLS2_0 (.c0 j)) (orcLS2_0 a b body (.c0 j)) (stLS2_0 (.c0 j)) noLt 0 lpLS2_0 ((loopLS2_0 a b body).t0 (.c0 j)) [] ((loopLS2_0 a b body).h0 (.c0 j)) (loopLS2_0 a b body).end_ = treeLS2_0_0 a b body j := by kernel_rfl
def treeLS2_0_1 (a : Gw.Offer) (b : Gw.Offer) (body : Str) (j : Nat) : DT (Ex × Snap) :=
  .ob (binV .leq (vi (2 + (j : Int))) (vi 200) = some (.bool true)) (
.ob (binV .add (vi (1 + (j : Int))) (vi 1) = some (vi (2 + (j : Int)))) (
.ob (binV .geq (vi (2 + (j : Int))) (vi 200) = some (.bool false)) (
.ob (binV .eql (vi (70 - (j : Int))) (vi 0) = some (.bool false)) (
.ob (binV .sub (vi (70 - (j : Int))) (vi 1) = some (vi (69 - (j : Int)))) (
.ob (binV .gtr (vi (69 - (j : Int))) (vi 0) = some (.bool true)) (
.ob (binV .add (vi (2 + (j : Int))) (vi 1) = some (vi (3 + (j : Int)))) (
.leaf (.normal, SNLS2_0 a b body (vi 0) (vi (3 + (j : Int))) (vi 2) (.int .u32 2) (vi 1) (vi (dealL (fineO a) (fineO b)).baud) (vi 200) (vi (dealL (fineO a) (fineO b)).win) (vi (dealL (fineO a) (fineO b)).size) (.ptr 330 0) (vi (69 - (j : Int))) (vi (2 + (j : Int))) (.bool false) (vi 1)))))))))
set_option maxRecDepth 1000000 in
theorem treeLS2_0_1_eq (a : Gw.Offer) (b : Gw.Offer) (body : Str) (j : Nat) : rnd (orcsLS2_0 a b body (.c1 j)) (stsLS2_0 (.c1 j)) (orcLS2_0 a b body (.c1 j)) (stLS2_0 (.c1 j)) noLt 0 lpLS2_0 ((loopLS2_0 a b body).t0 (.c1 j)) [] ((loopLS2_0 a b body).h0 (.c1 j)) (loopLS2_0 a b body).end_ = treeLS2_0_1 a b body j := by kernel_rfl
def treeLS2_0_2 (a : Gw.Offer) (b : Gw.Offer) (body : Str) (j : Nat) : DT (Ex × Snap) :=
  .ob (((V.beq (vi 1) (vi 1)) && true) = true) (
.ob (minV (vi (if (7 : Int) < (if (1 : Int) > (dealL (fineO a) (fineO b)).win then 1 else (dealL (fineO a) (fineO b)).win) then 7 else (if (1 : Int) > (dealL (fineO a) (fineO b)).win then 1 else (dealL (fineO a) (fineO b)).win))) [(vi 1)] = some (vi 1)) (
.ob (IntKind.i64 = IntKind.i64 ∧ (8 : Int) ≠ 0) (
.ob (IntKind.i64 = IntKind.i64 ∧ (8 : Int) ≠ 0) (
.ob (IntKind.i64 = IntKind.i64 ∧ (8 : Int) ≠ 0) (
.ob (IntKind.i64 = IntKind.i64 ∧ (8 : Int) ≠ 0) (
.ob ((1 = 1 ∧ ([vi 0] : List V).length = 1 * 1) ∧ allOne [vi 0] = true ∧ 1 * 8 ≤ 70368744177664) (
.ob (1 = 1 ∧ (0 ≤ (1 : Int) ∧ (1 : Int) ≤ ((1 : Nat) : Int)) ∧ (True)) (
.ob (1 = 1 ∧ 0 ≤ (0 : Int) ∧ (0 : Int) < ((1 : Nat) : Int)) (
.ob (1 = 1 ∧ 0 ≤ (0 : Int) ∧ (0 : Int) < ((1 : Nat) : Int)) (
.ob ((9 = 9 ∧ ([vi 0, vi 0, .bool true, vi 1, vi 0, vi 0, vi 0, .bool false, .str (cut8 body)] : List V).length = 1 * 9) ∧ allOne [vi 0, vi 0, .bool true, vi 1, vi 0, vi 0, vi 0, .bool false, .str (cut8 body)] = true ∧ 1 * 80 ≤ 70368744177664) (
.ob (9 = 9 ∧ 0 ≤ (0 : Int) ∧ (0 : Int) < ((1 : Nat) : Int)) (
.ob (9 = 9 ∧ 0 ≤ (0 : Int) ∧ (0 : Int) < ((1 : Nat) : Int)) (
.leaf (.normal, SNLS2_0 a b body (vi 0) (vi 72) (vi 2) (.int .u32 2) (vi 1) (vi (dealL (fineO a) (fineO b)).baud) (vi 200) (vi (dealL (fineO a) (fineO b)).win) (vi (dealL (fineO a) (fineO b)).size) (.ptr 330 0) (vi 70) (vi 71) (.bool false) (vi 1)))))))))))))))
set_option maxRecDepth 1000000 in
theorem treeLS2_0_2_eq (a : Gw.Offer) (b : Gw.Offer) (body : Str) (j : Nat) : rnd (orcsLS2_0 a b body (.c2 j)) (stsLS2_0 (.c2 j)) (orcLS2_0 a b body (.c2 j)) (stLS2_0 (.c2 j)) noLt 0 lpLS2_0 ((loopLS2_0 a b body).t0 (.c2 j)) [] ((loopLS2_0 a b body).h0 (.c2 j)) (loopLS2_0 a b body).end_ = treeLS2_0_2 a b body j := by kernel_rfl
def treeLS2_0_3 (a : Gw.Offer) (b : Gw.Offer) (body : Str) (j : Nat) : DT (Ex × Snap) :=
  .ob (binV .leq (vi (72 + (j : Int))) (vi 200) = some (.bool true)) (
.ob (binV .add (vi (71 + (j : Int))) (vi 1) = some (vi (72 + (j : Int)))) (
.ob (binV .geq (vi (72 + (j : Int))) (vi 200) = some (.bool false)) (
.ob (binV .eql (vi (70 - (j : Int))) (vi 0) = some (.bool false)) (
.ob (binV .sub (vi (70 - (j : Int))) (vi 1) = some (vi (69 - (j : Int)))) (
.ob (binV .gtr (vi (69 - (j : Int))) (vi 0) = some (.bool true)) (
.ob (binV .add (vi (72 + (j : Int))) (vi 1) = some (vi (73 + (j : Int)))) (
.leaf (.normal, SNLS2_0 a b body (vi 0) (vi (73 + (j : Int))) (vi 2) (.int .u32 2) (vi 1) (vi (dealL (fineO a) (fineO b)).baud) (vi 200) (vi (dealL (fineO a) (fineO b)).win) (vi (dealL (fineO a) (fineO b)).size) (.ptr 330 0) (vi (69 - (j : Int))) (vi (72 + (j : Int))) (.bool false) (vi 1)))))))))
set_option maxRecDepth 1000000 in
theorem treeLS2_0_3_eq (a : Gw.Offer) (b : Gw.Offer) (body : Str) (j : Nat) : rnd (orcsLS2_0 a b body (.c3 j)) (stsLS2_0 (.c3 j)) (orcLS2_0 a b body (.c3 j)) (stLS2_0 (.c3 j)) noLt 0 lpLS2_0 ((loopLS2_0 a b body).t0 (.c3 j)) [] ((loopLS2_0 a b body).h0 (.c3 j)) (loopLS2_0 a b body).end_ = treeLS2_0_3 a b body j := by kernel_rfl
def treeLS2_0_4 (a : Gw.Offer) (b : Gw.Offer) (body : Str) (j : Nat) : DT (Ex × Snap) :=
  .ob (((V.beq (vi 1) (vi 1)) && true) = true) (
.ob (minV (vi (if (7 : Int) < (if (1 : Int) > (dealL (fineO a) (fineO b)).win then 1 else (dealL (fineO a) (fineO b)).win) then 7 else (if (1 : Int) > (dealL (fineO a) (fineO b)).win then 1 else (dealL (fineO a) (fineO b)).win))) [(vi 1)] = some (vi 1)) (
.ob (IntKind.i64 = IntKind.i64 ∧ (8 : Int) ≠ 0) (
.ob (IntKind.i64 = IntKind.i64 ∧ (8 : Int) ≠ 0) (
.ob (IntKind.i64 = IntKind.i64 ∧ (8 : Int) ≠ 0) (
.ob (IntKind.i64 = IntKind.i64 ∧ (8 : Int) ≠ 0) (
.ob ((1 = 1 ∧ ([vi 0] : List V).length = 1 * 1) ∧ allOne [vi 0] = true ∧ 1 * 8 ≤ 70368744177664) (
.ob (1 = 1 ∧ (0 ≤ (1 : Int) ∧ (1 : Int) ≤ ((1 : Nat) : Int)) ∧ (True)) (
.ob (1 = 1 ∧ 0 ≤ (0 : Int) ∧ (0 : Int) < ((1 : Nat) : Int)) (
.ob (1 = 1 ∧ 0 ≤ (0 : Int) ∧ (0 : Int) < ((1 : Nat) : Int)) (
.ob ((9 = 9 ∧ ([vi 0, vi 0, .bool true, vi 1, vi 0, vi 0, vi 0, .bool false, .str (cut8 body)] : List V).length = 1 * 9) ∧ allOne [vi 0, vi 0, .bool true, vi 1, vi 0, vi 0, vi 0, .bool false, .str (cut8 body)] = true ∧ 1 * 80 ≤ 70368744177664) (
.ob (9 = 9 ∧ 0 ≤ (0 : Int) ∧ (0 : Int) < ((1 : Nat) : Int)) (
.ob (9 = 9 ∧ 0 ≤ (0 : Int) ∧ (0 : Int) < ((1 : Nat) : Int)) (
.leaf (.normal, SNLS2_0 a b body (vi 0) (vi 142) (vi 2) (.int .u32 2) (vi 1) (vi (dealL (fineO a) (fineO b)).baud) (vi 200) (vi (dealL (fineO a) (fineO b)).win) (vi (dealL (fineO a) (fineO b)).size) (.ptr 330 0) (vi 70) (vi 141) (.bool false) (vi 1)))))))))))))))
set_option maxRecDepth 1000000 in
theorem treeLS2_0_4_eq (a : Gw.Offer) (b : Gw.Offer) (body : Str) (j : Nat) : rnd (orcsLS2_0 a b body (.c4 j)) (stsLS2_0 (.c4 j)) (orcLS2_0 a b body (.c4 j)) (stLS2_0 (.c4 j)) noLt 0 lpLS2_0 ((loopLS2_0 a b body).t0 (.c4 j)) [] ((loopLS2_0 a b body).h0 (.c4 j)) (loopLS2_0 a b body).end_ = treeLS2_0_4 a b body j := by kernel_rfl
def treeLS2_0_5 (a : Gw.Offer) (b : Gw.Offer) (body : Str) (j : Nat) : DT (Ex × Snap) :=
  .ob (binV .leq (vi (142 + (j : Int))) (vi 200) = some (.bool true)) (
.ob (binV .add (vi (141 + (j : Int))) (vi 1) = some (vi (142 + (j : Int)))) (
.ob (binV .geq (vi (142 + (j : Int))) (vi 200) = some (.bool false)) (
.ob (binV .eql (vi (70 - (j : Int))) (vi 0) = some (.bool false)) (
.ob (binV .sub (vi (70 - (j : Int))) (vi 1) = some (vi (69 - (j : Int)))) (
.ob (binV .gtr (vi (69 - (j : Int))) (vi 0) = some (.bool true)) (
.ob (binV .add (vi (142 + (j : Int))) (vi 1) = some (vi (143 + (j : Int)))) (
.leaf (.normal, SNLS2_0 a b body (vi 0) (vi (143 + (j : Int))) (vi 2) (.int .u32 2) (vi 1) (vi (dealL (fineO a) (fineO b)).baud) (vi 200) (vi (dealL (fineO a) (fineO b)).win) (vi (dealL (fineO a) (fineO b)).size) (.ptr 330 0) (vi (69 - (j : Int))) (vi (142 + (j : Int))) (.bool false) (vi 1)))))))))
set_option maxRecDepth 1000000 in
theorem treeLS2_0_5_eq (a : Gw.Offer) (b : Gw.Offer) (body : Str) (j : Nat) : rnd (orcsLS2_0 a b body (.c5 j)) (stsLS2_0 (.c5 j)) (orcLS2_0 a b body (.c5 j)) (stLS2_0 (.c5 j)) noLt 0 lpLS2_0 ((loopLS2_0 a b body).t0 (.c5 j)) [] ((loopLS2_0 a b body).h0 (.c5 j)) (loopLS2_0 a b body).end_ = treeLS2_0_5 a b body j := by kernel_rfl
def treeLS2_0_6 (a : Gw.Offer) (b : Gw.Offer) (body : Str) (j : Nat) : DT (Ex × Snap) :=
  .ob (4 = 4 ∧ 0 ≤ (0 : Int) ∧ (0 : Int) < ((1 : Nat) : Int)) (
.ob (4 = 4 ∧ 0 ≤ (0 : Int) ∧ (0 : Int) < ((1 : Nat) : Int)) (
.leaf (.normal, SNLS2_0 a b body (vi 1) (vi 201) (vi 0) (.int .u32 0) (vi 0) (vi 0) (vi 0) (vi 0) (vi 0) (.nilp) (vi 0) (vi 0) (.bool false) (vi 1))))
set_option maxRecDepth 1000000 in
theorem treeLS2_0_6_eq (a : Gw.Offer) (b : Gw.Offer) (body : Str) (j : Nat) : rnd (orcsLS2_0 a b body (.c6 j)) (stsLS2_0 (.c6 j)) (orcLS2_0 a b body (.c6 j)) (stLS2_0 (.c6 j)) noLt 0 lpLS2_0 ((loopLS2_0 a b body).t0 (.c6 j)) [] ((loopLS2_0 a b body).h0 (.c6 j)) (loopLS2_0 a b body).end_ = treeLS2_0_6 a b body j := by kernel_rfl
def treeLS2_0_7 (a : Gw.Offer) (b : Gw.Offer) (body : Str) (j : Nat) : DT (Ex × Snap) :=
  .leaf ((.exit 0), XLS2_0 a b body)
set_option maxRecDepth 1000000 in
theorem treeLS2_0_7_eq (a : Gw.Offer) (b : Gw.Offer) (body : Str) (j : Nat) : rnd (orcsLS2_0 a b body (.c7 j)) (stsLS2_0 (.c7 j)) (orcLS2_0 a b body (.c7 j)) (stLS2_0 (.c7 j)) noLt 0 lpLS2_0 ((loopLS2_0 a b body).t0 (.c7 j)) [] ((loopLS2_0 a b body).h0 (.c7 j)) (loopLS2_0 a b body).end_ = treeLS2_0_7 a b body j := by kernel_rfl
def treeLS2_0L (a : Gw.Offer) (b : Gw.Offer) (body : Str) (i : ILS2_0) : DT (Ex × Snap) := match i with
  | .c0 j => treeLS2_0_0 a b body j
  | .c1 j => treeLS2_0_1 a b body j
  | .c2 j => treeLS2_0_2 a b body j
  | .c3 j => treeLS2_0_3 a b body j
  | .c4 j => treeLS2_0_4 a b body j
  | .c5 j => treeLS2_0_5 a b body j
  | .c6 j => treeLS2_0_6 a b body j
  | .c7 j => treeLS2_0_7 a b body j
theorem roundLS2_0 (a : Gw.Offer) (b : Gw.Offer) (body : Str) (hwa : loL (fineO a).wait = 2) (hwb : loL (fineO b).wait = 0) (i : ILS2_0) (Pr : Ex × Snap → Prop) (h : ((loopLS2_0 a b body).out i).sat Pr) : (treeLS2_0L a b body i).sat ((loopLS2_0 a b body).next muLS2_0 i Pr) := by
  match i with
  | .c0 j =>
    have hj : j < 1 := h.1
    have hX := h.2
    obtain rfl : j = 0 := by omega
    exact sat_ob (by simp only [V.beq_refl, Bool.and_true]) (
sat_ob (min1 _) (
sat_ob (by decide) (
sat_ob (by decide) (
sat_ob (by decide) (
sat_ob (by decide) (
sat_ob (by decide) (
sat_ob (by decide) (
sat_ob (by decide) (
sat_ob (by decide) (
sat_ob (by first | rfl | simp [V.beq, V.beqs, allOne, V.one, byteVs, binV, binI, eqV, eqCells]) (
sat_ob (by decide) (
sat_ob (by decide) (
sat_leaf (⟨.c1 0, by kernel_rfl, (by show 201 - (1 + 0) < 201 - (0 + 0); omega), ⟨(show 0 < 69 by decide), hX⟩⟩))))))))))))))
  | .c1 j =>
    have hj : j < 69 := h.1
    have hX := h.2
    exact sat_ob (by simp [binV, binI]; omega) (
sat_ob (by show some (V.int .i64 (wrapK .i64 ((1 + (j : Int)) + 1))) = _; rw [wrap_small (by omega), show ((1 + (j : Int)) + 1) = (2 + (j : Int)) by omega]) (
sat_ob (by simp [binV, binI]; omega) (
sat_ob (by simp [binV, binI]; omega) (
sat_ob (by show some (V.int .i64 (wrapK .i64 ((70 - (j : Int)) - 1))) = _; rw [wrap_small (by omega), show ((70 - (j : Int)) - 1) = (69 - (j : Int)) by omega]) (
sat_ob (by simp [binV, binI]; omega) (
sat_ob (by show some (V.int .i64 (wrapK .i64 ((2 + (j : Int)) + 1))) = _; rw [wrap_small (by omega), show ((2 + (j : Int)) + 1) = (3 + (j : Int)) by omega]) (
sat_leaf (if h2 : j + 1 < 69 then ⟨.c1 (j + 1), (by show SNLS2_0 a b body (vi 0) (vi (3 + (j : Int))) (vi 2) (.int .u32 2) (vi 1) (vi (dealL (fineO a) (fineO b)).baud) (vi 200) (vi (dealL (fineO a) (fineO b)).win) (vi (dealL (fineO a) (fineO b)).size) (.ptr 330 0) (vi (69 - (j : Int))) (vi (2 + (j : Int))) (.bool false) (vi 1) = SNLS2_0 a b body (vi 0) (vi (2 + ((j + 1 : Nat) : Int))) (vi 2) (.int .u32 2) (vi 1) (vi (dealL (fineO a) (fineO b)).baud) (vi 200) (vi (dealL (fineO a) (fineO b)).win) (vi (dealL (fineO a) (fineO b)).size) (.ptr 330 0) (vi (70 - ((j + 1 : Nat) : Int))) (vi (1 + ((j + 1 : Nat) : Int))) (.bool false) (vi 1); rw [show ((1 + ((j + 1 : Nat) : Int)) : Int) = (2 + (j : Int)) by omega, show ((2 + ((j + 1 : Nat) : Int)) : Int) = (3 + (j : Int)) by omega, show ((70 - ((j + 1 : Nat) : Int)) : Int) = (69 - (j : Int)) by omega]), (by show 201 - (1 + (j + 1)) < 201 - (1 + j); omega), ⟨h2, hX⟩⟩ else by
    obtain rfl : j = 68 := by omega
    exact ⟨.c2 0, by kernel_rfl, (by show 201 - (70 + 0) < 201 - (1 + 68); omega), ⟨(show 0 < 1 by decide), hX⟩⟩))))))))
  | .c2 j =>
    have hj : j < 1 := h.1
    have hX := h.2
    obtain rfl : j = 0 := by omega
    exact sat_ob (by simp only [V.beq_refl, Bool.and_true]) (
sat_ob (min1 _) (
sat_ob (by decide) (
sat_ob (by decide) (
sat_ob (by decide) (
sat_ob (by decide) (
sat_ob (by decide) (
sat_ob (by decide) (
sat_ob (by decide) (
sat_ob (by decide) (
sat_ob (by first | rfl | simp [V.beq, V.beqs, allOne, V.one, byteVs, binV, binI, eqV, eqCells]) (
sat_ob (by decide) (
sat_ob (by decide) (
sat_leaf (⟨.c3 0, by kernel_rfl, (by show 201 - (71 + 0) < 201 - (70 + 0); omega), ⟨(show 0 < 69 by decide), hX⟩⟩))))))))))))))
  | .c3 j =>
    have hj : j < 69 := h.1
    have hX := h.2
    exact sat_ob (by simp [binV, binI]; omega) (
sat_ob (by show some (V.int .i64 (wrapK .i64 ((71 + (j : Int)) + 1))) = _; rw [wrap_small (by omega), show ((71 + (j : Int)) + 1) = (72 + (j : Int)) by omega]) (
sat_ob (by simp [binV, binI]; omega) (
sat_ob (by simp [binV, binI]; omega) (
sat_ob (by show some (V.int .i64 (wrapK .i64 ((70 - (j : Int)) - 1))) = _; rw [wrap_small (by omega), show ((70 - (j : Int)) - 1) = (69 - (j : Int)) by omega]) (
sat_ob (by simp [binV, binI]; omega) (
sat_ob (by show some (V.int .i64 (wrapK .i64 ((72 + (j : Int)) + 1))) = _; rw [wrap_small (by omega), show ((72 + (j : Int)) + 1) = (73 + (j : Int)) by omega]) (
sat_leaf (if h2 : j + 1 < 69 then ⟨.c3 (j + 1), (by show SNLS2_0 a b body (vi 0) (vi (73 + (j : Int))) (vi 2) (.int .u32 2) (vi 1) (vi (dealL (fineO a) (fineO b)).baud) (vi 200) (vi (dealL (fineO a) (fineO b)).win) (vi (dealL (fineO a) (fineO b)).size) (.ptr 330 0) (vi (69 - (j : Int))) (vi (72 + (j : Int))) (.bool false) (vi 1) = SNLS2_0 a b body (vi 0) (vi (72 + ((j + 1 : Nat) : Int))) (vi 2) (.int .u32 2) (vi 1) (vi (dealL (fineO a) (fineO b)).baud) (vi 200) (vi (dealL (fineO a) (fineO b)).win) (vi (dealL (fineO a) (fineO b)).size) (.ptr 330 0) (vi (70 - ((j + 1 : Nat) : Int))) (vi (71 + ((j + 1 : Nat) : Int))) (.bool false) (vi 1); rw [show ((70 - ((j + 1 : Nat) : Int)) : Int) = (69 - (j : Int)) by omega, show ((71 + ((j + 1 : Nat) : Int)) : Int) = (72 + (j : Int)) by omega, show ((72 + ((j + 1 : Nat) : Int)) : Int) = (73 + (j : Int)) by omega]), (by show 201 - (71 + (j + 1)) < 201 - (71 + j); omega), ⟨h2, hX⟩⟩ else by
    obtain rfl : j = 68 := by omega
    exact ⟨.c4 0, by kernel_rfl, (by show 201 - (140 + 0) < 201 - (71 + 68); omega), ⟨(show 0 < 1 by decide), hX⟩⟩))))))))
  | .c4 j =>
    have hj : j < 1 := h.1
    have hX := h.2
    obtain rfl : j = 0 := by omega
    exact sat_ob (by simp only [V.beq_refl, Bool.and_true]) (
sat_ob (min1 _) (
sat_ob (by decide) (
sat_ob (by decide) (
sat_ob (by decide) (
sat_ob (by decide) (
sat_ob (by decide) (
sat_ob (by decide) (
sat_ob (by decide) (
sat_ob (by decide) (
sat_ob (by first | rfl | simp [V.beq, V.beqs, allOne, V.one, byteVs, binV, binI, eqV, eqCells]) (
sat_ob (by decide) (
sat_ob (by decide) (
sat_leaf (⟨.c5 0, by kernel_rfl, (by show 201 - (141 + 0) < 201 - (140 + 0); omega), ⟨(show 0 < 58 by decide), hX⟩⟩))))))))))))))
  | .c5 j =>
    have hj : j < 58 := h.1
    have hX := h.2
    exact sat_ob (by simp [binV, binI]; omega) (
sat_ob (by show some (V.int .i64 (wrapK .i64 ((141 + (j : Int)) + 1))) = _; rw [wrap_small (by omega), show ((141 + (j : Int)) + 1) = (142 + (j : Int)) by omega]) (
sat_ob (by simp [binV, binI]; omega) (
sat_ob (by simp [binV, binI]; omega) (
sat_ob (by show some (V.int .i64 (wrapK .i64 ((70 - (j : Int)) - 1))) = _; rw [wrap_small (by omega), show ((70 - (j : Int)) - 1) = (69 - (j : Int)) by omega]) (
sat_ob (by simp [binV, binI]; omega) (
sat_ob (by show some (V.int .i64 (wrapK .i64 ((142 + (j : Int)) + 1))) = _; rw [wrap_small (by omega), show ((142 + (j : Int)) + 1) = (143 + (j : Int)) by omega]) (
sat_leaf (if h2 : j + 1 < 58 then ⟨.c5 (j + 1), (by show SNLS2_0 a b body (vi 0) (vi (143 + (j : Int))) (vi 2) (.int .u32 2) (vi 1) (vi (dealL (fineO a) (fineO b)).baud) (vi 200) (vi (dealL (fineO a) (fineO b)).win) (vi (dealL (fineO a) (fineO b)).size) (.ptr 330 0) (vi (69 - (j : Int))) (vi (142 + (j : Int))) (.bool false) (vi 1) = SNLS2_0 a b body (vi 0) (vi (142 + ((j + 1 : Nat) : Int))) (vi 2) (.int .u32 2) (vi 1) (vi (dealL (fineO a) (fineO b)).baud) (vi 200) (vi (dealL (fineO a) (fineO b)).win) (vi (dealL (fineO a) (fineO b)).size) (.ptr 330 0) (vi (70 - ((j + 1 : Nat) : Int))) (vi (141 + ((j + 1 : Nat) : Int))) (.bool false) (vi 1); rw [show ((141 + ((j + 1 : Nat) : Int)) : Int) = (142 + (j : Int)) by omega, show ((142 + ((j + 1 : Nat) : Int)) : Int) = (143 + (j : Int)) by omega, show ((70 - ((j + 1 : Nat) : Int)) : Int) = (69 - (j : Int)) by omega]), (by show 201 - (141 + (j + 1)) < 201 - (141 + j); omega), ⟨h2, hX⟩⟩ else by
    obtain rfl : j = 57 := by omega
    exact ⟨.c6 0, by kernel_rfl, (by show 201 - (199 + 0) < 201 - (141 + 57); omega), ⟨(show 0 < 1 by decide), hX⟩⟩))))))))
  | .c6 j =>
    have hj : j < 1 := h.1
    have hX := h.2
    obtain rfl : j = 0 := by omega
    exact sat_ob (by decide) (
sat_ob (by decide) (
sat_leaf (⟨.c7 0, by kernel_rfl, (by show 201 - (200 + 0) < 201 - (199 + 0); omega), ⟨(show 0 < 1 by decide), hX⟩⟩)))
  | .c7 j =>
    have hj : j < 1 := h.1
    have hX := h.2
    obtain rfl : j = 0 := by omega
    exact sat_leaf (hX)
theorem ltLS2_0_ok (a : Gw.Offer) (b : Gw.Offer) (body : Str) (hwa : loL (fineO a).wait = 2) (hwb : loL (fineO b).wait = 0) (hint : Nat → List Nat) : Lt1 Tryz.prog hint 3 (loopLS2_0 a b body).lt lpLS2_0 :=
  LoopD.lt1c mixed (show TabX Tryz.prog noPX oxM from tabM) tabD (loopLS2_0 a b body) muLS2_0 (fun ex => match ex with | .normal => ⟨show 3 ≤ 378 by decide, show 3 ≤ 378 by decide⟩ | .exit _ => ⟨show 3 ≤ 378 by decide, show 3 ≤ 378 by decide⟩ | .ret => ⟨show 3 ≤ 378 by decide, show 3 ≤ 378 by decide⟩) (orcs := orcsLS2_0 a b body) (sts := stsLS2_0) (orc := orcLS2_0 a b body) (st := stLS2_0) (tree := treeLS2_0L a b body)
    (fun i => match i with
    | .c0 j => treeLS2_0_0_eq a b body j
    | .c1 j => treeLS2_0_1_eq a b body j
    | .c2 j => treeLS2_0_2_eq a b body j
    | .c3 j => treeLS2_0_3_eq a b body j
    | .c4 j => treeLS2_0_4_eq a b body j
    | .c5 j => treeLS2_0_5_eq a b body j
    | .c6 j => treeLS2_0_6_eq a b body j
    | .c7 j => treeLS2_0_7_eq a b body j) (roundLS2_0 a b body hwa hwb)
def oxLS2_0 (a : Gw.Offer) (b : Gw.Offer) (body : Str) : OTab := (consT 46 (gD dGet pGet (fun n => match n with | 138 => some (.tup [.agg [.int .u32 1, .int .u32 2, vi 0, vi 1, vi (fineO a).baud, vi (fineO a).silent, vi (fineO a).win, vi (fineO a).size, vi (fineO a).wait], .bool true]) | 298 => some (.tup [.agg [.int .u32 2, .int .u32 1, vi 0, vi 1, vi (fineO b).baud, vi (fineO b).silent, vi (fineO b).win, vi (fineO b).size, vi (fineO b).wait], .bool true]) | _ => none)) (consT 70 (gD dPut pPut noV) (consT 47 (gDT kT0 kT1 kT2 dDeal pDeal (fun n => match n with | 151 => some (.tup [.agg (dv b a 2), .bool true]) | 311 => some (.tup [.agg (dv a b 0), .bool true]) | _ => none)) (consT 43 (gD dOff pMayQ (fun n => match n with | 12 => some (.bool true) | 20 => some (.bool true) | _ => none)) (consT 10 (gD dOff pFine noV) (consO 9 (gTrue kT0 kT1 kT2) noOX))))))
def treeLS2_0 (a : Gw.Offer) (b : Gw.Offer) (body : Str) : DT V :=
  .ob (dOff [.agg a.vs]) (
.ob (((V.beq (.agg b.vs) (.agg b.vs)) && true) = true) (
.ob (dOff [.agg b.vs]) (
.ob (dOff [.agg (fineO a).vs]) (
.ob (pMayQ [.agg (fineO a).vs] = (.bool true)) (
.ob (((V.beq (.agg (fineO b).vs) (.agg (fineO b).vs)) && true) = true) (
.ob (dOff [.agg (fineO b).vs]) (
.ob (pMayQ [.agg (fineO b).vs] = (.bool true)) (
.ob (True) (
.ob (IntKind.i64 = IntKind.i64 ∧ (250 : Int) ≠ 0) (
.ob (((V.beq (.int .u32 2) (.int .u32 2)) && true) = true) (
.ob (((V.beq (.int .u32 2) (.int .u32 2)) && true) = true) (
.ob (dPut [.agg [.int .u32 1, .int .u32 2, vi 0, vi 1, vi (fineO a).baud, vi (fineO a).silent, vi (fineO a).win, vi (fineO a).size, vi (fineO a).wait]]) (
.ob (9 = 9 ∧ 0 ≤ (0 : Int) ∧ (0 : Int) < ((1 : Nat) : Int)) (
.ob (Gw.lenStr (.str (setupStr ⟨1, 2, 0, 1, (fineO a)⟩)) = some (vi 25)) (
.ob (Gw.lenStr (.str (setupStr ⟨1, 2, 0, 1, (fineO a)⟩)) = some (vi 25)) (
.ob (((V.beq (.str (setupStr ⟨1, 2, 0, 1, (fineO a)⟩)) (.str (setupStr ⟨1, 2, 0, 1, (fineO a)⟩))) && ((V.beq (.bool true) (.bool true)) && ((V.beq (.agg [vi 127, vi 255]) (.agg [vi 127, vi 255])) && true))) = true) (
.ob (((V.beq (vi 2) (vi 2)) && true) = true) (
.ob (((V.beq (.agg [vi 127, vi 255, .bool true, vi 3, vi 2, vi 0, vi 0, .bool true, .str (setupStr ⟨1, 2, 0, 1, (fineO a)⟩)]) (.agg [vi 127, vi 255, .bool true, vi 3, vi 2, vi 0, vi 0, .bool true, .str (setupStr ⟨1, 2, 0, 1, (fineO a)⟩)])) && true) = true) (
.ob (((eqV (.agg [.i, .i, .b, .i, .i, .i, .i, .b, .s]) (.agg [vi 127, vi 255, .bool true, vi 3, vi 2, vi 0, vi 0, .bool true, .str (setupStr ⟨1, 2, 0, 1, (fineO a)⟩)]) (.agg [vi 127, vi 255, .bool true, vi 3, vi 2, vi 0, vi 0, .bool true, .str (setupStr ⟨1, 2, 0, 1, (fineO a)⟩)])).map fun b => V.bool (if true then !b else b)) = some (.bool false)) (
.ob (((V.beq (.agg [vi 127, vi 255]) (.agg [vi 127, vi 255])) && true) = true) (
.ob (True) (
.ob (dGet [.str (setupStr ⟨1, 2, 0, 1, (fineO a)⟩)]) (
.ob (pGet [.str (setupStr ⟨1, 2, 0, 1, (fineO a)⟩)] = (.tup [.agg [.int .u32 1, .int .u32 2, vi 0, vi 1, vi (fineO a).baud, vi (fineO a).silent, vi (fineO a).win, vi (fineO a).size, vi (fineO a).wait], .bool true])) (
.ob (dDeal [.agg (fineO b).vs, .agg (fineO a).vs]) (
.ob (pDeal [.agg (fineO b).vs, .agg (fineO a).vs] = (.tup [.agg (dv b a 2), .bool true])) (
.ob (((V.beq (vi (dealL (fineO b) (fineO a)).size) (vi (dealL (fineO b) (fineO a)).size)) && true) = true) (
.ob (((V.beq (vi (dealL (fineO b) (fineO a)).size) (vi (dealL (fineO b) (fineO a)).size)) && true) = true) (
.ob (((V.beq (.agg (dv b a 2)) (.agg (dv b a 2))) && ((V.beq (.agg [vi 0, vi 1]) (.agg [vi 0, vi 1])) && true)) = true) (
.ob (((V.beq (.agg (dv b a 2)) (.agg (dv b a 2))) && ((V.beq (.agg [vi 0, vi 1]) (.agg [vi 0, vi 1])) && true)) = true) (
.ob (((V.beq (.agg (dv b a 2)) (.agg (dv b a 2))) && ((V.beq (.agg [vi 0, vi 1]) (.agg [vi 0, vi 1])) && true)) = true) (
.ob (((V.beq (.agg (dv b a 2)) (.agg (dv b a 2))) && true) = true) (
.ob (((V.beq (vi 2) (vi 2)) && true) = true) (
.ob (((V.beq (vi 2) (vi 2)) && true) = true) (
.ob (((V.beq (vi 2) (vi 2)) && true) = true) (
.ob (dPut [.agg [.int .u32 2, .int .u32 1, vi 0, vi 1, vi (fineO b).baud, vi (fineO b).silent, vi (fineO b).win, vi (fineO b).size, vi (fineO b).wait]]) (
.ob (9 = 9 ∧ 0 ≤ (0 : Int) ∧ (0 : Int) < ((1 : Nat) : Int)) (
.ob (Gw.lenStr (.str (setupStr ⟨2, 1, 0, 1, (fineO b)⟩)) = some (vi 25)) (
.ob (Gw.lenStr (.str (setupStr ⟨2, 1, 0, 1, (fineO b)⟩)) = some (vi 25)) (
.ob (((V.beq (.str (setupStr ⟨2, 1, 0, 1, (fineO b)⟩)) (.str (setupStr ⟨2, 1, 0, 1, (fineO b)⟩))) && ((V.beq (.bool false) (.bool false)) && ((V.beq (.agg [vi 127, vi 255]) (.agg [vi 127, vi 255])) && true))) = true) (
.ob (((V.beq (vi 3) (vi 3)) && true) = true) (
.ob (((V.beq (.agg [vi 127, vi 255, .bool false, vi 3, vi 3, vi 0, vi 0, .bool true, .str (setupStr ⟨2, 1, 0, 1, (fineO b)⟩)]) (.agg [vi 127, vi 255, .bool false, vi 3, vi 3, vi 0, vi 0, .bool true, .str (setupStr ⟨2, 1, 0, 1, (fineO b)⟩)])) && true) = true) (
.ob (((eqV (.agg [.i, .i, .b, .i, .i, .i, .i, .b, .s]) (.agg [vi 127, vi 255, .bool false, vi 3, vi 3, vi 0, vi 0, .bool true, .str (setupStr ⟨2, 1, 0, 1, (fineO b)⟩)]) (.agg [vi 127, vi 255, .bool false, vi 3, vi 3, vi 0, vi 0, .bool true, .str (setupStr ⟨2, 1, 0, 1, (fineO b)⟩)])).map fun b => V.bool (if true then !b else b)) = some (.bool false)) (
.ob (((V.beq (.agg [vi 127, vi 255]) (.agg [vi 127, vi 255])) && true) = true) (
.ob (True) (
.ob (dGet [.str (setupStr ⟨2, 1, 0, 1, (fineO b)⟩)]) (
.ob (pGet [.str (setupStr ⟨2, 1, 0, 1, (fineO b)⟩)] = (.tup [.agg [.int .u32 2, .int .u32 1, vi 0, vi 1, vi (fineO b).baud, vi (fineO b).silent, vi (fineO b).win, vi (fineO b).size, vi (fineO b).wait], .bool true])) (
.ob (dDeal [.agg (fineO a).vs, .agg (fineO b).vs]) (
.ob (pDeal [.agg (fineO a).vs, .agg (fineO b).vs] = (.tup [.agg (dv a b 0), .bool true])) (
.ob (True) (
.ob (((V.beq (vi (dealL (fineO a) (fineO b)).size) (vi (dealL (fineO a) (fineO b)).size)) && true) = true) (
.ob (((V.beq (vi (dealL (fineO a) (fineO b)).size) (vi (dealL (fineO a) (fineO b)).size)) && true) = true) (
.ob (((V.beq (.agg (dv a b 0)) (.agg (dv a b 0))) && ((V.beq (.agg [vi 0, vi 1]) (.agg [vi 0, vi 1])) && true)) = true) (
.ob (((V.beq (.agg (dv a b 0)) (.agg (dv a b 0))) && ((V.beq (.agg [vi 0, vi 1]) (.agg [vi 0, vi 1])) && true)) = true) (
.ob (((V.beq (.agg (dv a b 0)) (.agg (dv a b 0))) && ((V.beq (.agg [vi 0, vi 1]) (.agg [vi 0, vi 1])) && true)) = true) (
.ob (((V.beq (.agg (dv a b 0)) (.agg (dv a b 0))) && true) = true) (
.ob (((V.beq (vi 0) (vi 0)) && true) = true) (
.ob (((V.beq (vi 0) (vi 0)) && true) = true) (
.ob (((V.beq (vi 0) (vi 0)) && true) = true) (
.ob ((0 ≤ ((if (8 : Int) < ((body : Str).length : Int) then 8 else ((body : Str).length : Int)) : Int) ∧ ((if (8 : Int) < ((body : Str).length : Int) then 8 else ((body : Str).length : Int)) : Int) ≤ (((body : Str).length : Nat) : Int)) ∧ (True)) (
.ob (((eqV (.agg [.i, .i, .i, .s]) (.agg [vi 3, vi 0, .int .u32 0, .str (cut8 body)]) (.agg [vi 3, vi 0, .int .u32 0, .str (cut8 body)])).map fun b => V.bool (if false then !b else b)) = some (.bool true)) (
.ob (binV .leq (vi (((cut8 body) : Str).length : Int)) (vi 64) = some (.bool true)) (
.ob (binV .gtr (vi (((cut8 body) : Str).length : Int)) (vi (if (64 : Int) < (dealL (fineO a) (fineO b)).size then 64 else (dealL (fineO a) (fineO b)).size)) = some (.bool false)) (
.ob ((1 = 1 ∧ ([.str (cut8 body)] : List V).length = 1 * 1) ∧ allOne [.str (cut8 body)] = true ∧ 1 * 16 ≤ 70368744177664) (
.ob ((SNLS2_0 a b body (vi 0) (vi 1) (vi 2) (.int .u32 2) (vi 1) (vi (dealL (fineO a) (fineO b)).baud) (vi 200) (vi (dealL (fineO a) (fineO b)).win) (vi (dealL (fineO a) (fineO b)).size) (.ptr 330 0) (vi 0) (vi 0) (.bool true) (vi 0) : Snap) = (loopLS2_0 a b body).S (.c0 0)) (
.ob (invLS2_0 (.c0 0)) (
.leaf (.bool true)))))))))))))))))))))))))))))))))))))))))))))))))))))))))))))))))))
set_option maxRecDepth 1000000 in
theorem treeLS2_0_eq (a : Gw.Offer) (b : Gw.Offer) (body : Str) : funT (mkXT (noPX) (oxLS2_0 a b body)) (mkXP (noPX)) (mkX (noPX) (oxLS2_0 a b body)) D (fun g => match g with | 76 => (fun k => match k with | 38 => some fun t h => (match h.n with | 93 => (vi 25, h) | 112 => (vi 25, h) | 253 => (vi 25, h) | _ => (vi 25, h)) | _ => none) | 44 => (fun k => match k with | 52 => some fun t h => (match h.n with | 128 => (.bool false, h) | _ => (.bool false, h)) | _ => none) | 31 => (fun k => match k with | 58 => some fun t h => (.bool true, h) | 63 => some fun t h => (.bool true, h) | _ => none) | 33 => (fun k => match k with | 15 => some fun t h => (.bool false, h) | _ => none) | _ => noOrc) (fun k => match k with | 3 => [21, 41, 108, 112, 117, 122, 127, 132] | 11 => [31, 41, 49, 60, 69, 72, 76] | 12 => [10, 15, 20, 25, 30, 31, 37, 41, 50, 57, 81] | 16 => [15, 22, 31, 52, 58, 74] | 21 => [8, 11, 15, 19, 23] | 22 => [16, 25, 30, 36, 39, 44, 47, 57, 67, 82, 86, 99] | 31 => [10, 33, 34, 40, 44, 49, 52, 58, 63] | 33 => [15] | 35 => [8, 25, 32] | 37 => [28, 30] | 44 => [8, 15, 26, 37, 41, 46, 52] | 48 => [14, 20, 28] | 49 => [13] | 67 => [14] | 71 => [10] | 76 => [11, 16, 20, 25, 30, 34, 39] | 77 => [8, 14, 19, 24, 34, 44] | 104 => [6, 9, 20] | 129 => [8, 19, 30, 34, 38] | 130 => [8, 13, 18, 21] | _ => []) 12 noOrc [21, 41, 108, 112, 117, 122, 127, 132] (ltLS2_0 a b body) (dOf 3) [.agg a.vs, .agg b.vs, .bool true, .str body] (tabH kT0 kT1 kT2 3) (fun v _ => v) = treeLS2_0 a b body := by kernel_rfl
theorem satLS2_0 (a : Gw.Offer) (b : Gw.Offer) (body : Str) (hwa : loL (fineO a).wait = 2) (hwb : loL (fineO b).wait = 0) : (treeLS2_0 a b body).sat fun v => v = .bool true :=
 sat_ob trivial (
sat_ob (by simp only [V.beq_refl, Bool.and_true]) (
sat_ob trivial (
sat_ob trivial (
sat_ob (may_of (mayO_fine a)) (
sat_ob (by simp only [V.beq_refl, Bool.and_true]) (
sat_ob trivial (
sat_ob (may_of (mayO_fine b)) (
sat_ob trivial (
sat_ob (by decide) (
sat_ob (by simp only [V.beq_refl, Bool.and_true]) (
sat_ob (by simp only [V.beq_refl, Bool.and_true]) (
sat_ob (okSet 1 2 0 1 a (by decide) (by decide) (by decide) (by decide)) (
sat_ob (by decide) (
sat_ob rfl (
sat_ob rfl (
sat_ob (by simp only [V.beq_refl, Bool.and_true]) (
sat_ob (by simp only [V.beq_refl, Bool.and_true]) (
sat_ob (by simp only [V.beq_refl, Bool.and_true]) (
sat_ob (by simp [eqV, eqCells]) (
sat_ob (by simp only [V.beq_refl, Bool.and_true]) (
sat_ob trivial (
sat_ob ⟨⟨1, 2, 0, 1, (fineO a)⟩, (okSet 1 2 0 1 a (by decide) (by decide) (by decide) (by decide)), rfl⟩ (
sat_ob (get_put ⟨1, 2, 0, 1, (fineO a)⟩ (okSet 1 2 0 1 a (by decide) (by decide) (by decide) (by decide))) (
sat_ob ⟨(mayO_fine b), (mayO_fine a)⟩ (
sat_ob (by show V.tup [.agg [vi _, vi _, vi _, vi _, vi (loL (fineO a).wait)], .bool true] = _; rw [hwa]; rfl) (
sat_ob (by simp only [V.beq_refl, Bool.and_true]) (
sat_ob (by simp only [V.beq_refl, Bool.and_true]) (
sat_ob (by simp only [V.beq_refl, Bool.and_true]) (
sat_ob (by simp only [V.beq_refl, Bool.and_true]) (
sat_ob (by simp only [V.beq_refl, Bool.and_true]) (
sat_ob (by simp only [V.beq_refl, Bool.and_true]) (
sat_ob (by simp only [V.beq_refl, Bool.and_true]) (
sat_ob (by simp only [V.beq_refl, Bool.and_true]) (
sat_ob (by simp only [V.beq_refl, Bool.and_true]) (
sat_ob (okSet 2 1 0 1 b (by decide) (by decide) (by decide) (by decide)) (
sat_ob (by decide) (
sat_ob rfl (
sat_ob rfl (
sat_ob (by simp only [V.beq_refl, Bool.and_true]) (
sat_ob (by simp only [V.beq_refl, Bool.and_true]) (
sat_ob (by simp only [V.beq_refl, Bool.and_true]) (
sat_ob (by simp [eqV, eqCells]) (
sat_ob (by simp only [V.beq_refl, Bool.and_true]) (
sat_ob trivial (
sat_ob ⟨⟨2, 1, 0, 1, (fineO b)⟩, (okSet 2 1 0 1 b (by decide) (by decide) (by decide) (by decide)), rfl⟩ (
sat_ob (get_put ⟨2, 1, 0, 1, (fineO b)⟩ (okSet 2 1 0 1 b (by decide) (by decide) (by decide) (by decide))) (
sat_ob ⟨(mayO_fine a), (mayO_fine b)⟩ (
sat_ob (by show V.tup [.agg [vi _, vi _, vi _, vi _, vi (loL (fineO b).wait)], .bool true] = _; rw [hwb]; rfl) (
sat_ob trivial (
sat_ob (by simp only [V.beq_refl, Bool.and_true]) (
sat_ob (by simp only [V.beq_refl, Bool.and_true]) (
sat_ob (by simp only [V.beq_refl, Bool.and_true]) (
sat_ob (by simp only [V.beq_refl, Bool.and_true]) (
sat_ob (by simp only [V.beq_refl, Bool.and_true]) (
sat_ob (by simp only [V.beq_refl, Bool.and_true]) (
sat_ob (by simp only [V.beq_refl, Bool.and_true]) (
sat_ob (by simp only [V.beq_refl, Bool.and_true]) (
sat_ob (by simp only [V.beq_refl, Bool.and_true]) (
sat_ob ⟨by split <;> omega, trivial⟩ (
sat_ob (by simp [eqV, eqCells]) (
sat_ob (by have := cut8_len body; simp [binV, binI]; omega) (
sat_ob (gtr8 body (size8 a b)) (
sat_ob (by first | rfl | simp [V.beq, V.beqs, allOne, V.one, byteVs, binV, binI, eqV, eqCells]) (
sat_ob (by kernel_rfl) (
sat_ob (show 0 < 1 by decide) (
sat_leaf (rfl)))))))))))))))))))))))))))))))))))))))))))))))))))))))))))))))))))
theorem loopsLS2_0 : loopsIn 0 (dOf 3).body = [(0, lpLS2_0)] := by kernel_rfl
set_option maxRecDepth 1000000 in
theorem runLS2_0 (a : Gw.Offer) (b : Gw.Offer) (body : Str) (hwa : loL (fineO a).wait = 2) (hwb : loL (fineO b).wait = 0) : Run Tryz.prog 3 [.agg a.vs, .agg b.vs, .bool true, .str body] (tabH kT0 kT1 kT2 3) fun v _ => v = .bool true := by
  refine run_loops mixed (show TabX Tryz.prog noPX (oxLS2_0 a b body) from ((((((TabX.nil.addO ans_begun).addT (ans_fine noV)).addT (ans_may (fun n => match n with | 12 => some (.bool true) | 20 => some (.bool true) | _ => none))).addT (ans_deal (fun n => match n with | 151 => some (.tup [.agg (dv b a 2), .bool true]) | 311 => some (.tup [.agg (dv a b 0), .bool true]) | _ => none))).addT (ans_put noV)).addT (ans_get (fun n => match n with | 138 => some (.tup [.agg [.int .u32 1, .int .u32 2, vi 0, vi 1, vi (fineO a).baud, vi (fineO a).silent, vi (fineO a).win, vi (fineO a).size, vi (fineO a).wait], .bool true]) | 298 => some (.tup [.agg [.int .u32 2, .int .u32 1, vi 0, vi 1, vi (fineO b).baud, vi (fineO b).silent, vi (fineO b).win, vi (fineO b).size, vi (fineO b).wait], .bool true]) | _ => none)))) tabD (dIs (by kernel_rfl)) (lt := ltLS2_0 a b body) (fun hint p hp => ?_) (treeLS2_0_eq a b body) (satLS2_0 a b body hwa hwb)
  rw [loopsLS2_0] at hp
  simp only [List.mem_cons, List.not_mem_nil, or_false] at hp
  subst hp
  exact ltLS2_0_ok a b body hwa hwb hint
inductive ILS2_1
  | c0 (j : Nat)
  | c1 (j : Nat)
  | c2 (j : Nat)
  | c3 (j : Nat)
  | c4 (j : Nat)
  | c5 (j : Nat)
  | c6 (j : Nat)
  | c7 (j : Nat)
  | c8 (j : Nat)
def RWLS2_1 (a : Gw.Offer) (b : Gw.Offer) (body : Str) (w0 : V) (w1 : V) (w2 : V) (w3 : V) (w4 : V) (w5 : V) (w6 : V) (w7 : V) (w8 : V) (w9 : V) (w10 : V) (w11 : V) (w12 : V) (w13 : V) (w14 : V) (w15 : V) : List (Option Blk) := [some (.cells true (zsV .u8 kT0)), some (.cells true (zsV .u8 kT1)), some (.cells true (zsV .u8 kT2)), cF (fineO a).vs, cF (fineO b).vs, none, cF (fineO a).vs, cF (fineO b).vs, none, none, cF (fineO a).vs, none, none, none, none, none, cF [.int .u32 1, vi 0, vi (fineO a).baud, vi (fineO a).silent, vi (fineO a).win, vi (fineO a).size, vi (fineO a).wait, w2, w3, vi 0, w4, w5, w6, w7, w8, w9, w10, vi 1, vi 0, vi 0, vi 0, w11, w12, w13, .bool false, .bool false, .bool false, .nils], none, cF (fineO b).vs, none, none, none, none, none, cF [.int .u32 2, vi 1, vi (fineO b).baud, vi (fineO b).silent, vi (fineO b).win, vi (fineO b).size, vi (fineO b).wait, vi 2, .int .u32 1, vi 0, vi 1, vi (dealL (fineO b) (fineO a)).baud, vi 200, vi (dealL (fineO b) (fineO a)).win, vi (dealL (fineO b) (fineO a)).size, vi 2, .ptr 170 0, vi 0, vi 0, vi 0, vi 0, vi 0, vi 0, vi 3, .bool false, .bool false, .bool false, .nils], none, some (.cells false [vi 2, vi 0, .int .u32 2, .str []]), none, some (.cells false [vi 2, vi 0, .int .u32 2, .str []]), none, none, none, none, some (.cells false [vi 2, vi 0, .int .u32 2, .str []]), none, cF [vi 0, vi 1], none, none, none, none, none, none, cF [vi 127, vi 255, .bool true, vi 3, vi 2, vi 0, vi 0, .bool true, .str (setupStr ⟨1, 2, 0, 1, (fineO a)⟩)], none, none, cF [vi 0, vi 1], cF [vi 127, vi 255, .bool true, vi 3, vi 2, vi 0, vi 0, .bool true, .str (setupStr ⟨1, 2, 0, 1, (fineO a)⟩)], cF [vi 127, vi 255], cF [vi 127, vi 255], cF [vi 127, vi 255, .bool true, vi 3, vi 2, vi 0, vi 0, .bool true, .str (setupStr ⟨1, 2, 0, 1, (fineO a)⟩)], none, none, cF [vi 127, vi 255, .bool true, vi 3, vi 2, vi 0, vi 0, .bool true, .str (setupStr ⟨1, 2, 0, 1, (fineO a)⟩)], none, cF [vi 127, vi 255, .bool true, vi 3, vi 2, vi 0, vi 0, .bool true, .str (setupStr ⟨1, 2, 0, 1, (fineO a)⟩)], none, none, none, none, none, none, some (.cells false [vi 127, vi 255, .bool true, .iface 117 (.agg [vi 2, .bool true]), .str (setupStr ⟨1, 2, 0, 1, (fineO a)⟩)]), none, none, cF [vi 127, vi 255, .bool true, vi 3, vi 2, vi 0, vi 0, .bool true, .str (setupStr ⟨1, 2, 0, 1, (fineO a)⟩)], some (.cells false [vi 127, vi 255, .bool true, .iface 117 (.agg [vi 2, .bool true]), .str (setupStr ⟨1, 2, 0, 1, (fineO a)⟩)]), none, none, none, none, none, none, none, none, some (.cells false [vi 127, vi 255, .bool true, .iface 117 (.agg [vi 2, .bool true]), .str (setupStr ⟨1, 2, 0, 1, (fineO a)⟩)]), none, some (.cells false [vi 127, vi 255, .bool true, .iface 117 (.agg [vi 2, .bool true]), .str (setupStr ⟨1, 2, 0, 1, (fineO a)⟩)]), none, none, none, none, none, none, none, cF [vi 0, vi 0, .bool false], none, none, none, none, cF [vi 127, vi 255], none, cF [vi 2, .bool true], none, some (.cells false [vi 127, vi 255, .bool true, .iface 117 (.agg [vi 2, .bool true]), .str (setupStr ⟨1, 2, 0, 1, (fineO a)⟩)]), cF [vi 127, vi 255, .bool true, vi 3, vi 2, vi 0, vi 0, .bool true, .str (setupStr ⟨1, 2, 0, 1, (fineO a)⟩)], some (.cells false [vi 127, vi 255, .bool true, .iface 117 (.agg [vi 2, .bool true]), .str (setupStr ⟨1, 2, 0, 1, (fineO a)⟩)]), none, none, none, none, none, none, none, cF [vi 0, vi 0, .bool false], none, none, none, none, cF [vi 127, vi 255], none, cF [vi 2, .bool true], none, none, none, none, none, none, none, none, none, none, none, cF [vi 127, vi 255, .bool true, vi 3, vi 2, vi 0, vi 0, .bool true, .str (setupStr ⟨1, 2, 0, 1, (fineO a)⟩)], none, cF [vi 2, .bool true], none, cF [vi 2, .bool true], none, cF [vi 127, vi 255], none, none, none, none, none, none, cF [.int .u32 1, .int .u32 2, vi 0, vi 1, vi (fineO a).baud, vi (fineO a).silent, vi (fineO a).win, vi (fineO a).size, vi (fineO a).wait], none, none, none, none, none, none, none, none, none, none, none, none, cF (dv b a 2), none, none, cF [.int .u32 1, .int .u32 2, vi 0, vi 1, vi (fineO a).baud, vi (fineO a).silent, vi (fineO a).win, vi (fineO a).size, vi (fineO a).wait], cF (dv b a 2), none, cF [vi 0, vi 1], cF (dv b a 2), none, cF (dv b a 2), none, none, none, none, none, none, none, none, none, none, none, none, cF [vi 2, vi (if (64 : Int) < (dealL (fineO b) (fineO a)).size then 64 else (dealL (fineO b) (fineO a)).size), .ptr 176 0, .ptr 179 0, .bool false], none, none, none, none, none, cF [vi (if (7 : Int) < (if (1 : Int) > (dealL (fineO b) (fineO a)).win then 1 else (dealL (fineO b) (fineO a)).win) then 7 else (if (1 : Int) > (dealL (fineO b) (fineO a)).win then 1 else (dealL (fineO b) (fineO a)).win)), .nils, vi 0, vi 0], none, none, cF [vi 0, .bool false], none, none, none, none, none, none, none, some (.cells false [vi 2, .int .u32 1, .str [], .nils]), none, cF [vi 0, vi 1], cF [vi 127, vi 255, .bool false, vi 3, vi 3, vi 0, vi 0, .bool true, .str (setupStr ⟨2, 1, 0, 1, (fineO b)⟩)], cF [vi 127, vi 255], cF [vi 127, vi 255], cF [vi 127, vi 255, .bool false, vi 3, vi 3, vi 0, vi 0, .bool true, .str (setupStr ⟨2, 1, 0, 1, (fineO b)⟩)], cF [vi 127, vi 255, .bool false, vi 3, vi 3, vi 0, vi 0, .bool true, .str (setupStr ⟨2, 1, 0, 1, (fineO b)⟩)], none, none, none, cF [vi 127, vi 255, .bool false, vi 3, vi 3, vi 0, vi 0, .bool true, .str (setupStr ⟨2, 1, 0, 1, (fineO b)⟩)], none, none, none, none, none, none, none, none, none, none, none, none, none, cF [vi 127, vi 255, .bool false, vi 3, vi 3, vi 0, vi 0, .bool true, .str (setupStr ⟨2, 1, 0, 1, (fineO b)⟩)], none, cF [vi 127, vi 255, .bool false, vi 3, vi 3, vi 0, vi 0, .bool true, .str (setupStr ⟨2, 1, 0, 1, (fineO b)⟩)], none, none, none, none, none, none, some (.cells false [vi 127, vi 255, .bool false, .iface 117 (.agg [vi 3, .bool true]), .str (setupStr ⟨2, 1, 0, 1, (fineO b)⟩)]), none, none, cF [vi 127, vi 255, .bool false, vi 3, vi 3, vi 0, vi 0, .bool true, .str (setupStr ⟨2, 1, 0, 1, (fineO b)⟩)], some (.cells false [vi 127, vi 255, .bool false, .iface 117 (.agg [vi 3, .bool true]), .str (setupStr ⟨2, 1, 0, 1, (fineO b)⟩)]), none, none, none, none, none, none, none, none, some (.cells false [vi 127, vi 255, .bool false, .iface 117 (.agg [vi 3, .bool true]), .str (setupStr ⟨2, 1, 0, 1, (fineO b)⟩)]), none, some (.cells false [vi 127, vi 255, .bool false, .iface 117 (.agg [vi 3, .bool true]), .str (setupStr ⟨2, 1, 0, 1, (fineO b)⟩)]), none, none, none, none, none, none, none, cF [vi 0, vi 0, .bool false], none, none, none, none, cF [vi 127, vi 255], none, cF [vi 3, .bool true], none, some (.cells false [vi 127, vi 255, .bool false, .iface 117 (.agg [vi 3, .bool true]), .str (setupStr ⟨2, 1, 0, 1, (fineO b)⟩)]), cF [vi 127, vi 255, .bool false, vi 3, vi 3, vi 0, vi 0, .bool true, .str (setupStr ⟨2, 1, 0, 1, (fineO b)⟩)], some (.cells false [vi 127, vi 255, .bool false, .iface 117 (.agg [vi 3, .bool true]), .str (setupStr ⟨2, 1, 0, 1, (fineO b)⟩)]), none, none, none, none, none, none, none, cF [vi 0, vi 0, .bool false], none, none, none, none, cF [vi 127, vi 255], none, cF [vi 3, .bool true], none, none, none, none, none, none, none, none, none, none, none, cF [vi 127, vi 255, .bool false, vi 3, vi 3, vi 0, vi 0, .bool true, .str (setupStr ⟨2, 1, 0, 1, (fineO b)⟩)], none, cF [vi 3, .bool true], none, cF [vi 3, .bool true], none, cF [vi 127, vi 255], none, none, none, none, none, none, cF [.int .u32 2, .int .u32 1, vi 0, vi 1, vi (fineO b).baud, vi (fineO b).silent, vi (fineO b).win, vi (fineO b).size, vi (fineO b).wait], none, none, none, none, none, none, none, none, none, none, none, none, cF (dv a b 1), none, none, cF [.int .u32 2, .int .u32 1, vi 0, vi 1, vi (fineO b).baud, vi (fineO b).silent, vi (fineO b).win, vi (fineO b).size, vi (fineO b).wait], cF (dv a b 1), none, cF [vi 0, vi 1], cF (dv a b 1), none, cF (dv a b 1), none, none, none, none, none, none, none, none, none, none, none, none, cF [vi 1, vi (if (64 : Int) < (dealL (fineO a) (fineO b)).size then 64 else (dealL (fineO a) (fineO b)).size), .ptr 336 0, .ptr 339 0, w14], none, none, none, none, none, cF [vi (if (7 : Int) < (if (1 : Int) > (dealL (fineO a) (fineO b)).win then 1 else (dealL (fineO a) (fineO b)).win) then 7 else (if (1 : Int) > (dealL (fineO a) (fineO b)).win then 1 else (dealL (fineO a) (fineO b)).win)), .slice 369 0 1 1 none, vi 0, w15], none, none, cF [vi 0, .bool false], none, none, none, none, none, none, none, some (.cells false [vi 2, .int .u32 2, .str [], .nils]), none, cF [vi 3, vi 0, .int .u32 0, .str (cut8 body)], none, cF [vi 3, vi 0, .int .u32 0, .str (cut8 body)], none, none, none, none, cF [vi 3, vi 0, .int .u32 0, .str (cut8 body)], none, none, none, none, none, none, none, cF [.str (cut8 body)], none, none, none, none, cF [.str (cut8 body)], none, none, none, none, cF (dv a b 1), none, none, cF (dv a b 1)]
def SNLS2_1 (a : Gw.Offer) (b : Gw.Offer) (body : Str) (w0 : V) (w1 : V) (w2 : V) (w3 : V) (w4 : V) (w5 : V) (w6 : V) (w7 : V) (w8 : V) (w9 : V) (w10 : V) (w11 : V) (w12 : V) (w13 : V) (w14 : V) (w15 : V) : Snap := ([.agg a.vs, .agg b.vs, .bool true, .str body, .ptr 3 0, .ptr 4 0, .bool true, .ptr 16 0, .ptr 24 0, .ptr 16 0, .ptr 374 0, .int .u32 2, w0, w1, .bool true, .bool true, .bool false, .agg a.vs, .agg (fineO a).vs, .agg b.vs, .agg (fineO b).vs, .tup [.ptr 16 0, .ptr 24 0], .agg (fineO a).vs, .agg (fineO b).vs, .tup [.ptr 16 0, .ptr 24 0], .ptr 16 0, .ptr 24 0, .ptr 16 0, .bool false, .bool false, .ptr 24 0, .bool false, .bool false, .ptr 24 0, .bool true, .ptr 16 0, .ptr 16 0, .str body, .str (cut8 body), .agg [vi 3, vi 0, .int .u32 0, .str (cut8 body)], .ptr 16 0, .agg (dv a b 1), .ptr 16 0, .int .u32 2], RWLS2_1 a b body w0 w1 w2 w3 w4 w5 w6 w7 w8 w9 w10 w11 w12 w13 w14 w15)
def SSLS2_1 (a : Gw.Offer) (b : Gw.Offer) (body : Str) (i : ILS2_1) : Snap := match i with
  | .c0 j => SNLS2_1 a b body (vi 0) (vi 1) (vi 2) (.int .u32 2) (vi 1) (vi (dealL (fineO a) (fineO b)).baud) (vi 200) (vi (dealL (fineO a) (fineO b)).win) (vi (dealL (fineO a) (fineO b)).size) (vi 1) (.ptr 330 0) (vi 0) (vi 1) (vi 0) (.bool true) (vi 0)
  | .c1 j => SNLS2_1 a b body (vi 0) (vi 2) (vi 2) (.int .u32 2) (vi 1) (vi (dealL (fineO a) (fineO b)).baud) (vi 200) (vi (dealL (fineO a) (fineO b)).win) (vi (dealL (fineO a) (fineO b)).size) (vi 1) (.ptr 330 0) (vi 0) (vi 0) (vi 1) (.bool true) (vi 0)
  | .c2 j => SNLS2_1 a b body (vi 0) (vi (3 + (j : Int))) (vi 2) (.int .u32 2) (vi 1) (vi (dealL (fineO a) (fineO b)).baud) (vi 200) (vi (dealL (fineO a) (fineO b)).win) (vi (dealL (fineO a) (fineO b)).size) (vi 1) (.ptr 330 0) (vi (70 - (j : Int))) (vi 0) (vi (2 + (j : Int))) (.bool false) (vi 1)
  | .c3 j => SNLS2_1 a b body (vi 0) (vi 72) (vi 2) (.int .u32 2) (vi 1) (vi (dealL (fineO a) (fineO b)).baud) (vi 200) (vi (dealL (fineO a) (fineO b)).win) (vi (dealL (fineO a) (fineO b)).size) (vi 1) (.ptr 330 0) (vi 1) (vi 0) (vi 71) (.bool false) (vi 1)
  | .c4 j => SNLS2_1 a b body (vi 0) (vi (73 + (j : Int))) (vi 2) (.int .u32 2) (vi 1) (vi (dealL (fineO a) (fineO b)).baud) (vi 200) (vi (dealL (fineO a) (fineO b)).win) (vi (dealL (fineO a) (fineO b)).size) (vi 1) (.ptr 330 0) (vi (70 - (j : Int))) (vi 0) (vi (72 + (j : Int))) (.bool false) (vi 1)
  | .c5 j => SNLS2_1 a b body (vi 0) (vi 142) (vi 2) (.int .u32 2) (vi 1) (vi (dealL (fineO a) (fineO b)).baud) (vi 200) (vi (dealL (fineO a) (fineO b)).win) (vi (dealL (fineO a) (fineO b)).size) (vi 1) (.ptr 330 0) (vi 1) (vi 0) (vi 141) (.bool false) (vi 1)
  | .c6 j => SNLS2_1 a b body (vi 0) (vi (143 + (j : Int))) (vi 2) (.int .u32 2) (vi 1) (vi (dealL (fineO a) (fineO b)).baud) (vi 200) (vi (dealL (fineO a) (fineO b)).win) (vi (dealL (fineO a) (fineO b)).size) (vi 1) (.ptr 330 0) (vi (70 - (j : Int))) (vi 0) (vi (142 + (j : Int))) (.bool false) (vi 1)
  | .c7 j => SNLS2_1 a b body (vi 0) (vi 200) (vi 2) (.int .u32 2) (vi 1) (vi (dealL (fineO a) (fineO b)).baud) (vi 200) (vi (dealL (fineO a) (fineO b)).win) (vi (dealL (fineO a) (fineO b)).size) (vi 1) (.ptr 330 0) (vi 13) (vi 0) (vi 199) (.bool false) (vi 1)
  | .c8 j => SNLS2_1 a b body (vi 1) (vi 201) (vi 0) (.int .u32 0) (vi 0) (vi 0) (vi 0) (vi 0) (vi 0) (vi 0) (.nilp) (vi 0) (vi 0) (vi 0) (.bool false) (vi 1)
def XLS2_1 (a : Gw.Offer) (b : Gw.Offer) (body : Str) : Snap := ([.agg a.vs, .agg b.vs, .bool true, .str body, .ptr 3 0, .ptr 4 0, .bool true, .ptr 16 0, .ptr 24 0, .ptr 16 0, .ptr 374 0, vi 1, .bool true, .bool true, .bool false, .agg a.vs, .agg (fineO a).vs, .agg b.vs, .agg (fineO b).vs, .tup [.ptr 16 0, .ptr 24 0], .agg (fineO a).vs, .agg (fineO b).vs, .tup [.ptr 16 0, .ptr 24 0], .ptr 16 0, .ptr 24 0, .ptr 16 0, .bool false, .bool false, .ptr 24 0, .bool false, .bool false, .ptr 24 0, .bool true, .ptr 16 0, .ptr 16 0, .str body, .str (cut8 body), .agg [vi 3, vi 0, .int .u32 0, .str (cut8 body)], .ptr 16 0, .agg (dv a b 1), .ptr 16 0, .int .u32 2], RWLS2_1 a b body (vi 0) (vi 1) (vi 0) (.int .u32 0) (vi 0) (vi 0) (vi 0) (vi 0) (vi 0) (vi 0) (.nilp) (vi 0) (vi 0) (vi 0) (.bool false) (vi 1))
def invLS2_1 (i : ILS2_1) : Prop := match i with
  | .c0 j => j < 1
  | .c1 j => j < 1
  | .c2 j => j < 69
  | .c3 j => j < 1
  | .c4 j => j < 69
  | .c5 j => j < 1
  | .c6 j => j < 57
  | .c7 j => j < 1
  | .c8 j => j < 1
def muLS2_1 (i : ILS2_1) : Nat := match i with
  | .c0 j => 201 - (0 + j)
  | .c1 j => 201 - (1 + j)
  | .c2 j => 201 - (2 + j)
  | .c3 j => 201 - (71 + j)
  | .c4 j => 201 - (72 + j)
  | .c5 j => 201 - (141 + j)
  | .c6 j => 201 - (142 + j)
  | .c7 j => 201 - (199 + j)
  | .c8 j => 201 - (200 + j)
def loopLS2_1 (a : Gw.Offer) (b : Gw.Offer) (body : Str) : LoopD ILS2_1 where
  nt := 134
  fr := fun ex => match ex with | .normal => ⟨[0, 1, 2, 3, 4, 5, 9, 10, 11, 12, 13, 14, 15, 16, 21, 22, 23, 24, 25, 26, 27, 28, 29, 30, 31, 32, 33, 34, 35, 36, 37, 38, 39, 40, 41, 42, 43, 44, 45, 46, 48, 49, 50, 51], 378, []⟩ | .exit _ => ⟨[0, 1, 2, 3, 4, 5, 9, 10, 11, 12, 13, 15, 21, 22, 23, 24, 25, 26, 27, 28, 29, 30, 31, 32, 33, 34, 35, 36, 37, 38, 39, 40, 41, 42, 43, 44, 45, 46, 48, 49, 50, 51], 378, []⟩ | .ret => ⟨[], 378, []⟩
  S := SSLS2_1 a b body
  out := fun i => .ob (invLS2_1 i) (.leaf ((.exit 0), XLS2_1 a b body))
  pick := fun _ => .c0 0
def ltLS2_1 (a : Gw.Offer) (b : Gw.Offer) (body : Str) : Lt := fun k => match k with | 0 => (loopLS2_1 a b body).lt | _ => fun _ _ => .fail
def lpLS2_1 : DC := (((loopsIn 0 (dOf 3).body)[0]?).getD (0, .skip)).2
def orcLS2_1 (a : Gw.Offer) (b : Gw.Offer) (body : Str) (i : ILS2_1) : Orc := match i with
  | .c0 j => noOrc
  | .c1 j => noOrc
  | .c2 j => (fun k => match k with | 55 => some fun t h => (.bool true, h) | 57 => some fun t h => (vi (4 + (j : Int)), h) | _ => none)
  | .c3 j => noOrc
  | .c4 j => (fun k => match k with | 55 => some fun t h => (.bool true, h) | 57 => some fun t h => (vi (74 + (j : Int)), h) | _ => none)
  | .c5 j => noOrc
  | .c6 j => (fun k => match k with | 55 => some fun t h => (.bool true, h) | 57 => some fun t h => (vi (144 + (j : Int)), h) | _ => none)
  | .c7 j => noOrc
  | .c8 j => noOrc
def orcsLS2_1 (a : Gw.Offer) (b : Gw.Offer) (body : Str) (i : ILS2_1) : Nat → Orc := match i with
  | .c0 j => (fun _ => noOrc)
  | .c1 j => (fun g => match g with | 105 => (fun k => match k with | 18 => some fun t h => (vi 1, h) | _ => none) | _ => noOrc)
  | .c2 j => (fun g => match g with | 35 => (fun k => match k with | 13 => some fun t h => (vi (3 + (j : Int)), h) | 25 => some fun t h => (.bool false, h) | 32 => some fun t h => (.bool false, h) | 37 => some fun t h => (vi (69 - (j : Int)), h) | 44 => some fun t h => (.bool true, h) | _ => none) | _ => noOrc)
  | .c3 j => (fun g => match g with | 105 => (fun k => match k with | 18 => some fun t h => (vi 1, h) | _ => none) | _ => noOrc)
  | .c4 j => (fun g => match g with | 35 => (fun k => match k with | 13 => some fun t h => (vi (73 + (j : Int)), h) | 25 => some fun t h => (.bool false, h) | 32 => some fun t h => (.bool false, h) | 37 => some fun t h => (vi (69 - (j : Int)), h) | 44 => some fun t h => (.bool true, h) | _ => none) | _ => noOrc)
  | .c5 j => (fun g => match g with | 105 => (fun k => match k with | 18 => some fun t h => (vi 1, h) | _ => none) | _ => noOrc)
  | .c6 j => (fun g => match g with | 35 => (fun k => match k with | 13 => some fun t h => (vi (143 + (j : Int)), h) | 25 => some fun t h => (.bool false, h) | 32 => some fun t h => (.bool false, h) | 37 => some fun t h => (vi (69 - (j : Int)), h) | 44 => some fun t h => (.bool true, h) | _ => none) | _ => noOrc)
  | .c7 j => (fun _ => noOrc)
  | .c8 j => (fun _ => noOrc)
def stsLS2_1 (i : ILS2_1) : Nat → List Nat := match i with
  | .c0 j => (fun k => match k with | 3 => [55, 65] | 16 => [15, 22] | 35 => [8, 25, 32] | _ => [])
  | .c1 j => (fun k => match k with | 3 => [55, 65] | 16 => [15, 22, 31, 52, 74, 80, 86, 96] | 35 => [8, 25, 32] | 38 => [9] | 40 => [7, 20, 34] | 72 => [11, 17, 34] | 73 => [13] | 105 => [30] | _ => [])
  | .c2 j => (fun k => match k with | 3 => [55, 65] | 16 => [15, 22, 31, 52, 74, 80] | 35 => [8, 25, 32, 44] | 38 => [9] | _ => [])
  | .c3 j => (fun k => match k with | 3 => [55, 65] | 16 => [15, 22, 31, 52, 74, 80, 86, 96] | 35 => [8, 25, 32, 44, 49, 55, 68, 73, 78] | 38 => [9] | 40 => [7, 20, 34] | 69 => [9, 16] | 72 => [11, 17, 34] | 73 => [13] | 105 => [30] | _ => [])
  | .c4 j => (fun k => match k with | 3 => [55, 65] | 16 => [15, 22, 31, 52, 74, 80] | 35 => [8, 25, 32, 44] | 38 => [9] | _ => [])
  | .c5 j => (fun k => match k with | 3 => [55, 65] | 16 => [15, 22, 31, 52, 74, 80, 86, 96] | 35 => [8, 25, 32, 44, 49, 55, 68, 73, 78] | 38 => [9] | 40 => [7, 20, 34] | 69 => [9, 16] | 72 => [11, 17, 34] | 73 => [13] | 105 => [30] | _ => [])
  | .c6 j => (fun k => match k with | 3 => [55, 65] | 16 => [15, 22, 31, 52, 74, 80] | 35 => [8, 25, 32, 44] | 38 => [9] | _ => [])
  | .c7 j => (fun k => match k with | 3 => [55, 65, 68, 73, 80, 85, 92, 100] | 16 => [15] | 35 => [8, 25] | _ => [])
  | .c8 j => (fun k => match k with | 3 => [55] | _ => [])
def stLS2_1 (i : ILS2_1) : List Nat := match i with
  | .c0 j => [55, 65]
  | .c1 j => [55, 65]
  | .c2 j => [55, 65]
  | .c3 j => [55, 65]
  | .c4 j => [55, 65]
  | .c5 j => [55, 65]
  | .c6 j => [55, 65]
  | .c7 j => [55, 65, 68, 73, 80, 85, 92, 100]
  | .c8 j => [55]
def treeLS2_1_0 (a : Gw.Offer) (b : Gw.Offer) (body : Str) (j : Nat) : DT (Ex × Snap) :=
  .leaf (.normal, SNLS2_1 a b body (vi 0) (vi 2) (vi 2) (.int .u32 2) (vi 1) (vi (dealL (fineO a) (fineO b)).baud) (vi 200) (vi (dealL (fineO a) (fineO b)).win) (vi (dealL (fineO a) (fineO b)).size) (vi 1) (.ptr 330 0) (vi 0) (vi 0) (vi 1) (.bool true) (vi 0))
set_option maxRecDepth 1000000 in
theorem treeLS2_1_0_eq (a : Gw.Offer) (b : Gw.Offer) (body : Str) (j : Nat) : rnd (orcsLS2_1 a b body (.c0 j)) (stsLS2_1 (.c0 j)) (orcLS2_1 a b body (.c0 j)) (stLS2_1 (.c0 j)) noLt 0 lpLS2_1 ((loopLS2_1 a b body).t0 (.c0 j)) [] ((loopLS2_1 a b body).h0 (.c0 j)) (loopLS2_1 a b body).end_ = treeLS2_1_0 a b body j := by kernel_rfl
def treeLS2_1_1 (a : Gw.Offer) (b : Gw.Offer) (body : Str) (j : Nat) : DT (Ex × Snap) :=
  .ob (((V.beq (vi 1) (vi 1)) && true) = true) (
.ob (minV (vi (if (7 : Int) < (if (1 : Int) > (dealL (fineO a) (fineO b)).win then 1 else (dealL (fineO a) (fineO b)).win) then 7 else (if (1 : Int) > (dealL (fineO a) (fineO b)).win then 1 else (dealL (fineO a) (fineO b)).win))) [(vi 1)] = some (vi 1)) (
.ob (IntKind.i64 = IntKind.i64 ∧ (8 : Int) ≠ 0) (
.ob (IntKind.i64 = IntKind.i64 ∧ (8 : Int) ≠ 0) (
.ob (IntKind.i64 = IntKind.i64 ∧ (8 : Int) ≠ 0) (
.ob (IntKind.i64 = IntKind.i64 ∧ (8 : Int) ≠ 0) (
.ob ((1 = 1 ∧ ([vi 0] : List V).length = 1 * 1) ∧ allOne [vi 0] = true ∧ 1 * 8 ≤ 70368744177664) (
.ob (1 = 1 ∧ (0 ≤ (1 : Int) ∧ (1 : Int) ≤ ((1 : Nat) : Int)) ∧ (True)) (
.ob (1 = 1 ∧ 0 ≤ (0 : Int) ∧ (0 : Int) < ((1 : Nat) : Int)) (
.ob (1 = 1 ∧ 0 ≤ (0 : Int) ∧ (0 : Int) < ((1 : Nat) : Int)) (
.ob ((9 = 9 ∧ ([vi 0, vi 0, .bool true, vi 1, vi 0, vi 0, vi 0, .bool false, .str (cut8 body)] : List V).length = 1 * 9) ∧ allOne [vi 0, vi 0, .bool true, vi 1, vi 0, vi 0, vi 0, .bool false, .str (cut8 body)] = true ∧ 1 * 80 ≤ 70368744177664) (
.ob (9 = 9 ∧ 0 ≤ (0 : Int) ∧ (0 : Int) < ((1 : Nat) : Int)) (
.ob (9 = 9 ∧ 0 ≤ (0 : Int) ∧ (0 : Int) < ((1 : Nat) : Int)) (
.leaf (.normal, SNLS2_1 a b body (vi 0) (vi 3) (vi 2) (.int .u32 2) (vi 1) (vi (dealL (fineO a) (fineO b)).baud) (vi 200) (vi (dealL (fineO a) (fineO b)).win) (vi (dealL (fineO a) (fineO b)).size) (vi 1) (.ptr 330 0) (vi 70) (vi 0) (vi 2) (.bool false) (vi 1)))))))))))))))
set_option maxRecDepth 1000000 in
theorem treeLS2_1_1_eq (a : Gw.Offer) (b : Gw.Offer) (body : Str) (j : Nat) : rnd (orcsLS2_1 a b body (.c1 j)) (stsLS2_1 (.c1 j)) (orcLS2_1 a b body (.c1 j)) (stLS2_1 (.c1 j)) noLt 0 lpLS2_1 ((loopLS2_1 a b body).t0 (.c1 j)) [] ((loopLS2_1 a b body).h0 (.c1 j)) (loopLS2_1 a b body).end_ = treeLS2_1_1 a b body j := by kernel_rfl
def treeLS2_1_2 (a : Gw.Offer) (b : Gw.Offer) (body : Str) (j : Nat) : DT (Ex × Snap) :=
  .ob (binV .leq (vi (3 + (j : Int))) (vi 200) = some (.bool true)) (
.ob (binV .add (vi (2 + (j : Int))) (vi 1) = some (vi (3 + (j : Int)))) (
.ob (binV .geq (vi (3 + (j : Int))) (vi 200) = some (.bool false)) (
.ob (binV .eql (vi (70 - (j : Int))) (vi 0) = some (.bool false)) (
.ob (binV .sub (vi (70 - (j : Int))) (vi 1) = some (vi (69 - (j : Int)))) (
.ob (binV .gtr (vi (69 - (j : Int))) (vi 0) = some (.bool true)) (
.ob (binV .add (vi (3 + (j : Int))) (vi 1) = some (vi (4 + (j : Int)))) (
.leaf (.normal, SNLS2_1 a b body (vi 0) (vi (4 + (j : Int))) (vi 2) (.int .u32 2) (vi 1) (vi (dealL (fineO a) (fineO b)).baud) (vi 200) (vi (dealL (fineO a) (fineO b)).win) (vi (dealL (fineO a) (fineO b)).size) (vi 1) (.ptr 330 0) (vi (69 - (j : Int))) (vi 0) (vi (3 + (j : Int))) (.bool false) (vi 1)))))))))
set_option maxRecDepth 1000000 in
theorem treeLS2_1_2_eq (a : Gw.Offer) (b : Gw.Offer) (body : Str) (j : Nat) : rnd (orcsLS2_1 a b body (.c2 j)) (stsLS2_1 (.c2 j)) (orcLS2_1 a b body (.c2 j)) (stLS2_1 (.c2 j)) noLt 0 lpLS2_1 ((loopLS2_1 a b body).t0 (.c2 j)) [] ((loopLS2_1 a b body).h0 (.c2 j)) (loopLS2_1 a b body).end_ = treeLS2_1_2 a b body j := by kernel_rfl
def treeLS2_1_3 (a : Gw.Offer) (b : Gw.Offer) (body : Str) (j : Nat) : DT (Ex × Snap) :=
  .ob (((V.beq (vi 1) (vi 1)) && true) = true) (
.ob (minV (vi (if (7 : Int) < (if (1 : Int) > (dealL (fineO a) (fineO b)).win then 1 else (dealL (fineO a) (fineO b)).win) then 7 else (if (1 : Int) > (dealL (fineO a) (fineO b)).win then 1 else (dealL (fineO a) (fineO b)).win))) [(vi 1)] = some (vi 1)) (
.ob (IntKind.i64 = IntKind.i64 ∧ (8 : Int) ≠ 0) (
.ob (IntKind.i64 = IntKind.i64 ∧ (8 : Int) ≠ 0) (
.ob (IntKind.i64 = IntKind.i64 ∧ (8 : Int) ≠ 0) (
.ob (IntKind.i64 = IntKind.i64 ∧ (8 : Int) ≠ 0) (
.ob ((1 = 1 ∧ ([vi 0] : List V).length = 1 * 1) ∧ allOne [vi 0] = true ∧ 1 * 8 ≤ 70368744177664) (
.ob (1 = 1 ∧ (0 ≤ (1 : Int) ∧ (1 : Int) ≤ ((1 : Nat) : Int)) ∧ (True)) (
.ob (1 = 1 ∧ 0 ≤ (0 : Int) ∧ (0 : Int) < ((1 : Nat) : Int)) (
.ob (1 = 1 ∧ 0 ≤ (0 : Int) ∧ (0 : Int) < ((1 : Nat) : Int)) (
.ob ((9 = 9 ∧ ([vi 0, vi 0, .bool true, vi 1, vi 0, vi 0, vi 0, .bool false, .str (cut8 body)] : List V).length = 1 * 9) ∧ allOne [vi 0, vi 0, .bool true, vi 1, vi 0, vi 0, vi 0, .bool false, .str (cut8 body)] = true ∧ 1 * 80 ≤ 70368744177664) (
.ob (9 = 9 ∧ 0 ≤ (0 : Int) ∧ (0 : Int) < ((1 : Nat) : Int)) (
.ob (9 = 9 ∧ 0 ≤ (0 : Int) ∧ (0 : Int) < ((1 : Nat) : Int)) (
.leaf (.normal, SNLS2_1 a b body (vi 0) (vi 73) (vi 2) (.int .u32 2) (vi 1) (vi (dealL (fineO a) (fineO b)).baud) (vi 200) (vi (dealL (fineO a) (fineO b)).win) (vi (dealL (fineO a) (fineO b)).size) (vi 1) (.ptr 330 0) (vi 70) (vi 0) (vi 72) (.bool false) (vi 1)))))))))))))))
set_option maxRecDepth 1000000 in
theorem treeLS2_1_3_eq (a : Gw.Offer) (b : Gw.Offer) (body : Str) (j : Nat) : rnd (orcsLS2_1 a b body (.c3 j)) (stsLS2_1 (.c3 j)) (orcLS2_1 a b body (.c3 j)) (stLS2_1 (.c3 j)) noLt 0 lpLS2_1 ((loopLS2_1 a b body).t0 (.c3 j)) [] ((loopLS2_1 a b body).h0 (.c3 j)) (loopLS2_1 a b body).end_ = treeLS2_1_3 a b body j := by kernel_rfl
def treeLS2_1_4 (a : Gw.Offer) (b : Gw.Offer) (body : Str) (j : Nat) : DT (Ex × Snap) :=
  .ob (binV .leq (vi (73 + (j : Int))) (vi 200) = some (.bool true)) (
.ob (binV .add (vi (72 + (j : Int))) (vi 1) = some (vi (73 + (j : Int)))) (
.ob (binV .geq (vi (73 + (j : Int))) (vi 200) = some (.bool false)) (
.ob (binV .eql (vi (70 - (j : Int))) (vi 0) = some (.bool false)) (
.ob (binV .sub (vi (70 - (j : Int))) (vi 1) = some (vi (69 - (j : Int)))) (
.ob (binV .gtr (vi (69 - (j : Int))) (vi 0) = some (.bool true)) (
.ob (binV .add (vi (73 + (j : Int))) (vi 1) = some (vi (74 + (j : Int)))) (
.leaf (.normal, SNLS2_1 a b body (vi 0) (vi (74 + (j : Int))) (vi 2) (.int .u32 2) (vi 1) (vi (dealL (fineO a) (fineO b)).baud) (vi 200) (vi (dealL (fineO a) (fineO b)).win) (vi (dealL (fineO a) (fineO b)).size) (vi 1) (.ptr 330 0) (vi (69 - (j : Int))) (vi 0) (vi (73 + (j : Int))) (.bool false) (vi 1)))))))))
set_option maxRecDepth 1000000 in
theorem treeLS2_1_4_eq (a : Gw.Offer) (b : Gw.Offer) (body : Str) (j : Nat) : rnd (orcsLS2_1 a b body (.c4 j)) (stsLS2_1 (.c4 j)) (orcLS2_1 a b body (.c4 j)) (stLS2_1 (.c4 j)) noLt 0 lpLS2_1 ((loopLS2_1 a b body).t0 (.c4 j)) [] ((loopLS2_1 a b body).h0 (.c4 j)) (loopLS2_1 a b body).end_ = treeLS2_1_4 a b body j := by kernel_rfl
def treeLS2_1_5 (a : Gw.Offer) (b : Gw.Offer) (body : Str) (j : Nat) : DT (Ex × Snap) :=
  .ob (((V.beq (vi 1) (vi 1)) && true) = true) (
.ob (minV (vi (if (7 : Int) < (if (1 : Int) > (dealL (fineO a) (fineO b)).win then 1 else (dealL (fineO a) (fineO b)).win) then 7 else (if (1 : Int) > (dealL (fineO a) (fineO b)).win then 1 else (dealL (fineO a) (fineO b)).win))) [(vi 1)] = some (vi 1)) (
.ob (IntKind.i64 = IntKind.i64 ∧ (8 : Int) ≠ 0) (
.ob (IntKind.i64 = IntKind.i64 ∧ (8 : Int) ≠ 0) (
.ob (IntKind.i64 = IntKind.i64 ∧ (8 : Int) ≠ 0) (
.ob (IntKind.i64 = IntKind.i64 ∧ (8 : Int) ≠ 0) (
.ob ((1 = 1 ∧ ([vi 0] : List V).length = 1 * 1) ∧ allOne [vi 0] = true ∧ 1 * 8 ≤ 70368744177664) (
.ob (1 = 1 ∧ (0 ≤ (1 : Int) ∧ (1 : Int) ≤ ((1 : Nat) : Int)) ∧ (True)) (
.ob (1 = 1 ∧ 0 ≤ (0 : Int) ∧ (0 : Int) < ((1 : Nat) : Int)) (
.ob (1 = 1 ∧ 0 ≤ (0 : Int) ∧ (0 : Int) < ((1 : Nat) : Int)) (
.ob ((9 = 9 ∧ ([vi 0, vi 0, .bool true, vi 1, vi 0, vi 0, vi 0, .bool false, .str (cut8 body)] : List V).length = 1 * 9) ∧ allOne [vi 0, vi 0, .bool true, vi 1, vi 0, vi 0, vi 0, .bool false, .str (cut8 body)] = true ∧ 1 * 80 ≤ 70368744177664) (
.ob (9 = 9 ∧ 0 ≤ (0 : Int) ∧ (0 : Int) < ((1 : Nat) : Int)) (
.ob (9 = 9 ∧ 0 ≤ (0 : Int) ∧ (0 : Int) < ((1 : Nat) : Int)) (
.leaf (.normal, SNLS2_1 a b body (vi 0) (vi 143) (vi 2) (.int .u32 2) (vi 1) (vi (dealL (fineO a) (fineO b)).baud) (vi 200) (vi (dealL (fineO a) (fineO b)).win) (vi (dealL (fineO a) (fineO b)).size) (vi 1) (.ptr 330 0) (vi 70) (vi 0) (vi 142) (.bool false) (vi 1)))))))))))))))
set_option maxRecDepth 1000000 in
theorem treeLS2_1_5_eq (a : Gw.Offer) (b : Gw.Offer) (body : Str) (j : Nat) : rnd (orcsLS2_1 a b body (.c5 j)) (stsLS2_1 (.c5 j)) (orcLS2_1 a b body (.c5 j)) (stLS2_1 (.c5 j)) noLt 0 lpLS2_1 ((loopLS2_1 a b body).t0 (.c5 j)) [] ((loopLS2_1 a b body).h0 (.c5 j)) (loopLS2_1 a b body).end_ = treeLS2_1_5 a b body j := by kernel_rfl
def treeLS2_1_6 (a : Gw.Offer) (b : Gw.Offer) (body : Str) (j : Nat) : DT (Ex × Snap) :=
  .ob (binV .leq (vi (143 + (j : Int))) (vi 200) = some (.bool true)) (
.ob (binV .add (vi (142 + (j : Int))) (vi 1) = some (vi (143 + (j : Int)))) (
.ob (binV .geq (vi (143 + (j : Int))) (vi 200) = some (.bool false)) (
.ob (binV .eql (vi (70 - (j : Int))) (vi 0) = some (.bool false)) (
.ob (binV .sub (vi (70 - (j : Int))) (vi 1) = some (vi (69 - (j : Int)))) (
.ob (binV .gtr (vi (69 - (j : Int))) (vi 0) = some (.bool true)) (
.ob (binV .add (vi (143 + (j : Int))) (vi 1) = some (vi (144 + (j : Int)))) (
.leaf (.normal, SNLS2_1 a b body (vi 0) (vi (144 + (j : Int))) (vi 2) (.int .u32 2) (vi 1) (vi (dealL (fineO a) (fineO b)).baud) (vi 200) (vi (dealL (fineO a) (fineO b)).win) (vi (dealL (fineO a) (fineO b)).size) (vi 1) (.ptr 330 0) (vi (69 - (j : Int))) (vi 0) (vi (143 + (j : Int))) (.bool false) (vi 1)))))))))
set_option maxRecDepth 1000000 in
theorem treeLS2_1_6_eq (a : Gw.Offer) (b : Gw.Offer) (body : Str) (j : Nat) : rnd (orcsLS2_1 a b body (.c6 j)) (stsLS2_1 (.c6 j)) (orcLS2_1 a b body (.c6 j)) (stLS2_1 (.c6 j)) noLt 0 lpLS2_1 ((loopLS2_1 a b body).t0 (.c6 j)) [] ((loopLS2_1 a b body).h0 (.c6 j)) (loopLS2_1 a b body).end_ = treeLS2_1_6 a b body j := by kernel_rfl
def treeLS2_1_7 (a : Gw.Offer) (b : Gw.Offer) (body : Str) (j : Nat) : DT (Ex × Snap) :=
  .ob (4 = 4 ∧ 0 ≤ (0 : Int) ∧ (0 : Int) < ((1 : Nat) : Int)) (
.ob (4 = 4 ∧ 0 ≤ (0 : Int) ∧ (0 : Int) < ((1 : Nat) : Int)) (
.leaf (.normal, SNLS2_1 a b body (vi 1) (vi 201) (vi 0) (.int .u32 0) (vi 0) (vi 0) (vi 0) (vi 0) (vi 0) (vi 0) (.nilp) (vi 0) (vi 0) (vi 0) (.bool false) (vi 1))))
set_option maxRecDepth 1000000 in
theorem treeLS2_1_7_eq (a : Gw.Offer) (b : Gw.Offer) (body : Str) (j : Nat) : rnd (orcsLS2_1 a b body (.c7 j)) (stsLS2_1 (.c7 j)) (orcLS2_1 a b body (.c7 j)) (stLS2_1 (.c7 j)) noLt 0 lpLS2_1 ((loopLS2_1 a b body).t0 (.c7 j)) [] ((loopLS2_1 a b body).h0 (.c7 j)) (loopLS2_1 a b body).end_ = treeLS2_1_7 a b body j := by kernel_rfl
def treeLS2_1_8 (a : Gw.Offer) (b : Gw.Offer) (body : Str) (j : Nat) : DT (Ex × Snap) :=
  .leaf ((.exit 0), XLS2_1 a b body)
set_option maxRecDepth 1000000 in
theorem treeLS2_1_8_eq (a : Gw.Offer) (b : Gw.Offer) (body : Str) (j : Nat) : rnd (orcsLS2_1 a b body (.c8 j)) (stsLS2_1 (.c8 j)) (orcLS2_1 a b body (.c8 j)) (stLS2_1 (.c8 j)) noLt 0 lpLS2_1 ((loopLS2_1 a b body).t0 (.c8 j)) [] ((loopLS2_1 a b body).h0 (.c8 j)) (loopLS2_1 a b body).end_ = treeLS2_1_8 a b body j := by kernel_rfl
def treeLS2_1L (a : Gw.Offer) (b : Gw.Offer) (body : Str) (i : ILS2_1) : DT (Ex × Snap) := match i with
  | .c0 j => treeLS2_1_0 a b body j
  | .c1 j => treeLS2_1_1 a b body j
  | .c2 j => treeLS2_1_2 a b body j
  | .c3 j => treeLS2_1_3 a b body j
  | .c4 j => treeLS2_1_4 a b body j
  | .c5 j => treeLS2_1_5 a b body j
  | .c6 j => treeLS2_1_6 a b body j
  | .c7 j => treeLS2_1_7 a b body j
  | .c8 j => treeLS2_1_8 a b body j
theorem roundLS2_1 (a : Gw.Offer) (b : Gw.Offer) (body : Str) (hwa : loL (fineO a).wait = 2) (hwb : loL (fineO b).wait = 1) (i : ILS2_1) (Pr : Ex × Snap → Prop) (h : ((loopLS2_1 a b body).out i).sat Pr) : (treeLS2_1L a b body i).sat ((loopLS2_1 a b body).next muLS2_1 i Pr) := by
  match i with
  | .c0 j =>
    have hj : j < 1 := h.1
    have hX := h.2
    obtain rfl : j = 0 := by omega
    exact sat_leaf (⟨.c1 0, by kernel_rfl, (by show 201 - (1 + 0) < 201 - (0 + 0); omega), ⟨(show 0 < 1 by decide), hX⟩⟩)
  | .c1 j =>
    have hj : j < 1 := h.1
    have hX := h.2
    obtain rfl : j = 0 := by omega
    exact sat_ob (by simp only [V.beq_refl, Bool.and_true]) (
sat_ob (min1 _) (
sat_ob (by decide) (
sat_ob (by decide) (
sat_ob (by decide) (
sat_ob (by decide) (
sat_ob (by decide) (
sat_ob (by decide) (
sat_ob (by decide) (
sat_ob (by decide) (
sat_ob (by first | rfl | simp [V.beq, V.beqs, allOne, V.one, byteVs, binV, binI, eqV, eqCells]) (
sat_ob (by decide) (
sat_ob (by decide) (
sat_leaf (⟨.c2 0, by kernel_rfl, (by show 201 - (2 + 0) < 201 - (1 + 0); omega), ⟨(show 0 < 69 by decide), hX⟩⟩))))))))))))))
  | .c2 j =>
    have hj : j < 69 := h.1
    have hX := h.2
    exact sat_ob (by simp [binV, binI]; omega) (
sat_ob (by show some (V.int .i64 (wrapK .i64 ((2 + (j : Int)) + 1))) = _; rw [wrap_small (by omega), show ((2 + (j : Int)) + 1) = (3 + (j : Int)) by omega]) (
sat_ob (by simp [binV, binI]; omega) (
sat_ob (by simp [binV, binI]; omega) (
sat_ob (by show some (V.int .i64 (wrapK .i64 ((70 - (j : Int)) - 1))) = _; rw [wrap_small (by omega), show ((70 - (j : Int)) - 1) = (69 - (j : Int)) by omega]) (
sat_ob (by simp [binV, binI]; omega) (
sat_ob (by show some (V.int .i64 (wrapK .i64 ((3 + (j : Int)) + 1))) = _; rw [wrap_small (by omega), show ((3 + (j : Int)) + 1) = (4 + (j : Int)) by omega]) (
sat_leaf (if h2 : j + 1 < 69 then ⟨.c2 (j + 1), (by show SNLS2_1 a b body (vi 0) (vi (4 + (j : Int))) (vi 2) (.int .u32 2) (vi 1) (vi (dealL (fineO a) (fineO b)).baud) (vi 200) (vi (dealL (fineO a) (fineO b)).win) (vi (dealL (fineO a) (fineO b)).size) (vi 1) (.ptr 330 0) (vi (69 - (j : Int))) (vi 0) (vi (3 + (j : Int))) (.bool false) (vi 1) = SNLS2_1 a b body (vi 0) (vi (3 + ((j + 1 : Nat) : Int))) (vi 2) (.int .u32 2) (vi 1) (vi (dealL (fineO a) (fineO b)).baud) (vi 200) (vi (dealL (fineO a) (fineO b)).win) (vi (dealL (fineO a) (fineO b)).size) (vi 1) (.ptr 330 0) (vi (70 - ((j + 1 : Nat) : Int))) (vi 0) (vi (2 + ((j + 1 : Nat) : Int))) (.bool false) (vi 1); rw [show ((2 + ((j + 1 : Nat) : Int)) : Int) = (3 + (j : Int)) by omega, show ((3 + ((j + 1 : Nat) : Int)) : Int) = (4 + (j : Int)) by omega, show ((70 - ((j + 1 : Nat) : Int)) : Int) = (69 - (j : Int)) by omega]), (by show 201 - (2 + (j + 1)) < 201 - (2 + j); omega), ⟨h2, hX⟩⟩ else by
    obtain rfl : j = 68 := by omega
    exact ⟨.c3 0, by kernel_rfl, (by show 201 - (71 + 0) < 201 - (2 + 68); omega), ⟨(show 0 < 1 by decide), hX⟩⟩))))))))
  | .c3 j =>
    have hj : j < 1 := h.1
    have hX := h.2
    obtain rfl : j = 0 := by omega
    exact sat_ob (by simp only [V.beq_refl, Bool.and_true]) (
sat_ob (min1 _) (
sat_ob (by decide) (
sat_ob (by decide) (
sat_ob (by decide) (
sat_ob (by decide) (
sat_ob (by decide) (
sat_ob (by decide) (
sat_ob (by decide) (
sat_ob (by decide) (
sat_ob (by first | rfl | simp [V.beq, V.beqs, allOne, V.one, byteVs, binV, binI, eqV, eqCells]) (
sat_ob (by decide) (
sat_ob (by decide) (
sat_leaf (⟨.c4 0, by kernel_rfl, (by show 201 - (72 + 0) < 201 - (71 + 0); omega), ⟨(show 0 < 69 by decide), hX⟩⟩))))))))))))))
  | .c4 j =>
    have hj : j < 69 := h.1
    have hX := h.2
    exact sat_ob (by simp [binV, binI]; omega) (
sat_ob (by show some (V.int .i64 (wrapK .i64 ((72 + (j : Int)) + 1))) = _; rw [wrap_small (by omega), show ((72 + (j : Int)) + 1) = (73 + (j : Int)) by omega]) (
sat_ob (by simp [binV, binI]; omega) (
sat_ob (by simp [binV, binI]; omega) (
sat_ob (by show some (V.int .i64 (wrapK .i64 ((70 - (j : Int)) - 1))) = _; rw [wrap_small (by omega), show ((70 - (j : Int)) - 1) = (69 - (j : Int)) by omega]) (
sat_ob (by simp [binV, binI]; omega) (
sat_ob (by show some (V.int .i64 (wrapK .i64 ((73 + (j : Int)) + 1))) = _; rw [wrap_small (by omega), show ((73 + (j : Int)) + 1) = (74 + (j : Int)) by omega]) (
sat_leaf (if h2 : j + 1 < 69 then ⟨.c4 (j + 1), (by show SNLS2_1 a b body (vi 0) (vi (74 + (j : Int))) (vi 2) (.int .u32 2) (vi 1) (vi (dealL (fineO a) (fineO b)).baud) (vi 200) (vi (dealL (fineO a) (fineO b)).win) (vi (dealL (fineO a) (fineO b)).size) (vi 1) (.ptr 330 0) (vi (69 - (j : Int))) (vi 0) (vi (73 + (j : Int))) (.bool false) (vi 1) = SNLS2_1 a b body (vi 0) (vi (73 + ((j + 1 : Nat) : Int))) (vi 2) (.int .u32 2) (vi 1) (vi (dealL (fineO a) (fineO b)).baud) (vi 200) (vi (dealL (fineO a) (fineO b)).win) (vi (dealL (fineO a) (fineO b)).size) (vi 1) (.ptr 330 0) (vi (70 - ((j + 1 : Nat) : Int))) (vi 0) (vi (72 + ((j + 1 : Nat) : Int))) (.bool false) (vi 1); rw [show ((70 - ((j + 1 : Nat) : Int)) : Int) = (69 - (j : Int)) by omega, show ((72 + ((j + 1 : Nat) : Int)) : Int) = (73 + (j : Int)) by omega, show ((73 + ((j + 1 : Nat) : Int)) : Int) = (74 + (j : Int)) by omega]), (by show 201 - (72 + (j + 1)) < 201 - (72 + j); omega), ⟨h2, hX⟩⟩ else by
    obtain rfl : j = 68 := by omega
    exact ⟨.c5 0, by kernel_rfl, (by show 201 - (141 + 0) < 201 - (72 + 68); omega), ⟨(show 0 < 1 by decide), hX⟩⟩))))))))
  | .c5 j =>
    have hj : j < 1 := h.1
    have hX := h.2
    obtain rfl : j = 0 := by omega
    exact sat_ob (by simp only [V.beq_refl, Bool.and_true]) (
sat_ob (min1 _) (
sat_ob (by decide) (
sat_ob (by decide) (
sat_ob (by decide) (
sat_ob (by decide) (
sat_ob (by decide) (
sat_ob (by decide) (
sat_ob (by decide) (
sat_ob (by decide) (
sat_ob (by first | rfl | simp [V.beq, V.beqs, allOne, V.one, byteVs, binV, binI, eqV, eqCells]) (
sat_ob (by decide) (
sat_ob (by decide) (
sat_leaf (⟨.c6 0, by kernel_rfl, (by show 201 - (142 + 0) < 201 - (141 + 0); omega), ⟨(show 0 < 57 by decide), hX⟩⟩))))))))))))))
  | .c6 j =>
    have hj : j < 57 := h.1
    have hX := h.2
    exact sat_ob (by simp [binV, binI]; omega) (
sat_ob (by show some (V.int .i64 (wrapK .i64 ((142 + (j : Int)) + 1))) = _; rw [wrap_small (by omega), show ((142 + (j : Int)) + 1) = (143 + (j : Int)) by omega]) (
sat_ob (by simp [binV, binI]; omega) (
sat_ob (by simp [binV, binI]; omega) (
sat_ob (by show some (V.int .i64 (wrapK .i64 ((70 - (j : Int)) - 1))) = _; rw [wrap_small (by omega), show ((70 - (j : Int)) - 1) = (69 - (j : Int)) by omega]) (
sat_ob (by simp [binV, binI]; omega) (
sat_ob (by show some (V.int .i64 (wrapK .i64 ((143 + (j : Int)) + 1))) = _; rw [wrap_small (by omega), show ((143 + (j : Int)) + 1) = (144 + (j : Int)) by omega]) (
sat_leaf (if h2 : j + 1 < 57 then ⟨.c6 (j + 1), (by show SNLS2_1 a b body (vi 0) (vi (144 + (j : Int))) (vi 2) (.int .u32 2) (vi 1) (vi (dealL (fineO a) (fineO b)).baud) (vi 200) (vi (dealL (fineO a) (fineO b)).win) (vi (dealL (fineO a) (fineO b)).size) (vi 1) (.ptr 330 0) (vi (69 - (j : Int))) (vi 0) (vi (143 + (j : Int))) (.bool false) (vi 1) = SNLS2_1 a b body (vi 0) (vi (143 + ((j + 1 : Nat) : Int))) (vi 2) (.int .u32 2) (vi 1) (vi (dealL (fineO a) (fineO b)).baud) (vi 200) (vi (dealL (fineO a) (fineO b)).win) (vi (dealL (fineO a) (fineO b)).size) (vi 1) (.ptr 330 0) (vi (70 - ((j + 1 : Nat) : Int))) (vi 0) (vi (142 + ((j + 1 : Nat) : Int))) (.bool false) (vi 1); rw [show ((142 + ((j + 1 : Nat) : Int)) : Int) = (143 + (j : Int)) by omega, show ((143 + ((j + 1 : Nat) : Int)) : Int) = (144 + (j : Int)) by omega, show ((70 - ((j + 1 : Nat) : Int)) : Int) = (69 - (j : Int)) by omega]), (by show 201 - (142 + (j + 1)) < 201 - (142 + j); omega), ⟨h2, hX⟩⟩ else by
    obtain rfl : j = 56 := by omega
    exact ⟨.c7 0, by kernel_rfl, (by show 201 - (199 + 0) < 201 - (142 + 56); omega), ⟨(show 0 < 1 by decide), hX⟩⟩))))))))
  | .c7 j =>
    have hj : j < 1 := h.1
    have hX := h.2
    obtain rfl : j = 0 := by omega
    exact sat_ob (by decide) (
sat_ob (by decide) (
sat_leaf (⟨.c8 0, by kernel_rfl, (by show 201 - (200 + 0) < 201 - (199 + 0); omega), ⟨(show 0 < 1 by decide), hX⟩⟩)))
  | .c8 j =>
    have hj : j < 1 := h.1
    have hX := h.2
    obtain rfl : j = 0 := by omega
    exact sat_leaf (hX)
theorem ltLS2_1_ok (a : Gw.Offer) (b : Gw.Offer) (body : Str) (hwa : loL (fineO a).wait = 2) (hwb : loL (fineO b).wait = 1) (hint : Nat → List Nat) : Lt1 Tryz.prog hint 3 (loopLS2_1 a b body).lt lpLS2_1 :=
  LoopD.lt1c mixed (show TabX Tryz.prog noPX oxM from tabM) tabD (loopLS2_1 a b body) muLS2_1 (fun ex => match ex with | .normal => ⟨show 3 ≤ 378 by decide, show 3 ≤ 378 by decide⟩ | .exit _ => ⟨show 3 ≤ 378 by decide, show 3 ≤ 378 by decide⟩ | .ret => ⟨show 3 ≤ 378 by decide, show 3 ≤ 378 by decide⟩) (orcs := orcsLS2_1 a b body) (sts := stsLS2_1) (orc := orcLS2_1 a b body) (st := stLS2_1) (tree := treeLS2_1L a b body)
    (fun i => match i with
    | .c0 j => treeLS2_1_0_eq a b body j
    | .c1 j => treeLS2_1_1_eq a b body j
    | .c2 j => treeLS2_1_2_eq a b body j
    | .c3 j => treeLS2_1_3_eq a b body j
    | .c4 j => treeLS2_1_4_eq a b body j
    | .c5 j => treeLS2_1_5_eq a b body j
    | .c6 j => treeLS2_1_6_eq a b body j
    | .c7 j => treeLS2_1_7_eq a b body j
    | .c8 j => treeLS2_1_8_eq a b body j) (roundLS2_1 a b body hwa hwb)
def oxLS2_1 (a : Gw.Offer) (b : Gw.Offer) (body : Str) : OTab := (consT 46 (gD dGet pGet (fun n => match n with | 138 => some (.tup [.agg [.int .u32 1, .int .u32 2, vi 0, vi 1, vi (fineO a).baud, vi (fineO a).silent, vi (fineO a).win, vi (fineO a).size, vi (fineO a).wait], .bool true]) | 298 => some (.tup [.agg [.int .u32 2, .int .u32 1, vi 0, vi 1, vi (fineO b).baud, vi (fineO b).silent, vi (fineO b).win, vi (fineO b).size, vi (fineO b).wait], .bool true]) | _ => none)) (consT 70 (gD dPut pPut noV) (consT 47 (gDT kT0 kT1 kT2 dDeal pDeal (fun n => match n with | 151 => some (.tup [.agg (dv b a 2), .bool true]) | 311 => some (.tup [.agg (dv a b 1), .bool true]) | _ => none)) (consT 43 (gD dOff pMayQ (fun n => match n with | 12 => some (.bool true) | 20 => some (.bool true) | _ => none)) (consT 10 (gD dOff pFine noV) (consO 9 (gTrue kT0 kT1 kT2) noOX))))))
def treeLS2_1 (a : Gw.Offer) (b : Gw.Offer) (body : Str) : DT V :=
  .ob (dOff [.agg a.vs]) (
.ob (((V.beq (.agg b.vs) (.agg b.vs)) && true) = true) (
.ob (dOff [.agg b.vs]) (
.ob (dOff [.agg (fineO a).vs]) (
.ob (pMayQ [.agg (fineO a).vs] = (.bool true)) (
.ob (((V.beq (.agg (fineO b).vs) (.agg (fineO b).vs)) && true) = true) (
.ob (dOff [.agg (fineO b).vs]) (
.ob (pMayQ [.agg (fineO b).vs] = (.bool true)) (
.ob (True) (
.ob (IntKind.i64 = IntKind.i64 ∧ (250 : Int) ≠ 0) (
.ob (((V.beq (.int .u32 2) (.int .u32 2)) && true) = true) (
.ob (((V.beq (.int .u32 2) (.int .u32 2)) && true) = true) (
.ob (dPut [.agg [.int .u32 1, .int .u32 2, vi 0, vi 1, vi (fineO a).baud, vi (fineO a).silent, vi (fineO a).win, vi (fineO a).size, vi (fineO a).wait]]) (
.ob (9 = 9 ∧ 0 ≤ (0 : Int) ∧ (0 : Int) < ((1 : Nat) : Int)) (
.ob (Gw.lenStr (.str (setupStr ⟨1, 2, 0, 1, (fineO a)⟩)) = some (vi 25)) (
.ob (Gw.lenStr (.str (setupStr ⟨1, 2, 0, 1, (fineO a)⟩)) = some (vi 25)) (
.ob (((V.beq (.str (setupStr ⟨1, 2, 0, 1, (fineO a)⟩)) (.str (setupStr ⟨1, 2, 0, 1, (fineO a)⟩))) && ((V.beq (.bool true) (.bool true)) && ((V.beq (.agg [vi 127, vi 255]) (.agg [vi 127, vi 255])) && true))) = true) (
.ob (((V.beq (vi 2) (vi 2)) && true) = true) (
.ob (((V.beq (.agg [vi 127, vi 255, .bool true, vi 3, vi 2, vi 0, vi 0, .bool true, .str (setupStr ⟨1, 2, 0, 1, (fineO a)⟩)]) (.agg [vi 127, vi 255, .bool true, vi 3, vi 2, vi 0, vi 0, .bool true, .str (setupStr ⟨1, 2, 0, 1, (fineO a)⟩)])) && true) = true) (
.ob (((eqV (.agg [.i, .i, .b, .i, .i, .i, .i, .b, .s]) (.agg [vi 127, vi 255, .bool true, vi 3, vi 2, vi 0, vi 0, .bool true, .str (setupStr ⟨1, 2, 0, 1, (fineO a)⟩)]) (.agg [vi 127, vi 255, .bool true, vi 3, vi 2, vi 0, vi 0, .bool true, .str (setupStr ⟨1, 2, 0, 1, (fineO a)⟩)])).map fun b => V.bool (if true then !b else b)) = some (.bool false)) (
.ob (((V.beq (.agg [vi 127, vi 255]) (.agg [vi 127, vi 255])) && true) = true) (
.ob (True) (
.ob (dGet [.str (setupStr ⟨1, 2, 0, 1, (fineO a)⟩)]) (
.ob (pGet [.str (setupStr ⟨1, 2, 0, 1, (fineO a)⟩)] = (.tup [.agg [.int .u32 1, .int .u32 2, vi 0, vi 1, vi (fineO a).baud, vi (fineO a).silent, vi (fineO a).win, vi (fineO a).size, vi (fineO a).wait], .bool true])) (
.ob (dDeal [.agg (fineO b).vs, .agg (fineO a).vs]) (
.ob (pDeal [.agg (fineO b).vs, .agg (fineO a).vs] = (.tup [.agg (dv b a 2), .bool true])) (
.ob (((V.beq (vi (dealL (fineO b) (fineO a)).size) (vi (dealL (fineO b) (fineO a)).size)) && true) = true) (
.ob (((V.beq (vi (dealL (fineO b) (fineO a)).size) (vi (dealL (fineO b) (fineO a)).size)) && true) = true) (
.ob (((V.beq (.agg (dv b a 2)) (.agg (dv b a 2))) && ((V.beq (.agg [vi 0, vi 1]) (.agg [vi 0, vi 1])) && true)) = true) (
.ob (((V.beq (.agg (dv b a 2)) (.agg (dv b a 2))) && ((V.beq (.agg [vi 0, vi 1]) (.agg [vi 0, vi 1])) && true)) = true) (
.ob (((V.beq (.agg (dv b a 2)) (.agg (dv b a 2))) && ((V.beq (.agg [vi 0, vi 1]) (.agg [vi 0, vi 1])) && true)) = true) (
.ob (((V.beq (.agg (dv b a 2)) (.agg (dv b a 2))) && true) = true) (
.ob (((V.beq (vi 2) (vi 2)) && true) = true) (
.ob (((V.beq (vi 2) (vi 2)) && true) = true) (
.ob (((V.beq (vi 2) (vi 2)) && true) = true) (
.ob (dPut [.agg [.int .u32 2, .int .u32 1, vi 0, vi 1, vi (fineO b).baud, vi (fineO b).silent, vi (fineO b).win, vi (fineO b).size, vi (fineO b).wait]]) (
.ob (9 = 9 ∧ 0 ≤ (0 : Int) ∧ (0 : Int) < ((1 : Nat) : Int)) (
.ob (Gw.lenStr (.str (setupStr ⟨2, 1, 0, 1, (fineO b)⟩)) = some (vi 25)) (
.ob (Gw.lenStr (.str (setupStr ⟨2, 1, 0, 1, (fineO b)⟩)) = some (vi 25)) (
.ob (((V.beq (.str (setupStr ⟨2, 1, 0, 1, (fineO b)⟩)) (.str (setupStr ⟨2, 1, 0, 1, (fineO b)⟩))) && ((V.beq (.bool false) (.bool false)) && ((V.beq (.agg [vi 127, vi 255]) (.agg [vi 127, vi 255])) && true))) = true) (
.ob (((V.beq (vi 3) (vi 3)) && true) = true) (
.ob (((V.beq (.agg [vi 127, vi 255, .bool false, vi 3, vi 3, vi 0, vi 0, .bool true, .str (setupStr ⟨2, 1, 0, 1, (fineO b)⟩)]) (.agg [vi 127, vi 255, .bool false, vi 3, vi 3, vi 0, vi 0, .bool true, .str (setupStr ⟨2, 1, 0, 1, (fineO b)⟩)])) && true) = true) (
.ob (((eqV (.agg [.i, .i, .b, .i, .i, .i, .i, .b, .s]) (.agg [vi 127, vi 255, .bool false, vi 3, vi 3, vi 0, vi 0, .bool true, .str (setupStr ⟨2, 1, 0, 1, (fineO b)⟩)]) (.agg [vi 127, vi 255, .bool false, vi 3, vi 3, vi 0, vi 0, .bool true, .str (setupStr ⟨2, 1, 0, 1, (fineO b)⟩)])).map fun b => V.bool (if true then !b else b)) = some (.bool false)) (
.ob (((V.beq (.agg [vi 127, vi 255]) (.agg [vi 127, vi 255])) && true) = true) (
.ob (True) (
.ob (dGet [.str (setupStr ⟨2, 1, 0, 1, (fineO b)⟩)]) (
.ob (pGet [.str (setupStr ⟨2, 1, 0, 1, (fineO b)⟩)] = (.tup [.agg [.int .u32 2, .int .u32 1, vi 0, vi 1, vi (fineO b).baud, vi (fineO b).silent, vi (fineO b).win, vi (fineO b).size, vi (fineO b).wait], .bool true])) (
.ob (dDeal [.agg (fineO a).vs, .agg (fineO b).vs]) (
.ob (pDeal [.agg (fineO a).vs, .agg (fineO b).vs] = (.tup [.agg (dv a b 1), .bool true])) (
.ob (True) (
.ob (((V.beq (vi (dealL (fineO a) (fineO b)).size) (vi (dealL (fineO a) (fineO b)).size)) && true) = true) (
.ob (((V.beq (vi (dealL (fineO a) (fineO b)).size) (vi (dealL (fineO a) (fineO b)).size)) && true) = true) (
.ob (((V.beq (.agg (dv a b 1)) (.agg (dv a b 1))) && ((V.beq (.agg [vi 0, vi 1]) (.agg [vi 0, vi 1])) && true)) = true) (
.ob (((V.beq (.agg (dv a b 1)) (.agg (dv a b 1))) && ((V.beq (.agg [vi 0, vi 1]) (.agg [vi 0, vi 1])) && true)) = true) (
.ob (((V.beq (.agg (dv a b 1)) (.agg (dv a b 1))) && ((V.beq (.agg [vi 0, vi 1]) (.agg [vi 0, vi 1])) && true)) = true) (
.ob (((V.beq (.agg (dv a b 1)) (.agg (dv a b 1))) && true) = true) (
.ob (((V.beq (vi 1) (vi 1)) && true) = true) (
.ob (((V.beq (vi 1) (vi 1)) && true) = true) (
.ob (((V.beq (vi 1) (vi 1)) && true) = true) (
.ob ((0 ≤ ((if (8 : Int) < ((body : Str).length : Int) then 8 else ((body : Str).length : Int)) : Int) ∧ ((if (8 : Int) < ((body : Str).length : Int) then 8 else ((body : Str).length : Int)) : Int) ≤ (((body : Str).length : Nat) : Int)) ∧ (True)) (
.ob (((eqV (.agg [.i, .i, .i, .s]) (.agg [vi 3, vi 0, .int .u32 0, .str (cut8 body)]) (.agg [vi 3, vi 0, .int .u32 0, .str (cut8 body)])).map fun b => V.bool (if false then !b else b)) = some (.bool true)) (
.ob (binV .leq (vi (((cut8 body) : Str).length : Int)) (vi 64) = some (.bool true)) (
.ob (binV .gtr (vi (((cut8 body) : Str).length : Int)) (vi (if (64 : Int) < (dealL (fineO a) (fineO b)).size then 64 else (dealL (fineO a) (fineO b)).size)) = some (.bool false)) (
.ob ((1 = 1 ∧ ([.str (cut8 body)] : List V).length = 1 * 1) ∧ allOne [.str (cut8 body)] = true ∧ 1 * 16 ≤ 70368744177664) (
.ob ((SNLS2_1 a b body (vi 0) (vi 1) (vi 2) (.int .u32 2) (vi 1) (vi (dealL (fineO a) (fineO b)).baud) (vi 200) (vi (dealL (fineO a) (fineO b)).win) (vi (dealL (fineO a) (fineO b)).size) (vi 1) (.ptr 330 0) (vi 0) (vi 1) (vi 0) (.bool true) (vi 0) : Snap) = (loopLS2_1 a b body).S (.c0 0)) (
.ob (invLS2_1 (.c0 0)) (
.leaf (.bool true)))))))))))))))))))))))))))))))))))))))))))))))))))))))))))))))))))
set_option maxRecDepth 1000000 in
theorem treeLS2_1_eq (a : Gw.Offer) (b : Gw.Offer) (body : Str) : funT (mkXT (noPX) (oxLS2_1 a b body)) (mkXP (noPX)) (mkX (noPX) (oxLS2_1 a b body)) D (fun g => match g with | 76 => (fun k => match k with | 38 => some fun t h => (match h.n with | 93 => (vi 25, h) | 112 => (vi 25, h) | 253 => (vi 25, h) | _ => (vi 25, h)) | _ => none) | 44 => (fun k => match k with | 52 => some fun t h => (match h.n with | 128 => (.bool false, h) | _ => (.bool false, h)) | _ => none) | 31 => (fun k => match k with | 58 => some fun t h => (.bool true, h) | 63 => some fun t h => (.bool true, h) | _ => none) | 33 => (fun k => match k with | 15 => some fun t h => (.bool false, h) | _ => none) | _ => noOrc) (fun k => match k with | 3 => [21, 41, 108, 112, 117, 122, 127, 132] | 11 => [31, 41, 49, 60, 69, 72, 76] | 12 => [10, 15, 20, 25, 30, 31, 37, 41, 50, 57, 81] | 16 => [15, 22, 31, 52, 58, 74] | 21 => [8, 11, 15, 19, 23] | 22 => [16, 25, 30, 36, 39, 44, 47, 57, 67, 82, 86, 99] | 31 => [10, 33, 34, 40, 44, 49, 52, 58, 63] | 33 => [15] | 35 => [8, 25, 32] | 37 => [28, 30] | 44 => [8, 15, 26, 37, 41, 46, 52] | 48 => [14, 20, 28] | 49 => [13] | 67 => [14] | 71 => [10] | 76 => [11, 16, 20, 25, 30, 34, 39] | 77 => [8, 14, 19, 24, 34, 44] | 104 => [6, 9, 20] | 129 => [8, 19, 30, 34, 38] | 130 => [8, 13, 18, 21] | _ => []) 12 noOrc [21, 41, 108, 112, 117, 122, 127, 132] (ltLS2_1 a b body) (dOf 3) [.agg a.vs, .agg b.vs, .bool true, .str body] (tabH kT0 kT1 kT2 3) (fun v _ => v) = treeLS2_1 a b body := by kernel_rfl
theorem satLS2_1 (a : Gw.Offer) (b : Gw.Offer) (body : Str) (hwa : loL (fineO a).wait = 2) (hwb : loL (fineO b).wait = 1) : (treeLS2_1 a b body).sat fun v => v = .bool true :=
 sat_ob trivial (
sat_ob (by simp only [V.beq_refl, Bool.and_true]) (
sat_ob trivial (
sat_ob trivial (
sat_ob (may_of (mayO_fine a)) (
sat_ob (by simp only [V.beq_refl, Bool.and_true]) (
sat_ob trivial (
sat_ob (may_of (mayO_fine b)) (
sat_ob trivial (
sat_ob (by decide) (
sat_ob (by simp only [V.beq_refl, Bool.and_true]) (
sat_ob (by simp only [V.beq_refl, Bool.and_true]) (
sat_ob (okSet 1 2 0 1 a (by decide) (by decide) (by decide) (by decide)) (
sat_ob (by decide) (
sat_ob rfl (
sat_ob rfl (
sat_ob (by simp only [V.beq_refl, Bool.and_true]) (
sat_ob (by simp only [V.beq_refl, Bool.and_true]) (
sat_ob (by simp only [V.beq_refl, Bool.and_true]) (
sat_ob (by simp [eqV, eqCells]) (
sat_ob (by simp only [V.beq_refl, Bool.and_true]) (
sat_ob trivial (
sat_ob ⟨⟨1, 2, 0, 1, (fineO a)⟩, (okSet 1 2 0 1 a (by decide) (by decide) (by decide) (by decide)), rfl⟩ (
sat_ob (get_put ⟨1, 2, 0, 1, (fineO a)⟩ (okSet 1 2 0 1 a (by decide) (by decide) (by decide) (by decide))) (
sat_ob ⟨(mayO_fine b), (mayO_fine a)⟩ (
sat_ob (by show V.tup [.agg [vi _, vi _, vi _, vi _, vi (loL (fineO a).wait)], .bool true] = _; rw [hwa]; rfl) (
sat_ob (by simp only [V.beq_refl, Bool.and_true]) (
sat_ob (by simp only [V.beq_refl, Bool.and_true]) (
sat_ob (by simp only [V.beq_refl, Bool.and_true]) (
sat_ob (by simp only [V.beq_refl, Bool.and_true]) (
sat_ob (by simp only [V.beq_refl, Bool.and_true]) (
sat_ob (by simp only [V.beq_refl, Bool.and_true]) (
sat_ob (by simp only [V.beq_refl, Bool.and_true]) (
sat_ob (by simp only [V.beq_refl, Bool.and_true]) (
sat_ob (by simp only [V.beq_refl, Bool.and_true]) (
sat_ob (okSet 2 1 0 1 b (by decide) (by decide) (by decide) (by decide)) (
sat_ob (by decide) (
sat_ob rfl (
sat_ob rfl (
sat_ob (by simp only [V.beq_refl, Bool.and_true]) (
sat_ob (by simp only [V.beq_refl, Bool.and_true]) (
sat_ob (by simp only [V.beq_refl, Bool.and_true]) (
sat_ob (by simp [eqV, eqCells]) (
sat_ob (by simp only [V.beq_refl, Bool.and_true]) (
sat_ob trivial (
sat_ob ⟨⟨2, 1, 0, 1, (fineO b)⟩, (okSet 2 1 0 1 b (by decide) (by decide) (by decide) (by decide)), rfl⟩ (
sat_ob (get_put ⟨2, 1, 0, 1, (fineO b)⟩ (okSet 2 1 0 1 b (by decide) (by decide) (by decide) (by decide))) (
sat_ob ⟨(mayO_fine a), (mayO_fine b)⟩ (
sat_ob (by show V.tup [.agg [vi _, vi _, vi _, vi _, vi (loL (fineO b).wait)], .bool true] = _; rw [hwb]; rfl) (
sat_ob trivial (
sat_ob (by simp only [V.beq_refl, Bool.and_true]) (
sat_ob (by simp only [V.beq_refl, Bool.and_true]) (
sat_ob (by simp only [V.beq_refl, Bool.and_true]) (
sat_ob (by simp only [V.beq_refl, Bool.and_true]) (
sat_ob (by simp only [V.beq_refl, Bool.and_true]) (
sat_ob (by simp only [V.beq_refl, Bool.and_true]) (
sat_ob (by simp only [V.beq_refl, Bool.and_true]) (
sat_ob (by simp only [V.beq_refl, Bool.and_true]) (
sat_ob (by simp only [V.beq_refl, Bool.and_true]) (
sat_ob ⟨by split <;> omega, trivial⟩ (
sat_ob (by simp [eqV, eqCells]) (
sat_ob (by have := cut8_len body; simp [binV, binI]; omega) (
sat_ob (gtr8 body (size8 a b)) (
sat_ob (by first | rfl | simp [V.beq, V.beqs, allOne, V.one, byteVs, binV, binI, eqV, eqCells]) (
sat_ob (by kernel_rfl) (
sat_ob (show 0 < 1 by decide) (
sat_leaf (rfl)))))))))))))))))))))))))))))))))))))))))))))))))))))))))))))))))))
theorem loopsLS2_1 : loopsIn 0 (dOf 3).body = [(0, lpLS2_1)] := by kernel_rfl
set_option maxRecDepth 1000000 in
theorem runLS2_1 (a : Gw.Offer) (b : Gw.Offer) (body : Str) (hwa : loL (fineO a).wait = 2) (hwb : loL (fineO b).wait = 1) : Run Tryz.prog 3 [.agg a.vs, .agg b.vs, .bool true, .str body] (tabH kT0 kT1 kT2 3) fun v _ => v = .bool true := by
  refine run_loops mixed (show TabX Tryz.prog noPX (oxLS2_1 a b body) from ((((((TabX.nil.addO ans_begun).addT (ans_fine noV)).addT (ans_may (fun n => match n with | 12 => some (.bool true) | 20 => some (.bool true) | _ => none))).addT (ans_deal (fun n => match n with | 151 => some (.tup [.agg (dv b a 2), .bool true]) | 311 => some (.tup [.agg (dv a b 1), .bool true]) | _ => none))).addT (ans_put noV)).addT (ans_get (fun n => match n with | 138 => some (.tup [.agg [.int .u32 1, .int .u32 2, vi 0, vi 1, vi (fineO a).baud, vi (fineO a).silent, vi (fineO a).win, vi (fineO a).size, vi (fineO a).wait], .bool true]) | 298 => some (.tup [.agg [.int .u32 2, .int .u32 1, vi 0, vi 1, vi (fineO b).baud, vi (fineO b).silent, vi (fineO b).win, vi (fineO b).size, vi (fineO b).wait], .bool true]) | _ => none)))) tabD (dIs (by kernel_rfl)) (lt := ltLS2_1 a b body) (fun hint p hp => ?_) (treeLS2_1_eq a b body) (satLS2_1 a b body hwa hwb)
  rw [loopsLS2_1] at hp
  simp only [List.mem_cons, List.not_mem_nil, or_false] at hp
  subst hp
  exact ltLS2_1_ok a b body hwa hwb hint
inductive ILS2_2
  | c0 (j : Nat)
  | c1 (j : Nat)
  | c2 (j : Nat)
  | c3 (j : Nat)
  | c4 (j : Nat)
  | c5 (j : Nat)
  | c6 (j : Nat)
  | c7 (j : Nat)
  | c8 (j : Nat)
  | c9 (j : Nat)
def RWLS2_2 (a : Gw.Offer) (b : Gw.Offer) (body : Str) (w0 : V) (w1 : V) (w2 : V) (w3 : V) (w4 : V) (w5 : V) (w6 : V) (w7 : V) (w8 : V) (w9 : V) (w10 : V) (w11 : V) (w12 : V) (w13 : V) (w14 : V) (w15 : V) : List (Option Blk) := [some (.cells true (zsV .u8 kT0)), some (.cells true (zsV .u8 kT1)), some (.cells true (zsV .u8 kT2)), cF (fineO a).vs, cF (fineO b).vs, none, cF (fineO a).vs, cF (fineO b).vs, none, none, cF (fineO a).vs, none, none, none, none, none, cF [.int .u32 1, vi 0, vi (fineO a).baud, vi (fineO a).silent, vi (fineO a).win, vi (fineO a).size, vi (fineO a).wait, w2, w3, vi 0, w4, w5, w6, w7, w8, w9, w10, vi 1, vi 0, vi 0, vi 0, w11, w12, w13, .bool false, .bool false, .bool false, .nils], none, cF (fineO b).vs, none, none, none, none, none, cF [.int .u32 2, vi 1, vi (fineO b).baud, vi (fineO b).silent, vi (fineO b).win, vi (fineO b).size, vi (fineO b).wait, vi 2, .int .u32 1, vi 0, vi 1, vi (dealL (fineO b) (fineO a)).baud, vi 200, vi (dealL (fineO b) (fineO a)).win, vi (dealL (fineO b) (fineO a)).size, vi 2, .ptr 170 0, vi 0, vi 0, vi 0, vi 0, vi 0, vi 0, vi 3, .bool false, .bool false, .bool false, .nils], none, some (.cells false [vi 2, vi 0, .int .u32 2, .str []]), none, some (.cells false [vi 2, vi 0, .int .u32 2, .str []]), none, none, none, none, some (.cells false [vi 2, vi 0, .int .u32 2, .str []]), none, cF [vi 0, vi 1], none, none, none, none, none, none, cF [vi 127, vi 255, .bool true, vi 3, vi 2, vi 0, vi 0, .bool true, .str (setupStr ⟨1, 2, 0, 1, (fineO a)⟩)], none, none, cF [vi 0, vi 1], cF [vi 127, vi 255, .bool true, vi 3, vi 2, vi 0, vi 0, .bool true, .str (setupStr ⟨1, 2, 0, 1, (fineO a)⟩)], cF [vi 127, vi 255], cF [vi 127, vi 255], cF [vi 127, vi 255, .bool true, vi 3, vi 2, vi 0, vi 0, .bool true, .str (setupStr ⟨1, 2, 0, 1, (fineO a)⟩)], none, none, cF [vi 127, vi 255, .bool true, vi 3, vi 2, vi 0, vi 0, .bool true, .str (setupStr ⟨1, 2, 0, 1, (fineO a)⟩)], none, cF [vi 127, vi 255, .bool true, vi 3, vi 2, vi 0, vi 0, .bool true, .str (setupStr ⟨1, 2, 0, 1, (fineO a)⟩)], none, none, none, none, none, none, some (.cells false [vi 127, vi 255, .bool true, .iface 117 (.agg [vi 2, .bool true]), .str (setupStr ⟨1, 2, 0, 1, (fineO a)⟩)]), none, none, cF [vi 127, vi 255, .bool true, vi 3, vi 2, vi 0, vi 0, .bool true, .str (setupStr ⟨1, 2, 0, 1, (fineO a)⟩)], some (.cells false [vi 127, vi 255, .bool true, .iface 117 (.agg [vi 2, .bool true]), .str (setupStr ⟨1, 2, 0, 1, (fineO a)⟩)]), none, none, none, none, none, none, none, none, some (.cells false [vi 127, vi 255, .bool true, .iface 117 (.agg [vi 2, .bool true]), .str (setupStr ⟨1, 2, 0, 1, (fineO a)⟩)]), none, some (.cells false [vi 127, vi 255, .bool true, .iface 117 (.agg [vi 2, .bool true]), .str (setupStr ⟨1, 2, 0, 1, (fineO a)⟩)]), none, none, none, none, none, none, none, cF [vi 0, vi 0, .bool false], none, none, none, none, cF [vi 127, vi 255], none, cF [vi 2, .bool true], none, some (.cells false [vi 127, vi 255, .bool true, .iface 117 (.agg [vi 2, .bool true]), .str (setupStr ⟨1, 2, 0, 1, (fineO a)⟩)]), cF [vi 127, vi 255, .bool true, vi 3, vi 2, vi 0, vi 0, .bool true, .str (setupStr ⟨1, 2, 0, 1, (fineO a)⟩)], some (.cells false [vi 127, vi 255, .bool true, .iface 117 (.agg [vi 2, .bool true]), .str (setupStr ⟨1, 2, 0, 1, (fineO a)⟩)]), none, none, none, none, none, none, none, cF [vi 0, vi 0, .bool false], none, none, none, none, cF [vi 127, vi 255], none, cF [vi 2, .bool true], none, none, none, none, none, none, none, none, none, none, none, cF [vi 127, vi 255, .bool true, vi 3, vi 2, vi 0, vi 0, .bool true, .str (setupStr ⟨1, 2, 0, 1, (fineO a)⟩)], none, cF [vi 2, .bool true], none, cF [vi 2, .bool true], none, cF [vi 127, vi 255], none, none, none, none, none, none, cF [.int .u32 1, .int .u32 2, vi 0, vi 1, vi (fineO a).baud, vi (fineO a).silent, vi (fineO a).win, vi (fineO a).size, vi (fineO a).wait], none, none, none, none, none, none, none, none, none, none, none, none, cF (dv b a 2), none, none, cF [.int .u32 1, .int .u32 2, vi 0, vi 1, vi (fineO a).baud, vi (fineO a).silent, vi (fineO a).win, vi (fineO a).size, vi (fineO a).wait], cF (dv b a 2), none, cF [vi 0, vi 1], cF (dv b a 2), none, cF (dv b a 2), none, none, none, none, none, none, none, none, none, none, none, none, cF [vi 2, vi (if (64 : Int) < (dealL (fineO b) (fineO a)).size then 64 else (dealL (fineO b) (fineO a)).size), .ptr 176 0, .ptr 179 0, .bool false], none, none, none, none, none, cF [vi (if (7 : Int) < (if (1 : Int) > (dealL (fineO b) (fineO a)).win then 1 else (dealL (fineO b) (fineO a)).win) then 7 else (if (1 : Int) > (dealL (fineO b) (fineO a)).win then 1 else (dealL (fineO b) (fineO a)).win)), .nils, vi 0, vi 0], none, none, cF [vi 0, .bool false], none, none, none, none, none, none, none, some (.cells false [vi 2, .int .u32 1, .str [], .nils]), none, cF [vi 0, vi 1], cF [vi 127, vi 255, .bool false, vi 3, vi 3, vi 0, vi 0, .bool true, .str (setupStr ⟨2, 1, 0, 1, (fineO b)⟩)], cF [vi 127, vi 255], cF [vi 127, vi 255], cF [vi 127, vi 255, .bool false, vi 3, vi 3, vi 0, vi 0, .bool true, .str (setupStr ⟨2, 1, 0, 1, (fineO b)⟩)], cF [vi 127, vi 255, .bool false, vi 3, vi 3, vi 0, vi 0, .bool true, .str (setupStr ⟨2, 1, 0, 1, (fineO b)⟩)], none, none, none, cF [vi 127, vi 255, .bool false, vi 3, vi 3, vi 0, vi 0, .bool true, .str (setupStr ⟨2, 1, 0, 1, (fineO b)⟩)], none, none, none, none, none, none, none, none, none, none, none, none, none, cF [vi 127, vi 255, .bool false, vi 3, vi 3, vi 0, vi 0, .bool true, .str (setupStr ⟨2, 1, 0, 1, (fineO b)⟩)], none, cF [vi 127, vi 255, .bool false, vi 3, vi 3, vi 0, vi 0, .bool true, .str (setupStr ⟨2, 1, 0, 1, (fineO b)⟩)], none, none, none, none, none, none, some (.cells false [vi 127, vi 255, .bool false, .iface 117 (.agg [vi 3, .bool true]), .str (setupStr ⟨2, 1, 0, 1, (fineO b)⟩)]), none, none, cF [vi 127, vi 255, .bool false, vi 3, vi 3, vi 0, vi 0, .bool true, .str (setupStr ⟨2, 1, 0, 1, (fineO b)⟩)], some (.cells false [vi 127, vi 255, .bool false, .iface 117 (.agg [vi 3, .bool true]), .str (setupStr ⟨2, 1, 0, 1, (fineO b)⟩)]), none, none, none, none, none, none, none, none, some (.cells false [vi 127, vi 255, .bool false, .iface 117 (.agg [vi 3, .bool true]), .str (setupStr ⟨2, 1, 0, 1, (fineO b)⟩)]), none, some (.cells false [vi 127, vi 255, .bool false, .iface 117 (.agg [vi 3, .bool true]), .str (setupStr ⟨2, 1, 0, 1, (fineO b)⟩)]), none, none, none, none, none, none, none, cF [vi 0, vi 0, .bool false], none, none, none, none, cF [vi 127, vi 255], none, cF [vi 3, .bool true], none, some (.cells false [vi 127, vi 255, .bool false, .iface 117 (.agg [vi 3, .bool true]), .str (setupStr ⟨2, 1, 0, 1, (fineO b)⟩)]), cF [vi 127, vi 255, .bool false, vi 3, vi 3, vi 0, vi 0, .bool true, .str (setupStr ⟨2, 1, 0, 1, (fineO b)⟩)], some (.cells false [vi 127, vi 255, .bool false, .iface 117 (.agg [vi 3, .bool true]), .str (setupStr ⟨2, 1, 0, 1, (fineO b)⟩)]), none, none, none, none, none, none, none, cF [vi 0, vi 0, .bool false], none, none, none, none, cF [vi 127, vi 255], none, cF [vi 3, .bool true], none, none, none, none, none, none, none, none, none, none, none, cF [vi 127, vi 255, .bool false, vi 3, vi 3, vi 0, vi 0, .bool true, .str (setupStr ⟨2, 1, 0, 1, (fineO b)⟩)], none, cF [vi 3, .bool true], none, cF [vi 3, .bool true], none, cF [vi 127, vi 255], none, none, none, none, none, none, cF [.int .u32 2, .int .u32 1, vi 0, vi 1, vi (fineO b).baud, vi (fineO b).silent, vi (fineO b).win, vi (fineO b).size, vi (fineO b).wait], none, none, none, none, none, none, none, none, none, none, none, none, cF (dv a b 2), none, none, cF [.int .u32 2, .int .u32 1, vi 0, vi 1, vi (fineO b).baud, vi (fineO b).silent, vi (fineO b).win, vi (fineO b).size, vi (fineO b).wait], cF (dv a b 2), none, cF [vi 0, vi 1], cF (dv a b 2), none, cF (dv a b 2), none, none, none, none, none, none, none, none, none, none, none, none, cF [vi 1, vi (if (64 : Int) < (dealL (fineO a) (fineO b)).size then 64 else (dealL (fineO a) (fineO b)).size), .ptr 336 0, .ptr 339 0, w14], none, none, none, none, none, cF [vi (if (7 : Int) < (if (1 : Int) > (dealL (fineO a) (fineO b)).win then 1 else (dealL (fineO a) (fineO b)).win) then 7 else (if (1 : Int) > (dealL (fineO a) (fineO b)).win then 1 else (dealL (fineO a) (fineO b)).win)), .slice 369 0 1 1 none, vi 0, w15], none, none, cF [vi 0, .bool false], none, none, none, none, none, none, none, some (.cells false [vi 2, .int .u32 2, .str [], .nils]), none, cF [vi 3, vi 0, .int .u32 0, .str (cut8 body)], none, cF [vi 3, vi 0, .int .u32 0, .str (cut8 body)], none, none, none, none, cF [vi 3, vi 0, .int .u32 0, .str (cut8 body)], none, none, none, none, none, none, none, cF [.str (cut8 body)], none, none, none, none, cF [.str (cut8 body)], none, none, none, none, cF (dv a b 2), none, none, cF (dv a b 2)]
def SNLS2_2 (a : Gw.Offer) (b : Gw.Offer) (body : Str) (w0 : V) (w1 : V) (w2 : V) (w3 : V) (w4 : V) (w5 : V) (w6 : V) (w7 : V) (w8 : V) (w9 : V) (w10 : V) (w11 : V) (w12 : V) (w13 : V) (w14 : V) (w15 : V) : Snap := ([.agg a.vs, .agg b.vs, .bool true, .str body, .ptr 3 0, .ptr 4 0, .bool true, .ptr 16 0, .ptr 24 0, .ptr 16 0, .ptr 374 0, .int .u32 2, w0, w1, .bool true, .bool true, .bool false, .agg a.vs, .agg (fineO a).vs, .agg b.vs, .agg (fineO b).vs, .tup [.ptr 16 0, .ptr 24 0], .agg (fineO a).vs, .agg (fineO b).vs, .tup [.ptr 16 0, .ptr 24 0], .ptr 16 0, .ptr 24 0, .ptr 16 0, .bool false, .bool false, .ptr 24 0, .bool false, .bool false, .ptr 24 0, .bool true, .ptr 16 0, .ptr 16 0, .str body, .str (cut8 body), .agg [vi 3, vi 0, .int .u32 0, .str (cut8 body)], .ptr 16 0, .agg (dv a b 2), .ptr 16 0, .int .u32 2], RWLS2_2 a b body w0 w1 w2 w3 w4 w5 w6 w7 w8 w9 w10 w11 w12 w13 w14 w15)
def SSLS2_2 (a : Gw.Offer) (b : Gw.Offer) (body : Str) (i : ILS2_2) : Snap := match i with
  | .c0 j => SNLS2_2 a b body (vi 0) (vi 1) (vi 2) (.int .u32 2) (vi 1) (vi (dealL (fineO a) (fineO b)).baud) (vi 200) (vi (dealL (fineO a) (fineO b)).win) (vi (dealL (fineO a) (fineO b)).size) (vi 2) (.ptr 330 0) (vi 0) (vi 2) (vi 0) (.bool true) (vi 0)
  | .c1 j => SNLS2_2 a b body (vi 0) (vi 2) (vi 2) (.int .u32 2) (vi 1) (vi (dealL (fineO a) (fineO b)).baud) (vi 200) (vi (dealL (fineO a) (fineO b)).win) (vi (dealL (fineO a) (fineO b)).size) (vi 2) (.ptr 330 0) (vi 0) (vi 1) (vi 1) (.bool true) (vi 0)
  | .c2 j => SNLS2_2 a b body (vi 0) (vi 3) (vi 2) (.int .u32 2) (vi 1) (vi (dealL (fineO a) (fineO b)).baud) (vi 200) (vi (dealL (fineO a) (fineO b)).win) (vi (dealL (fineO a) (fineO b)).size) (vi 2) (.ptr 330 0) (vi 0) (vi 0) (vi 2) (.bool true) (vi 0)
  | .c3 j => SNLS2_2 a b body (vi 0) (vi (4 + (j : Int))) (vi 2) (.int .u32 2) (vi 1) (vi (dealL (fineO a) (fineO b)).baud) (vi 200) (vi (dealL (fineO a) (fineO b)).win) (vi (dealL (fineO a) (fineO b)).size) (vi 2) (.ptr 330 0) (vi (70 - (j : Int))) (vi 0) (vi (3 + (j : Int))) (.bool false) (vi 1)
  | .c4 j => SNLS2_2 a b body (vi 0) (vi 73) (vi 2) (.int .u32 2) (vi 1) (vi (dealL (fineO a) (fineO b)).baud) (vi 200) (vi (dealL (fineO a) (fineO b)).win) (vi (dealL (fineO a) (fineO b)).size) (vi 2) (.ptr 330 0) (vi 1) (vi 0) (vi 72) (.bool false) (vi 1)
  | .c5 j => SNLS2_2 a b body (vi 0) (vi (74 + (j : Int))) (vi 2) (.int .u32 2) (vi 1) (vi (dealL (fineO a) (fineO b)).baud) (vi 200) (vi (dealL (fineO a) (fineO b)).win) (vi (dealL (fineO a) (fineO b)).size) (vi 2) (.ptr 330 0) (vi (70 - (j : Int))) (vi 0) (vi (73 + (j : Int))) (.bool false) (vi 1)
  | .c6 j => SNLS2_2 a b body (vi 0) (vi 143) (vi 2) (.int .u32 2) (vi 1) (vi (dealL (fineO a) (fineO b)).baud) (vi 200) (vi (dealL (fineO a) (fineO b)).win) (vi (dealL (fineO a) (fineO b)).size) (vi 2) (.ptr 330 0) (vi 1) (vi 0) (vi 142) (.bool false) (vi 1)
  | .c7 j => SNLS2_2 a b body (vi 0) (vi (144 + (j : Int))) (vi 2) (.int .u32 2) (vi 1) (vi (dealL (fineO a) (fineO b)).baud) (vi 200) (vi (dealL (fineO a) (fineO b)).win) (vi (dealL (fineO a) (fineO b)).size) (vi 2) (.ptr 330 0) (vi (70 - (j : Int))) (vi 0) (vi (143 + (j : Int))) (.bool false) (vi 1)
  | .c8 j => SNLS2_2 a b body (vi 0) (vi 200) (vi 2) (.int .u32 2) (vi 1) (vi (dealL (fineO a) (fineO b)).baud) (vi 200) (vi (dealL (fineO a) (fineO b)).win) (vi (dealL (fineO a) (fineO b)).size) (vi 2) (.ptr 330 0) (vi 14) (vi 0) (vi 199) (.bool false) (vi 1)
  | .c9 j => SNLS2_2 a b body (vi 1) (vi 201) (vi 0) (.int .u32 0) (vi 0) (vi 0) (vi 0) (vi 0) (vi 0) (vi 0) (.nilp) (vi 0) (vi 0) (vi 0) (.bool false) (vi 1)
def XLS2_2 (a : Gw.Offer) (b : Gw.Offer) (body : Str) : Snap := ([.agg a.vs, .agg b.vs, .bool true, .str body, .ptr 3 0, .ptr 4 0, .bool true, .ptr 16 0, .ptr 24 0, .ptr 16 0, .ptr 374 0, vi 1, .bool true, .bool true, .bool false, .agg a.vs, .agg (fineO a).vs, .agg b.vs, .agg (fineO b).vs, .tup [.ptr 16 0, .ptr 24 0], .agg (fineO a).vs, .agg (fineO b).vs, .tup [.ptr 16 0, .ptr 24 0], .ptr 16 0, .ptr 24 0, .ptr 16 0, .bool false, .bool false, .ptr 24 0, .bool false, .bool false, .ptr 24 0, .bool true, .ptr 16 0, .ptr 16 0, .str body, .str (cut8 body), .agg [vi 3, vi 0, .int .u32 0, .str (cut8 body)], .ptr 16 0, .agg (dv a b 2), .ptr 16 0, .int .u32 2], RWLS2_2 a b body (vi 0) (vi 1) (vi 0) (.int .u32 0) (vi 0) (vi 0) (vi 0) (vi 0) (vi 0) (vi 0) (.nilp) (vi 0) (vi 0) (vi 0) (.bool false) (vi 1))
def invLS2_2 (i : ILS2_2) : Prop := match i with
  | .c0 j => j < 1
  | .c1 j => j < 1
  | .c2 j => j < 1
  | .c3 j => j < 69
  | .c4 j => j < 1
  | .c5 j => j < 69
  | .c6 j => j < 1
  | .c7 j => j < 56
  | .c8 j => j < 1
  | .c9 j => j < 1
def muLS2_2 (i : ILS2_2) : Nat := match i with
  | .c0 j => 201 - (0 + j)
  | .c1 j => 201 - (1 + j)
  | .c2 j => 201 - (2 + j)
  | .c3 j => 201 - (3 + j)
  | .c4 j => 201 - (72 + j)
  | .c5 j => 201 - (73 + j)
  | .c6 j => 201 - (142 + j)
  | .c7 j => 201 - (143 + j)
  | .c8 j => 201 - (199 + j)
  | .c9 j => 201 - (200 + j)
def loopLS2_2 (a : Gw.Offer) (b : Gw.Offer) (body : Str) : LoopD ILS2_2 where
  nt := 134
  fr := fun ex => match ex with | .normal => ⟨[0, 1, 2, 3, 4, 5, 9, 10, 11, 12, 13, 14, 15, 16, 21, 22, 23, 24, 25, 26, 27, 28, 29, 30, 31, 32, 33, 34, 35, 36, 37, 38, 39, 40, 41, 42, 43, 44, 45, 46, 48, 49, 50, 51], 378, []⟩ | .exit _ => ⟨[0, 1, 2, 3, 4, 5, 9, 10, 11, 12, 13, 15, 21, 22, 23, 24, 25, 26, 27, 28, 29, 30, 31, 32, 33, 34, 35, 36, 37, 38, 39, 40, 41, 42, 43, 44, 45, 46, 48, 49, 50, 51], 378, []⟩ | .ret => ⟨[], 378, []⟩
  S := SSLS2_2 a b body
  out := fun i => .ob (invLS2_2 i) (.leaf ((.exit 0), XLS2_2 a b body))
  pick := fun _ => .c0 0
def ltLS2_2 (a : Gw.Offer) (b : Gw.Offer) (body : Str) : Lt := fun k => match k with | 0 => (loopLS2_2 a b body).lt | _ => fun _ _ => .fail
def lpLS2_2 : DC := (((loopsIn 0 (dOf 3).body)[0]?).getD (0, .skip)).2
def orcLS2_2 (a : Gw.Offer) (b : Gw.Offer) (body : Str) (i : ILS2_2) : Orc := match i with
  | .c0 j => noOrc
  | .c1 j => noOrc
  | .c2 j => noOrc
  | .c3 j => (fun k => match k with | 55 => some fun t h => (.bool true, h) | 57 => some fun t h => (vi (5 + (j : Int)), h) | _ => none)
  | .c4 j => noOrc
  | .c5 j => (fun k => match k with | 55 => some fun t h => (.bool true, h) | 57 => some fun t h => (vi (75 + (j : Int)), h) | _ => none)
  | .c6 j => noOrc
  | .c7 j => (fun k => match k with | 55 => some fun t h => (.bool true, h) | 57 => some fun t h => (vi (145 + (j : Int)), h) | _ => none)
  | .c8 j => noOrc
  | .c9 j => noOrc
def orcsLS2_2 (a : Gw.Offer) (b : Gw.Offer) (body : Str) (i : ILS2_2) : Nat → Orc := match i with
  | .c0 j => (fun _ => noOrc)
  | .c1 j => (fun _ => noOrc)
  | .c2 j => (fun g => match g with | 105 => (fun k => match k with | 18 => some fun t h => (vi 1, h) | _ => none) | _ => noOrc)
  | .c3 j => (fun g => match g with | 35 => (fun k => match k with | 13 => some fun t h => (vi (4 + (j : Int)), h) | 25 => some fun t h => (.bool false, h) | 32 => some fun t h => (.bool false, h) | 37 => some fun t h => (vi (69 - (j : Int)), h) | 44 => some fun t h => (.bool true, h) | _ => none) | _ => noOrc)
  | .c4 j => (fun g => match g with | 105 => (fun k => match k with | 18 => some fun t h => (vi 1, h) | _ => none) | _ => noOrc)
  | .c5 j => (fun g => match g with | 35 => (fun k => match k with | 13 => some fun t h => (vi (74 + (j : Int)), h) | 25 => some fun t h => (.bool false, h) | 32 => some fun t h => (.bool false, h) | 37 => some fun t h => (vi (69 - (j : Int)), h) | 44 => some fun t h => (.bool true, h) | _ => none) | _ => noOrc)
  | .c6 j => (fun g => match g with | 105 => (fun k => match k with | 18 => some fun t h => (vi 1, h) | _ => none) | _ => noOrc)
  | .c7 j => (fun g => match g with | 35 => (fun k => match k with | 13 => some fun t h => (vi (144 + (j : Int)), h) | 25 => some fun t h => (.bool false, h) | 32 => some fun t h => (.bool false, h) | 37 => some fun t h => (vi (69 - (j : Int)), h) | 44 => some fun t h => (.bool true, h) | _ => none) | _ => noOrc)
  | .c8 j => (fun _ => noOrc)
  | .c9 j => (fun _ => noOrc)
def stsLS2_2 (i : ILS2_2) : Nat → List Nat := match i with
  | .c0 j => (fun k => match k with | 3 => [55, 65] | 16 => [15, 22] | 35 => [8, 25, 32] | _ => [])
  | .c1 j => (fun k => match k with | 3 => [55, 65] | 16 => [15, 22] | 35 => [8, 25, 32] | _ => [])
  | .c2 j => (fun k => match k with | 3 => [55, 65] | 16 => [15, 22, 31, 52, 74, 80, 86, 96] | 35 => [8, 25, 32] | 38 => [9] | 40 => [7, 20, 34] | 72 => [11, 17, 34] | 73 => [13] | 105 => [30] | _ => [])
  | .c3 j => (fun k => match k with | 3 => [55, 65] | 16 => [15, 22, 31, 52, 74, 80] | 35 => [8, 25, 32, 44] | 38 => [9] | _ => [])
  | .c4 j => (fun k => match k with | 3 => [55, 65] | 16 => [15, 22, 31, 52, 74, 80, 86, 96] | 35 => [8, 25, 32, 44, 49, 55, 68, 73, 78] | 38 => [9] | 40 => [7, 20, 34] | 69 => [9, 16] | 72 => [11, 17, 34] | 73 => [13] | 105 => [30] | _ => [])
  | .c5 j => (fun k => match k with | 3 => [55, 65] | 16 => [15, 22, 31, 52, 74, 80] | 35 => [8, 25, 32, 44] | 38 => [9] | _ => [])
  | .c6 j => (fun k => match k with | 3 => [55, 65] | 16 => [15, 22, 31, 52, 74, 80, 86, 96] | 35 => [8, 25, 32, 44, 49, 55, 68, 73, 78] | 38 => [9] | 40 => [7, 20, 34] | 69 => [9, 16] | 72 => [11, 17, 34] | 73 => [13] | 105 => [30] | _ => [])
  | .c7 j => (fun k => match k with | 3 => [55, 65] | 16 => [15, 22, 31, 52, 74, 80] | 35 => [8, 25, 32, 44] | 38 => [9] | _ => [])
  | .c8 j => (fun k => match k with | 3 => [55, 65, 68, 73, 80, 85, 92, 100] | 16 => [15] | 35 => [8, 25] | _ => [])
  | .c9 j => (fun k => match k with | 3 => [55] | _ => [])
def stLS2_2 (i : ILS2_2) : List Nat := match i with
  | .c0 j => [55, 65]
  | .c1 j => [55, 65]
  | .c2 j => [55, 65]
  | .c3 j => [55, 65]
  | .c4 j => [55, 65]
  | .c5 j => [55, 65]
  | .c6 j => [55, 65]
  | .c7 j => [55, 65]
  | .c8 j => [55, 65, 68, 73, 80, 85, 92, 100]
  | .c9 j => [55]
def treeLS2_2_0 (a : Gw.Offer) (b : Gw.Offer) (body : Str) (j : Nat) : DT (Ex × Snap) :=
  .leaf (.normal, SNLS2_2 a b body (vi 0) (vi 2) (vi 2) (.int .u32 2) (vi 1) (vi (dealL (fineO a) (fineO b)).baud) (vi 200) (vi (dealL (fineO a) (fineO b)).win) (vi (dealL (fineO a) (fineO b)).size) (vi 2) (.ptr 330 0) (vi 0) (vi 1) (vi 1) (.bool true) (vi 0))
set_option maxRecDepth 1000000 in
theorem treeLS2_2_0_eq (a : Gw.Offer) (b : Gw.Offer) (body : Str) (j : Nat) : rnd (orcsLS2_2 a b body (.c0 j)) (stsLS2_2 (.c0 j)) (orcLS2_2 a b body (.c0 j)) (stLS2_2 (.c0 j)) noLt 0 lpLS2_2 ((loopLS2_2 a b body).t0 (.c0 j)) [] ((loopLS2_2 a b body).h0 (.c0 j)) (loopLS2_2 a b body).end_ = treeLS2_2_0 a b body j := by kernel_rfl
def treeLS2_2_1 (a : Gw.Offer) (b : Gw.Offer) (body : Str) (j : Nat) : DT (Ex × Snap) :=
  .leaf (.normal, SNLS2_2 a b body (vi 0) (vi 3) (vi 2) (.int .u32 2) (vi 1) (vi (dealL (fineO a) (fineO b)).baud) (vi 200) (vi (dealL (fineO a) (fineO b)).win) (vi (dealL (fineO a) (fineO b)).size) (vi 2) (.ptr 330 0) (vi 0) (vi 0) (vi 2) (.bool true) (vi 0))
set_option maxRecDepth 1000000 in
theorem treeLS2_2_1_eq (a : Gw.Offer) (b : Gw.Offer) (body : Str) (j : Nat) : rnd (orcsLS2_2 a b body (.c1 j)) (stsLS2_2 (.c1 j)) (orcLS2_2 a b body (.c1 j)) (stLS2_2 (.c1 j)) noLt 0 lpLS2_2 ((loopLS2_2 a b body).t0 (.c1 j)) [] ((loopLS2_2 a b body).h0 (.c1 j)) (loopLS2_2 a b body).end_ = treeLS2_2_1 a b body j := by kernel_rfl
def treeLS2_2_2 (a : Gw.Offer) (b : Gw.Offer) (body : Str) (j : Nat) : DT (Ex × Snap) :=
  .ob (((V.beq (vi 1) (vi 1)) && true) = true) (
.ob (minV (vi (if (7 : Int) < (if (1 : Int) > (dealL (fineO a) (fineO b)).win then 1 else (dealL (fineO a) (fineO b)).win) then 7 else (if (1 : Int) > (dealL (fineO a) (fineO b)).win then 1 else (dealL (fineO a) (fineO b)).win))) [(vi 1)] = some (vi 1)) (
.ob (IntKind.i64 = IntKind.i64 ∧ (8 : Int) ≠ 0) (
.ob (IntKind.i64 = IntKind.i64 ∧ (8 : Int) ≠ 0) (
.ob (IntKind.i64 = IntKind.i64 ∧ (8 : Int) ≠ 0) (
.ob (IntKind.i64 = IntKind.i64 ∧ (8 : Int) ≠ 0) (
.ob ((1 = 1 ∧ ([vi 0] : List V).length = 1 * 1) ∧ allOne [vi 0] = true ∧ 1 * 8 ≤ 70368744177664) (
.ob (1 = 1 ∧ (0 ≤ (1 : Int) ∧ (1 : Int) ≤ ((1 : Nat) : Int)) ∧ (True)) (
.ob (1 = 1 ∧ 0 ≤ (0 : Int) ∧ (0 : Int) < ((1 : Nat) : Int)) (
.ob (1 = 1 ∧ 0 ≤ (0 : Int) ∧ (0 : Int) < ((1 : Nat) : Int)) (
.ob ((9 = 9 ∧ ([vi 0, vi 0, .bool true, vi 1, vi 0, vi 0, vi 0, .bool false, .str (cut8 body)] : List V).length = 1 * 9) ∧ allOne [vi 0, vi 0, .bool true, vi 1, vi 0, vi 0, vi 0, .bool false, .str (cut8 body)] = true ∧ 1 * 80 ≤ 70368744177664) (
.ob (9 = 9 ∧ 0 ≤ (0 : Int) ∧ (0 : Int) < ((1 : Nat) : Int)) (
.ob (9 = 9 ∧ 0 ≤ (0 : Int) ∧ (0 : Int) < ((1 : Nat) : Int)) (
.leaf (.normal, SNLS2_2 a b body (vi 0) (vi 4) (vi 2) (.int .u32 2) (vi 1) (vi (dealL (fineO a) (fineO b)).baud) (vi 200) (vi (dealL (fineO a) (fineO b)).win) (vi (dealL (fineO a) (fineO b)).size) (vi 2) (.ptr 330 0) (vi 70) (vi 0) (vi 3) (.bool false) (vi 1)))))))))))))))
set_option maxRecDepth 1000000 in
theorem treeLS2_2_2_eq (a : Gw.Offer) (b : Gw.Offer) (body : Str) (j : Nat) : rnd (orcsLS2_2 a b body (.c2 j)) (stsLS2_2 (.c2 j)) (orcLS2_2 a b body (.c2 j)) (stLS2_2 (.c2 j)) noLt 0 lpLS2_2 ((loopLS2_2 a b body).t0 (.c2 j)) [] ((loopLS2_2 a b body).h0 (.c2 j)) (loopLS2_2 a b body).end_ = treeLS2_2_2 a b body j := by kernel_rfl
def treeLS2_2_3 (a : Gw.Offer) (b : Gw.Offer) (body : Str) (j : Nat) : DT (Ex × Snap) :=
  .ob (binV .leq (vi (4 + (j : Int))) (vi 200) = some (.bool true)) (
.ob (binV .add (vi (3 + (j : Int))) (vi 1) = some (vi (4 + (j : Int)))) (
.ob (binV .geq (vi (4 + (j : Int))) (vi 200) = some (.bool false)) (
.ob (binV .eql (vi (70 - (j : Int))) (vi 0) = some (.bool false)) (
.ob (binV .sub (vi (70 - (j : Int))) (vi 1) = some (vi (69 - (j : Int)))) (
.ob (binV .gtr (vi (69 - (j : Int))) (vi 0) = some (.bool true)) (
.ob (binV .add (vi (4 + (j : Int))) (vi 1) = some (vi (5 + (j : Int)))) (
.leaf (.normal, SNLS2_2 a b body (vi 0) (vi (5 + (j : Int))) (vi 2) (.int .u32 2) (vi 1) (vi (dealL (fineO a) (fineO b)).baud) (vi 200) (vi (dealL (fineO a) (fineO b)).win) (vi (dealL (fineO a) (fineO b)).size) (vi 2) (.ptr 330 0) (vi (69 - (j : Int))) (vi 0) (vi (4 + (j : Int))) (.bool false) (vi 1)))))))))
set_option maxRecDepth 1000000 in
theorem treeLS2_2_3_eq (a : Gw.Offer) (b : Gw.Offer) (body : Str) (j : Nat) : rnd (orcsLS2_2 a b body (.c3 j)) (stsLS2_2 (.c3 j)) (orcLS2_2 a b body (.c3 j)) (stLS2_2 (.c3 j)) noLt 0 lpLS2_2 ((loopLS2_2 a b body).t0 (.c3 j)) [] ((loopLS2_2 a b body).h0 (.c3 j)) (loopLS2_2 a b body).end_ = treeLS2_2_3 a b body j := by kernel_rfl
def treeLS2_2_4 (a : Gw.Offer) (b : Gw.Offer) (body : Str) (j : Nat) : DT (Ex × Snap) :=
  .ob (((V.beq (vi 1) (vi 1)) && true) = true) (
.ob (minV (vi (if (7 : Int) < (if (1 : Int) > (dealL (fineO a) (fineO b)).win then 1 else (dealL (fineO a) (fineO b)).win) then 7 else (if (1 : Int) > (dealL (fineO a) (fineO b)).win then 1 else (dealL (fineO a) (fineO b)).win))) [(vi 1)] = some (vi 1)) (
.ob (IntKind.i64 = IntKind.i64 ∧ (8 : Int) ≠ 0) (
.ob (IntKind.i64 = IntKind.i64 ∧ (8 : Int) ≠ 0) (
.ob (IntKind.i64 = IntKind.i64 ∧ (8 : Int) ≠ 0) (
.ob (IntKind.i64 = IntKind.i64 ∧ (8 : Int) ≠ 0) (
.ob ((1 = 1 ∧ ([vi 0] : List V).length = 1 * 1) ∧ allOne [vi 0] = true ∧ 1 * 8 ≤ 70368744177664) (
.ob (1 = 1 ∧ (0 ≤ (1 : Int) ∧ (1 : Int) ≤ ((1 : Nat) : Int)) ∧ (True)) (
.ob (1 = 1 ∧ 0 ≤ (0 : Int) ∧ (0 : Int) < ((1 : Nat) : Int)) (
.ob (1 = 1 ∧ 0 ≤ (0 : Int) ∧ (0 : Int) < ((1 : Nat) : Int)) (
.ob ((9 = 9 ∧ ([vi 0, vi 0, .bool true, vi 1, vi 0, vi 0, vi 0, .bool false, .str (cut8 body)] : List V).length = 1 * 9) ∧ allOne [vi 0, vi 0, .bool true, vi 1, vi 0, vi 0, vi 0, .bool false, .str (cut8 body)] = true ∧ 1 * 80 ≤ 70368744177664) (
.ob (9 = 9 ∧ 0 ≤ (0 : Int) ∧ (0 : Int) < ((1 : Nat) : Int)) (
.ob (9 = 9 ∧ 0 ≤ (0 : Int) ∧ (0 : Int) < ((1 : Nat) : Int)) (
.leaf (.normal, SNLS2_2 a b body (vi 0) (vi 74) (vi 2) (.int .u32 2) (vi 1) (vi (dealL (fineO a) (fineO b)).baud) (vi 200) (vi (dealL (fineO a) (fineO b)).win) (vi (dealL (fineO a) (fineO b)).size) (vi 2) (.ptr 330 0) (vi 70) (vi 0) (vi 73) (.bool false) (vi 1)))))))))))))))
set_option maxRecDepth 1000000 in
theorem treeLS2_2_4_eq (a : Gw.Offer) (b : Gw.Offer) (body : Str) (j : Nat) : rnd (orcsLS2_2 a b body (.c4 j)) (stsLS2_2 (.c4 j)) (orcLS2_2 a b body (.c4 j)) (stLS2_2 (.c4 j)) noLt 0 lpLS2_2 ((loopLS2_2 a b body).t0 (.c4 j)) [] ((loopLS2_2 a b body).h0 (.c4 j)) (loopLS2_2 a b body).end_ = treeLS2_2_4 a b body j := by kernel_rfl
def treeLS2_2_5 (a : Gw.Offer) (b : Gw.Offer) (body : Str) (j : Nat) : DT (Ex × Snap) :=
  .ob (binV .leq (vi (74 + (j : Int))) (vi 200) = some (.bool true)) (
.ob (binV .add (vi (73 + (j : Int))) (vi 1) = some (vi (74 + (j : Int)))) (
.ob (binV .geq (vi (74 + (j : Int))) (vi 200) = some (.bool false)) (
.ob (binV .eql (vi (70 - (j : Int))) (vi 0) = some (.bool false)) (
.ob (binV .sub (vi (70 - (j : Int))) (vi 1) = some (vi (69 - (j : Int)))) (
.ob (binV .gtr (vi (69 - (j : Int))) (vi 0) = some (.bool true)) (
.ob (binV .add (vi (74 + (j : Int))) (vi 1) = some (vi (75 + (j : Int)))) (
.leaf (.normal, SNLS2_2 a b body (vi 0) (vi (75 + (j : Int))) (vi 2) (.int .u32 2) (vi 1) (vi (dealL (fineO a) (fineO b)).baud) (vi 200) (vi (dealL (fineO a) (fineO b)).win) (vi (dealL (fineO a) (fineO b)).size) (vi 2) (.ptr 330 0) (vi (69 - (j : Int))) (vi 0) (vi (74 + (j : Int))) (.bool false) (vi 1)))))))))
set_option maxRecDepth 1000000 in
theorem treeLS2_2_5_eq (a : Gw.Offer) (b : Gw.Offer) (body : Str) (j : Nat) : rnd (orcsLS2_2 a b body (.c5 j)) (stsLS2_2 (.c5 j)) (orcLS2_2 a b body (.c5 j)) (stLS2_2 (.c5 j)) noLt 0 lpLS2_2 ((loopLS2_2 a b body).t0 (.c5 j)) [] ((loopLS2_2 a b body).h0 (.c5 j)) (loopLS2_2 a b body).end_ = treeLS2_2_5 a b body j := by kernel_rfl
def treeLS2_2_6 (a : Gw.Offer) (b : Gw.Offer) (body : Str) (j : Nat) : DT (Ex × Snap) :=
  .ob (((V.beq (vi 1) (vi 1)) && true) = true) (
.ob (minV (vi (if (7 : Int) < (if (1 : Int) > (dealL (fineO a) (fineO b)).win then 1 else (dealL (fineO a) (fineO b)).win) then 7 else (if (1 : Int) > (dealL (fineO a) (fineO b)).win then 1 else (dealL (fineO a) (fineO b)).win))) [(vi 1)] = some (vi 1)) (
.ob (IntKind.i64 = IntKind.i64 ∧ (8 : Int) ≠ 0) (
.ob (IntKind.i64 = IntKind.i64 ∧ (8 : Int) ≠ 0) (
.ob (IntKind.i64 = IntKind.i64 ∧ (8 : Int) ≠ 0) (
.ob (IntKind.i64 = IntKind.i64 ∧ (8 : Int) ≠ 0) (
.ob ((1 = 1 ∧ ([vi 0] : List V).length = 1 * 1) ∧ allOne [vi 0] = true ∧ 1 * 8 ≤ 70368744177664) (
.ob (1 = 1 ∧ (0 ≤ (1 : Int) ∧ (1 : Int) ≤ ((1 : Nat) : Int)) ∧ (True)) (
.ob (1 = 1 ∧ 0 ≤ (0 : Int) ∧ (0 : Int) < ((1 : Nat) : Int)) (
.ob (1 = 1 ∧ 0 ≤ (0 : Int) ∧ (0 : Int) < ((1 : Nat) : Int)) (
.ob ((9 = 9 ∧ ([vi 0, vi 0, .bool true, vi 1, vi 0, vi 0, vi 0, .bool false, .str (cut8 body)] : List V).length = 1 * 9) ∧ allOne [vi 0, vi 0, .bool true, vi 1, vi 0, vi 0, vi 0, .bool false, .str (cut8 body)] = true ∧ 1 * 80 ≤ 70368744177664) (
.ob (9 = 9 ∧ 0 ≤ (0 : Int) ∧ (0 : Int) < ((1 : Nat) : Int)) (
.ob (9 = 9 ∧ 0 ≤ (0 : Int) ∧ (0 : Int) < ((1 : Nat) : Int)) (
.leaf (.normal, SNLS2_2 a b body (vi 0) (vi 144) (vi 2) (.int .u32 2) (vi 1) (vi (dealL (fineO a) (fineO b)).baud) (vi 200) (vi (dealL (fineO a) (fineO b)).win) (vi (dealL (fineO a) (fineO b)).size) (vi 2) (.ptr 330 0) (vi 70) (vi 0) (vi 143) (.bool false) (vi 1)))))))))))))))
set_option maxRecDepth 1000000 in
theorem treeLS2_2_6_eq (a : Gw.Offer) (b : Gw.Offer) (body : Str) (j : Nat) : rnd (orcsLS2_2 a b body (.c6 j)) (stsLS2_2 (.c6 j)) (orcLS2_2 a b body (.c6 j)) (stLS2_2 (.c6 j)) noLt 0 lpLS2_2 ((loopLS2_2 a b body).t0 (.c6 j)) [] ((loopLS2_2 a b body).h0 (.c6 j)) (loopLS2_2 a b body).end_ = treeLS2_2_6 a b body j := by kernel_rfl
def treeLS2_2_7 (a : Gw.Offer) (b : Gw.Offer) (body : Str) (j : Nat) : DT (Ex × Snap) :=
  .ob (binV .leq (vi (144 + (j : Int))) (vi 200) = some (.bool true)) (
.ob (binV .add (vi (143 + (j : Int))) (vi 1) = some (vi (144 + (j : Int)))) (
.ob (binV .geq (vi (144 + (j : Int))) (vi 200) = some (.bool false)) (
.ob (binV .eql (vi (70 - (j : Int))) (vi 0) = some (.bool false)) (
.ob (binV .sub (vi (70 - (j : Int))) (vi 1) = some (vi (69 - (j : Int)))) (
.ob (binV .gtr (vi (69 - (j : Int))) (vi 0) = some (.bool true)) (
.ob (binV .add (vi (144 + (j : Int))) (vi 1) = some (vi (145 + (j : Int)))) (
.leaf (.normal, SNLS2_2 a b body (vi 0) (vi (145 + (j : Int))) (vi 2) (.int .u32 2) (vi 1) (vi (dealL (fineO a) (fineO b)).baud) (vi 200) (vi (dealL (fineO a) (fineO b)).win) (vi (dealL (fineO a) (fineO b)).size) (vi 2) (.ptr 330 0) (vi (69 - (j : Int))) (vi 0) (vi (144 + (j : Int))) (.bool false) (vi 1)))))))))
set_option maxRecDepth 1000000 in
theorem treeLS2_2_7_eq (a : Gw.Offer) (b : Gw.Offer) (body : Str) (j : Nat) : rnd (orcsLS2_2 a b body (.c7 j)) (stsLS2_2 (.c7 j)) (orcLS2_2 a b body (.c7 j)) (stLS2_2 (.c7 j)) noLt 0 lpLS2_2 ((loopLS2_2 a b body).t0 (.c7 j)) [] ((loopLS2_2 a b body).h0 (.c7 j)) (loopLS2_2 a b body).end_ = treeLS2_2_7 a b body j := by kernel_rfl
def treeLS2_2_8 (a : Gw.Offer) (b : Gw.Offer) (body : Str) (j : Nat) : DT (Ex × Snap) :=
  .ob (4 = 4 ∧ 0 ≤ (0 : Int) ∧ (0 : Int) < ((1 : Nat) : Int)) (
.ob (4 = 4 ∧ 0 ≤ (0 : Int) ∧ (0 : Int) < ((1 : Nat) : Int)) (
.leaf (.normal, SNLS2_2 a b body (vi 1) (vi 201) (vi 0) (.int .u32 0) (vi 0) (vi 0) (vi 0) (vi 0) (vi 0) (vi 0) (.nilp) (vi 0) (vi 0) (vi 0) (.bool false) (vi 1))))
set_option maxRecDepth 1000000 in
theorem treeLS2_2_8_eq (a : Gw.Offer) (b : Gw.Offer) (body : Str) (j : Nat) : rnd (orcsLS2_2 a b body (.c8 j)) (stsLS2_2 (.c8 j)) (orcLS2_2 a b body (.c8 j)) (stLS2_2 (.c8 j)) noLt 0 lpLS2_2 ((loopLS2_2 a b body).t0 (.c8 j)) [] ((loopLS2_2 a b body).h0 (.c8 j)) (loopLS2_2 a b body).end_ = treeLS2_2_8 a b body j := by kernel_rfl
def treeLS2_2_9 (a : Gw.Offer) (b : Gw.Offer) (body : Str) (j : Nat) : DT (Ex × Snap) :=
  .leaf ((.exit 0), XLS2_2 a b body)
set_option maxRecDepth 1000000 in
theorem treeLS2_2_9_eq (a : Gw.Offer) (b : Gw.Offer) (body : Str) (j : Nat) : rnd (orcsLS2_2 a b body (.c9 j)) (stsLS2_2 (.c9 j)) (orcLS2_2 a b body (.c9 j)) (stLS2_2 (.c9 j)) noLt 0 lpLS2_2 ((loopLS2_2 a b body).t0 (.c9 j)) [] ((loopLS2_2 a b body).h0 (.c9 j)) (loopLS2_2 a b body).end_ = treeLS2_2_9 a b body j := by kernel_rfl
def treeLS2_2L (a : Gw.Offer) (b : Gw.Offer) (body : Str) (i : ILS2_2) : DT (Ex × Snap) := match i with
  | .c0 j => treeLS2_2_0 a b body j
  | .c1 j => treeLS2_2_1 a b body j
  | .c2 j => treeLS2_2_2 a b body j
  | .c3 j => treeLS2_2_3 a b body j
  | .c4 j => treeLS2_2_4 a b body j
  | .c5 j => treeLS2_2_5 a b body j
  | .c6 j => treeLS2_2_6 a b body j
  | .c7 j => treeLS2_2_7 a b body j
  | .c8 j => treeLS2_2_8 a b body j
  | .c9 j => treeLS2_2_9 a b body j
theorem roundLS2_2 (a : Gw.Offer) (b : Gw.Offer) (body : Str) (hwa : loL (fineO a).wait = 2) (hwb : loL (fineO b).wait = 2) (i : ILS2_2) (Pr : Ex × Snap → Prop) (h : ((loopLS2_2 a b body).out i).sat Pr) : (treeLS2_2L a b body i).sat ((loopLS2_2 a b body).next muLS2_2 i Pr) := by
  match i with
  | .c0 j =>
    have hj : j < 1 := h.1
    have hX := h.2
    obtain rfl : j = 0 := by omega
    exact sat_leaf (⟨.c1 0, by kernel_rfl, (by show 201 - (1 + 0) < 201 - (0 + 0); omega), ⟨(show 0 < 1 by decide), hX⟩⟩)
  | .c1 j =>
    have hj : j < 1 := h.1
    have hX := h.2
    obtain rfl : j = 0 := by omega
    exact sat_leaf (⟨.c2 0, by kernel_rfl, (by show 201 - (2 + 0) < 201 - (1 + 0); omega), ⟨(show 0 < 1 by decide), hX⟩⟩)
  | .c2 j =>
    have hj : j < 1 := h.1
    have hX := h.2
    obtain rfl : j = 0 := by omega
    exact sat_ob (by simp only [V.beq_refl, Bool.and_true]) (
sat_ob (min1 _) (
sat_ob (by decide) (
sat_ob (by decide) (
sat_ob (by decide) (
sat_ob (by decide) (
sat_ob (by decide) (
sat_ob (by decide) (
sat_ob (by decide) (
sat_ob (by decide) (
sat_ob (by first | rfl | simp [V.beq, V.beqs, allOne, V.one, byteVs, binV, binI, eqV, eqCells]) (
sat_ob (by decide) (
sat_ob (by decide) (
sat_leaf (⟨.c3 0, by kernel_rfl, (by show 201 - (3 + 0) < 201 - (2 + 0); omega), ⟨(show 0 < 69 by decide), hX⟩⟩))))))))))))))
  | .c3 j =>
    have hj : j < 69 := h.1
    have hX := h.2
    exact sat_ob (by simp [binV, binI]; omega) (
sat_ob (by show some (V.int .i64 (wrapK .i64 ((3 + (j : Int)) + 1))) = _; rw [wrap_small (by omega), show ((3 + (j : Int)) + 1) = (4 + (j : Int)) by omega]) (
sat_ob (by simp [binV, binI]; omega) (
sat_ob (by simp [binV, binI]; omega) (
sat_ob (by show some (V.int .i64 (wrapK .i64 ((70 - (j : Int)) - 1))) = _; rw [wrap_small (by omega), show ((70 - (j : Int)) - 1) = (69 - (j : Int)) by omega]) (
sat_ob (by simp [binV, binI]; omega) (
sat_ob (by show some (V.int .i64 (wrapK .i64 ((4 + (j : Int)) + 1))) = _; rw [wrap_small (by omega), show ((4 + (j : Int)) + 1) = (5 + (j : Int)) by omega]) (
sat_leaf (if h2 : j + 1 < 69 then ⟨.c3 (j + 1), (by show SNLS2_2 a b body (vi 0) (vi (5 + (j : Int))) (vi 2) (.int .u32 2) (vi 1) (vi (dealL (fineO a) (fineO b)).baud) (vi 200) (vi (dealL (fineO a) (fineO b)).win) (vi (dealL (fineO a) (fineO b)).size) (vi 2) (.ptr 330 0) (vi (69 - (j : Int))) (vi 0) (vi (4 + (j : Int))) (.bool false) (vi 1) = SNLS2_2 a b body (vi 0) (vi (4 + ((j + 1 : Nat) : Int))) (vi 2) (.int .u32 2) (vi 1) (vi (dealL (fineO a) (fineO b)).baud) (vi 200) (vi (dealL (fineO a) (fineO b)).win) (vi (dealL (fineO a) (fineO b)).size) (vi 2) (.ptr 330 0) (vi (70 - ((j + 1 : Nat) : Int))) (vi 0) (vi (3 + ((j + 1 : Nat) : Int))) (.bool false) (vi 1); rw [show ((3 + ((j + 1 : Nat) : Int)) : Int) = (4 + (j : Int)) by omega, show ((4 + ((j + 1 : Nat) : Int)) : Int) = (5 + (j : Int)) by omega, show ((70 - ((j + 1 : Nat) : Int)) : Int) = (69 - (j : Int)) by omega]), (by show 201 - (3 + (j + 1)) < 201 - (3 + j); omega), ⟨h2, hX⟩⟩ else by
    obtain rfl : j = 68 := by omega
    exact ⟨.c4 0, by kernel_rfl, (by show 201 - (72 + 0) < 201 - (3 + 68); omega), ⟨(show 0 < 1 by decide), hX⟩⟩))))))))
  | .c4 j =>
    have hj : j < 1 := h.1
    have hX := h.2
    obtain rfl : j = 0 := by omega
    exact sat_ob (by simp only [V.beq_refl, Bool.and_true]) (
sat_ob (min1 _) (
sat_ob (by decide) (
sat_ob (by decide) (
sat_ob (by decide) (
sat_ob (by decide) (
sat_ob (by decide) (
sat_ob (by decide) (
sat_ob (by decide) (
sat_ob (by decide) (
sat_ob (by first | rfl | simp [V.beq, V.beqs, allOne, V.one, byteVs, binV, binI, eqV, eqCells]) (
sat_ob (by decide) (
sat_ob (by decide) (
sat_leaf (⟨.c5 0, by kernel_rfl, (by show 201 - (73 + 0) < 201 - (72 + 0); omega), ⟨(show 0 < 69 by decide), hX⟩⟩))))))))))))))
  | .c5 j =>
    have hj : j < 69 := h.1
    have hX := h.2
    exact sat_ob (by simp [binV, binI]; omega) (
sat_ob (by show some (V.int .i64 (wrapK .i64 ((73 + (j : Int)) + 1))) = _; rw [wrap_small (by omega), show ((73 + (j : Int)) + 1) = (74 + (j : Int)) by omega]) (
sat_ob (by simp [binV, binI]; omega) (
sat_ob (by simp [binV, binI]; omega) (
sat_ob (by show some (V.int .i64 (wrapK .i64 ((70 - (j : Int)) - 1))) = _; rw [wrap_small (by omega), show ((70 - (j : Int)) - 1) = (69 - (j : Int)) by omega]) (
sat_ob (by simp [binV, binI]; omega) (
sat_ob (by show some (V.int .i64 (wrapK .i64 ((74 + (j : Int)) + 1))) = _; rw [wrap_small (by omega), show ((74 + (j : Int)) + 1) = (75 + (j : Int)) by omega]) (
sat_leaf (if h2 : j + 1 < 69 then ⟨.c5 (j + 1), (by show SNLS2_2 a b body (vi 0) (vi (75 + (j : Int))) (vi 2) (.int .u32 2) (vi 1) (vi (dealL (fineO a) (fineO b)).baud) (vi 200) (vi (dealL (fineO a) (fineO b)).win) (vi (dealL (fineO a) (fineO b)).size) (vi 2) (.ptr 330 0) (vi (69 - (j : Int))) (vi 0) (vi (74 + (j : Int))) (.bool false) (vi 1) = SNLS2_2 a b body (vi 0) (vi (74 + ((j + 1 : Nat) : Int))) (vi 2) (.int .u32 2) (vi 1) (vi (dealL (fineO a) (fineO b)).baud) (vi 200) (vi (dealL (fineO a) (fineO b)).win) (vi (dealL (fineO a) (fineO b)).size) (vi 2) (.ptr 330 0) (vi (70 - ((j + 1 : Nat) : Int))) (vi 0) (vi (73 + ((j + 1 : Nat) : Int))) (.bool false) (vi 1); rw [show ((70 - ((j + 1 : Nat) : Int)) : Int) = (69 - (j : Int)) by omega, show ((73 + ((j + 1 : Nat) : Int)) : Int) = (74 + (j : Int)) by omega, show ((74 + ((j + 1 : Nat) : Int)) : Int) = (75 + (j : Int)) by omega]), (by show 201 - (73 + (j + 1)) < 201 - (73 + j); omega), ⟨h2, hX⟩⟩ else by
    obtain rfl : j = 68 := by omega
    exact ⟨.c6 0, by kernel_rfl, (by show 201 - (142 + 0) < 201 - (73 + 68); omega), ⟨(show 0 < 1 by decide), hX⟩⟩))))))))
  | .c6 j =>
    have hj : j < 1 := h.1
    have hX := h.2
    obtain rfl : j = 0 := by omega
    exact sat_ob (by simp only [V.beq_refl, Bool.and_true]) (
sat_ob (min1 _) (
sat_ob (by decide) (
sat_ob (by decide) (
sat_ob (by decide) (
sat_ob (by decide) (
sat_ob (by decide) (
sat_ob (by decide) (
sat_ob (by decide) (
sat_ob (by decide) (
sat_ob (by first | rfl | simp [V.beq, V.beqs, allOne, V.one, byteVs, binV, binI, eqV, eqCells]) (
sat_ob (by decide) (
sat_ob (by decide) (
sat_leaf (⟨.c7 0, by kernel_rfl, (by show 201 - (143 + 0) < 201 - (142 + 0); omega), ⟨(show 0 < 56 by decide), hX⟩⟩))))))))))))))
  | .c7 j =>
    have hj : j < 56 := h.1
    have hX := h.2
    exact sat_ob (by simp [binV, binI]; omega) (
sat_ob (by show some (V.int .i64 (wrapK .i64 ((143 + (j : Int)) + 1))) = _; rw [wrap_small (by omega), show ((143 + (j : Int)) + 1) = (144 + (j : Int)) by omega]) (
sat_ob (by simp [binV, binI]; omega) (
sat_ob (by simp [binV, binI]; omega) (
sat_ob (by show some (V.int .i64 (wrapK .i64 ((70 - (j : Int)) - 1))) = _; rw [wrap_small (by omega), show ((70 - (j : Int)) - 1) = (69 - (j : Int)) by omega]) (
sat_ob (by simp [binV, binI]; omega) (
sat_ob (by show some (V.int .i64 (wrapK .i64 ((144 + (j : Int)) + 1))) = _; rw [wrap_small (by omega), show ((144 + (j : Int)) + 1) = (145 + (j : Int)) by omega]) (
sat_leaf (if h2 : j + 1 < 56 then ⟨.c7 (j + 1), (by show SNLS2_2 a b body (vi 0) (vi (145 + (j : Int))) (vi 2) (.int .u32 2) (vi 1) (vi (dealL (fineO a) (fineO b)).baud) (vi 200) (vi (dealL (fineO a) (fineO b)).win) (vi (dealL (fineO a) (fineO b)).size) (vi 2) (.ptr 330 0) (vi (69 - (j : Int))) (vi 0) (vi (144 + (j : Int))) (.bool false) (vi 1) = SNLS2_2 a b body (vi 0) (vi (144 + ((j + 1 : Nat) : Int))) (vi 2) (.int .u32 2) (vi 1) (vi (dealL (fineO a) (fineO b)).baud) (vi 200) (vi (dealL (fineO a) (fineO b)).win) (vi (dealL (fineO a) (fineO b)).size) (vi 2) (.ptr 330 0) (vi (70 - ((j + 1 : Nat) : Int))) (vi 0) (vi (143 + ((j + 1 : Nat) : Int))) (.bool false) (vi 1); rw [show ((143 + ((j + 1 : Nat) : Int)) : Int) = (144 + (j : Int)) by omega, show ((144 + ((j + 1 : Nat) : Int)) : Int) = (145 + (j : Int)) by omega, show ((70 - ((j + 1 : Nat) : Int)) : Int) = (69 - (j : Int)) by omega]), (by show 201 - (143 + (j + 1)) < 201 - (143 + j); omega), ⟨h2, hX⟩⟩ else by
    obtain rfl : j = 55 := by omega
    exact ⟨.c8 0, by kernel_rfl, (by show 201 - (199 + 0) < 201 - (143 + 55); omega), ⟨(show 0 < 1 by decide), hX⟩⟩))))))))
  | .c8 j =>
    have hj : j < 1 := h.1
    have hX := h.2
    obtain rfl : j = 0 := by omega
    exact sat_ob (by decide) (
sat_ob (by decide) (
sat_leaf (⟨.c9 0, by kernel_rfl, (by show 201 - (200 + 0) < 201 - (199 + 0); omega), ⟨(show 0 < 1 by decide), hX⟩⟩)))
  | .c9 j =>
    have hj : j < 1 := h.1
    have hX := h.2
    obtain rfl : j = 0 := by omega
    exact sat_leaf (hX)
theorem ltLS2_2_ok (a : Gw.Offer) (b : Gw.Offer) (body : Str) (hwa : loL (fineO a).wait = 2) (hwb : loL (fineO b).wait = 2) (hint : Nat → List Nat) : Lt1 Tryz.prog hint 3 (loopLS2_2 a b body).lt lpLS2_2 :=
  LoopD.lt1c mixed (show TabX Tryz.prog noPX oxM from tabM) tabD (loopLS2_2 a b body) muLS2_2 (fun ex => match ex with | .normal => ⟨show 3 ≤ 378 by decide, show 3 ≤ 378 by decide⟩ | .exit _ => ⟨show 3 ≤ 378 by decide, show 3 ≤ 378 by decide⟩ | .ret => ⟨show 3 ≤ 378 by decide, show 3 ≤ 378 by decide⟩) (orcs := orcsLS2_2 a b body) (sts := stsLS2_2) (orc := orcLS2_2 a b body) (st := stLS2_2) (tree := treeLS2_2L a b body)
    (fun i => match i with
    | .c0 j => treeLS2_2_0_eq a b body j
    | .c1 j => treeLS2_2_1_eq a b body j
    | .c2 j => treeLS2_2_2_eq a b body j
    | .c3 j => treeLS2_2_3_eq a b body j
    | .c4 j => treeLS2_2_4_eq a b body j
    | .c5 j => treeLS2_2_5_eq a b body j
    | .c6 j => treeLS2_2_6_eq a b body j
    | .c7 j => treeLS2_2_7_eq a b body j
    | .c8 j => treeLS2_2_8_eq a b body j
    | .c9 j => treeLS2_2_9_eq a b body j) (roundLS2_2 a b body hwa hwb)
def oxLS2_2 (a : Gw.Offer) (b : Gw.Offer) (body : Str) : OTab := (consT 46 (gD dGet pGet (fun n => match n with | 138 => some (.tup [.agg [.int .u32 1, .int .u32 2, vi 0, vi 1, vi (fineO a).baud, vi (fineO a).silent, vi (fineO a).win, vi (fineO a).size, vi (fineO a).wait], .bool true]) | 298 => some (.tup [.agg [.int .u32 2, .int .u32 1, vi 0, vi 1, vi (fineO b).baud, vi (fineO b).silent, vi (fineO b).win, vi (fineO b).size, vi (fineO b).wait], .bool true]) | _ => none)) (consT 70 (gD dPut pPut noV) (consT 47 (gDT kT0 kT1 kT2 dDeal pDeal (fun n => match n with | 151 => some (.tup [.agg (dv b a 2), .bool true]) | 311 => some (.tup [.agg (dv a b 2), .bool true]) | _ => none)) (consT 43 (gD dOff pMayQ (fun n => match n with | 12 => some (.bool true) | 20 => some (.bool true) | _ => none)) (consT 10 (gD dOff pFine noV) (consO 9 (gTrue kT0 kT1 kT2) noOX))))))
def treeLS2_2 (a : Gw.Offer) (b : Gw.Offer) (body : Str) : DT V :=
  .ob (dOff [.agg a.vs]) (
.ob (((V.beq (.agg b.vs) (.agg b.vs)) && true) = true) (
.ob (dOff [.agg b.vs]) (
.ob (dOff [.agg (fineO a).vs]) (
.ob (pMayQ [.agg (fineO a).vs] = (.bool true)) (
.ob (((V.beq (.agg (fineO b).vs) (.agg (fineO b).vs)) && true) = true) (
.ob (dOff [.agg (fineO b).vs]) (
.ob (pMayQ [.agg (fineO b).vs] = (.bool true)) (
.ob (True) (
.ob (IntKind.i64 = IntKind.i64 ∧ (250 : Int) ≠ 0) (
.ob (((V.beq (.int .u32 2) (.int .u32 2)) && true) = true) (
.ob (((V.beq (.int .u32 2) (.int .u32 2)) && true) = true) (
.ob (dPut [.agg [.int .u32 1, .int .u32 2, vi 0, vi 1, vi (fineO a).baud, vi (fineO a).silent, vi (fineO a).win, vi (fineO a).size, vi (fineO a).wait]]) (
.ob (9 = 9 ∧ 0 ≤ (0 : Int) ∧ (0 : Int) < ((1 : Nat) : Int)) (
.ob (Gw.lenStr (.str (setupStr ⟨1, 2, 0, 1, (fineO a)⟩)) = some (vi 25)) (
.ob (Gw.lenStr (.str (setupStr ⟨1, 2, 0, 1, (fineO a)⟩)) = some (vi 25)) (
.ob (((V.beq (.str (setupStr ⟨1, 2, 0, 1, (fineO a)⟩)) (.str (setupStr ⟨1, 2, 0, 1, (fineO a)⟩))) && ((V.beq (.bool true) (.bool true)) && ((V.beq (.agg [vi 127, vi 255]) (.agg [vi 127, vi 255])) && true))) = true) (
.ob (((V.beq (vi 2) (vi 2)) && true) = true) (
.ob (((V.beq (.agg [vi 127, vi 255, .bool true, vi 3, vi 2, vi 0, vi 0, .bool true, .str (setupStr ⟨1, 2, 0, 1, (fineO a)⟩)]) (.agg [vi 127, vi 255, .bool true, vi 3, vi 2, vi 0, vi 0, .bool true, .str (setupStr ⟨1, 2, 0, 1, (fineO a)⟩)])) && true) = true) (
.ob (((eqV (.agg [.i, .i, .b, .i, .i, .i, .i, .b, .s]) (.agg [vi 127, vi 255, .bool true, vi 3, vi 2, vi 0, vi 0, .bool true, .str (setupStr ⟨1, 2, 0, 1, (fineO a)⟩)]) (.agg [vi 127, vi 255, .bool true, vi 3, vi 2, vi 0, vi 0, .bool true, .str (setupStr ⟨1, 2, 0, 1, (fineO a)⟩)])).map fun b => V.bool (if true then !b else b)) = some (.bool false)) (
.ob (((V.beq (.agg [vi 127, vi 255]) (.agg [vi 127, vi 255])) && true) = true) (
.ob (True) (
.ob (dGet [.str (setupStr ⟨1, 2, 0, 1, (fineO a)⟩)]) (
.ob (pGet [.str (setupStr ⟨1, 2, 0, 1, (fineO a)⟩)] = (.tup [.agg [.int .u32 1, .int .u32 2, vi 0, vi 1, vi (fineO a).baud, vi (fineO a).silent, vi (fineO a).win, vi (fineO a).size, vi (fineO a).wait], .bool true])) (
.ob (dDeal [.agg (fineO b).vs, .agg (fineO a).vs]) (
.ob (pDeal [.agg (fineO b).vs, .agg (fineO a).vs] = (.tup [.agg (dv b a 2), .bool true])) (
.ob (((V.beq (vi (dealL (fineO b) (fineO a)).size) (vi (dealL (fineO b) (fineO a)).size)) && true) = true) (
.ob (((V.beq (vi (dealL (fineO b) (fineO a)).size) (vi (dealL (fineO b) (fineO a)).size)) && true) = true) (
.ob (((V.beq (.agg (dv b a 2)) (.agg (dv b a 2))) && ((V.beq (.agg [vi 0, vi 1]) (.agg [vi 0, vi 1])) && true)) = true) (
.ob (((V.beq (.agg (dv b a 2)) (.agg (dv b a 2))) && ((V.beq (.agg [vi 0, vi 1]) (.agg [vi 0, vi 1])) && true)) = true) (
.ob (((V.beq (.agg (dv b a 2)) (.agg (dv b a 2))) && ((V.beq (.agg [vi 0, vi 1]) (.agg [vi 0, vi 1])) && true)) = true) (
.ob (((V.beq (.agg (dv b a 2)) (.agg (dv b a 2))) && true) = true) (
.ob (((V.beq (vi 2) (vi 2)) && true) = true) (
.ob (((V.beq (vi 2) (vi 2)) && true) = true) (
.ob (((V.beq (vi 2) (vi 2)) && true) = true) (
.ob (dPut [.agg [.int .u32 2, .int .u32 1, vi 0, vi 1, vi (fineO b).baud, vi (fineO b).silent, vi (fineO b).win, vi (fineO b).size, vi (fineO b).wait]]) (
.ob (9 = 9 ∧ 0 ≤ (0 : Int) ∧ (0 : Int) < ((1 : Nat) : Int)) (
.ob (Gw.lenStr (.str (setupStr ⟨2, 1, 0, 1, (fineO b)⟩)) = some (vi 25)) (
.ob (Gw.lenStr (.str (setupStr ⟨2, 1, 0, 1, (fineO b)⟩)) = some (vi 25)) (
.ob (((V.beq (.str (setupStr ⟨2, 1, 0, 1, (fineO b)⟩)) (.str (setupStr ⟨2, 1, 0, 1, (fineO b)⟩))) && ((V.beq (.bool false) (.bool false)) && ((V.beq (.agg [vi 127, vi 255]) (.agg [vi 127, vi 255])) && true))) = true) (
.ob (((V.beq (vi 3) (vi 3)) && true) = true) (
.ob (((V.beq (.agg [vi 127, vi 255, .bool false, vi 3, vi 3, vi 0, vi 0, .bool true, .str (setupStr ⟨2, 1, 0, 1, (fineO b)⟩)]) (.agg [vi 127, vi 255, .bool false, vi 3, vi 3, vi 0, vi 0, .bool true, .str (setupStr ⟨2, 1, 0, 1, (fineO b)⟩)])) && true) = true) (
.ob (((eqV (.agg [.i, .i, .b, .i, .i, .i, .i, .b, .s]) (.agg [vi 127, vi 255, .bool false, vi 3, vi 3, vi 0, vi 0, .bool true, .str (setupStr ⟨2, 1, 0, 1, (fineO b)⟩)]) (.agg [vi 127, vi 255, .bool false, vi 3, vi 3, vi 0, vi 0, .bool true, .str (setupStr ⟨2, 1, 0, 1, (fineO b)⟩)])).map fun b => V.bool (if true then !b else b)) = some (.bool false)) (
.ob (((V.beq (.agg [vi 127, vi 255]) (.agg [vi 127, vi 255])) && true) = true) (
.ob (True) (
.ob (dGet [.str (setupStr ⟨2, 1, 0, 1, (fineO b)⟩)]) (
.ob (pGet [.str (setupStr ⟨2, 1, 0, 1, (fineO b)⟩)] = (.tup [.agg [.int .u32 2, .int .u32 1, vi 0, vi 1, vi (fineO b).baud, vi (fineO b).silent, vi (fineO b).win, vi (fineO b).size, vi (fineO b).wait], .bool true])) (
.ob (dDeal [.agg (fineO a).vs, .agg (fineO b).vs]) (
.ob (pDeal [.agg (fineO a).vs, .agg (fineO b).vs] = (.tup [.agg (dv a b 2), .bool true])) (
.ob (True) (
.ob (((V.beq (vi (dealL (fineO a) (fineO b)).size) (vi (dealL (fineO a) (fineO b)).size)) && true) = true) (
.ob (((V.beq (vi (dealL (fineO a) (fineO b)).size) (vi (dealL (fineO a) (fineO b)).size)) && true) = true) (
.ob (((V.beq (.agg (dv a b 2)) (.agg (dv a b 2))) && ((V.beq (.agg [vi 0, vi 1]) (.agg [vi 0, vi 1])) && true)) = true) (
.ob (((V.beq (.agg (dv a b 2)) (.agg (dv a b 2))) && ((V.beq (.agg [vi 0, vi 1]) (.agg [vi 0, vi 1])) && true)) = true) (
.ob (((V.beq (.agg (dv a b 2)) (.agg (dv a b 2))) && ((V.beq (.agg [vi 0, vi 1]) (.agg [vi 0, vi 1])) && true)) = true) (
.ob (((V.beq (.agg (dv a b 2)) (.agg (dv a b 2))) && true) = true) (
.ob (((V.beq (vi 2) (vi 2)) && true) = true) (
.ob (((V.beq (vi 2) (vi 2)) && true) = true) (
.ob (((V.beq (vi 2) (vi 2)) && true) = true) (
.ob ((0 ≤ ((if (8 : Int) < ((body : Str).length : Int) then 8 else ((body : Str).length : Int)) : Int) ∧ ((if (8 : Int) < ((body : Str).length : Int) then 8 else ((body : Str).length : Int)) : Int) ≤ (((body : Str).length : Nat) : Int)) ∧ (True)) (
.ob (((eqV (.agg [.i, .i, .i, .s]) (.agg [vi 3, vi 0, .int .u32 0, .str (cut8 body)]) (.agg [vi 3, vi 0, .int .u32 0, .str (cut8 body)])).map fun b => V.bool (if false then !b else b)) = some (.bool true)) (
.ob (binV .leq (vi (((cut8 body) : Str).length : Int)) (vi 64) = some (.bool true)) (
.ob (binV .gtr (vi (((cut8 body) : Str).length : Int)) (vi (if (64 : Int) < (dealL (fineO a) (fineO b)).size then 64 else (dealL (fineO a) (fineO b)).size)) = some (.bool false)) (
.ob ((1 = 1 ∧ ([.str (cut8 body)] : List V).length = 1 * 1) ∧ allOne [.str (cut8 body)] = true ∧ 1 * 16 ≤ 70368744177664) (
.ob ((SNLS2_2 a b body (vi 0) (vi 1) (vi 2) (.int .u32 2) (vi 1) (vi (dealL (fineO a) (fineO b)).baud) (vi 200) (vi (dealL (fineO a) (fineO b)).win) (vi (dealL (fineO a) (fineO b)).size) (vi 2) (.ptr 330 0) (vi 0) (vi 2) (vi 0) (.bool true) (vi 0) : Snap) = (loopLS2_2 a b body).S (.c0 0)) (
.ob (invLS2_2 (.c0 0)) (
.leaf (.bool true)))))))))))))))))))))))))))))))))))))))))))))))))))))))))))))))))))
set_option maxRecDepth 1000000 in
theorem treeLS2_2_eq (a : Gw.Offer) (b : Gw.Offer) (body : Str) : funT (mkXT (noPX) (oxLS2_2 a b body)) (mkXP (noPX)) (mkX (noPX) (oxLS2_2 a b body)) D (fun g => match g with | 76 => (fun k => match k with | 38 => some fun t h => (match h.n with | 93 => (vi 25, h) | 112 => (vi 25, h) | 253 => (vi 25, h) | _ => (vi 25, h)) | _ => none) | 44 => (fun k => match k with | 52 => some fun t h => (match h.n with | 128 => (.bool false, h) | _ => (.bool false, h)) | _ => none) | 31 => (fun k => match k with | 58 => some fun t h => (.bool true, h) | 63 => some fun t h => (.bool true, h) | _ => none) | 33 => (fun k => match k with | 15 => some fun t h => (.bool false, h) | _ => none) | _ => noOrc) (fun k => match k with | 3 => [21, 41, 108, 112, 117, 122, 127, 132] | 11 => [31, 41, 49, 60, 69, 72, 76] | 12 => [10, 15, 20, 25, 30, 31, 37, 41, 50, 57, 81] | 16 => [15, 22, 31, 52, 58, 74] | 21 => [8, 11, 15, 19, 23] | 22 => [16, 25, 30, 36, 39, 44, 47, 57, 67, 82, 86, 99] | 31 => [10, 33, 34, 40, 44, 49, 52, 58, 63] | 33 => [15] | 35 => [8, 25, 32] | 37 => [28, 30] | 44 => [8, 15, 26, 37, 41, 46, 52] | 48 => [14, 20, 28] | 49 => [13] | 67 => [14] | 71 => [10] | 76 => [11, 16, 20, 25, 30, 34, 39] | 77 => [8, 14, 19, 24, 34, 44] | 104 => [6, 9, 20] | 129 => [8, 19, 30, 34, 38] | 130 => [8, 13, 18, 21] | _ => []) 12 noOrc [21, 41, 108, 112, 117, 122, 127, 132] (ltLS2_2 a b body) (dOf 3) [.agg a.vs, .agg b.vs, .bool true, .str body] (tabH kT0 kT1 kT2 3) (fun v _ => v) = treeLS2_2 a b body := by kernel_rfl
theorem satLS2_2 (a : Gw.Offer) (b : Gw.Offer) (body : Str) (hwa : loL (fineO a).wait = 2) (hwb : loL (fineO b).wait = 2) : (treeLS2_2 a b body).sat fun v => v = .bool true :=
 sat_ob trivial (
sat_ob (by simp only [V.beq_refl, Bool.and_true]) (
sat_ob trivial (
sat_ob trivial (
sat_ob (may_of (mayO_fine a)) (
sat_ob (by simp only [V.beq_refl, Bool.and_true]) (
sat_ob trivial (
sat_ob (may_of (mayO_fine b)) (
sat_ob trivial (
sat_ob (by decide) (
sat_ob (by simp only [V.beq_refl, Bool.and_true]) (
sat_ob (by simp only [V.beq_refl, Bool.and_true]) (
sat_ob (okSet 1 2 0 1 a (by decide) (by decide) (by decide) (by decide)) (
sat_ob (by decide) (
sat_ob rfl (
sat_ob rfl (
sat_ob (by simp only [V.beq_refl, Bool.and_true]) (
sat_ob (by simp only [V.beq_refl, Bool.and_true]) (
sat_ob (by simp only [V.beq_refl, Bool.and_true]) (
sat_ob (by simp [eqV, eqCells]) (
sat_ob (by simp only [V.beq_refl, Bool.and_true]) (
sat_ob trivial (
sat_ob ⟨⟨1, 2, 0, 1, (fineO a)⟩, (okSet 1 2 0 1 a (by decide) (by decide) (by decide) (by decide)), rfl⟩ (
sat_ob (get_put ⟨1, 2, 0, 1, (fineO a)⟩ (okSet 1 2 0 1 a (by decide) (by decide) (by decide) (by decide))) (
sat_ob ⟨(mayO_fine b), (mayO_fine a)⟩ (
sat_ob (by show V.tup [.agg [vi _, vi _, vi _, vi _, vi (loL (fineO a).wait)], .bool true] = _; rw [hwa]; rfl) (
sat_ob (by simp only [V.beq_refl, Bool.and_true]) (
sat_ob (by simp only [V.beq_refl, Bool.and_true]) (
sat_ob (by simp only [V.beq_refl, Bool.and_true]) (
sat_ob (by simp only [V.beq_refl, Bool.and_true]) (
sat_ob (by simp only [V.beq_refl, Bool.and_true]) (
sat_ob (by simp only [V.beq_refl, Bool.and_true]) (
sat_ob (by simp only [V.beq_refl, Bool.and_true]) (
sat_ob (by simp only [V.beq_refl, Bool.and_true]) (
sat_ob (by simp only [V.beq_refl, Bool.and_true]) (
sat_ob (okSet 2 1 0 1 b (by decide) (by decide) (by decide) (by decide)) (
sat_ob (by decide) (
sat_ob rfl (
sat_ob rfl (
sat_ob (by simp only [V.beq_refl, Bool.and_true]) (
sat_ob (by simp only [V.beq_refl, Bool.and_true]) (
sat_ob (by simp only [V.beq_refl, Bool.and_true]) (
sat_ob (by simp [eqV, eqCells]) (
sat_ob (by simp only [V.beq_refl, Bool.and_true]) (
sat_ob trivial (
sat_ob ⟨⟨2, 1, 0, 1, (fineO b)⟩, (okSet 2 1 0 1 b (by decide) (by decide) (by decide) (by decide)), rfl⟩ (
sat_ob (get_put ⟨2, 1, 0, 1, (fineO b)⟩ (okSet 2 1 0 1 b (by decide) (by decide) (by decide) (by decide))) (
sat_ob ⟨(mayO_fine a), (mayO_fine b)⟩ (
sat_ob (by show V.tup [.agg [vi _, vi _, vi _, vi _, vi (loL (fineO b).wait)], .bool true] = _; rw [hwb]; rfl) (
sat_ob trivial (
sat_ob (by simp only [V.beq_refl, Bool.and_true]) (
sat_ob (by simp only [V.beq_refl, Bool.and_true]) (
sat_ob (by simp only [V.beq_refl, Bool.and_true]) (
sat_ob (by simp only [V.beq_refl, Bool.and_true]) (
sat_ob (by simp only [V.beq_refl, Bool.and_true]) (
sat_ob (by simp only [V.beq_refl, Bool.and_true]) (
sat_ob (by simp only [V.beq_refl, Bool.and_true]) (
sat_ob (by simp only [V.beq_refl, Bool.and_true]) (
sat_ob (by simp only [V.beq_refl, Bool.and_true]) (
sat_ob ⟨by split <;> omega, trivial⟩ (
sat_ob (by simp [eqV, eqCells]) (
sat_ob (by have := cut8_len body; simp [binV, binI]; omega) (
sat_ob (gtr8 body (size8 a b)) (
sat_ob (by first | rfl | simp [V.beq, V.beqs, allOne, V.one, byteVs, binV, binI, eqV, eqCells]) (
sat_ob (by kernel_rfl) (
sat_ob (show 0 < 1 by decide) (
sat_leaf (rfl)))))))))))))))))))))))))))))))))))))))))))))))))))))))))))))))))))
theorem loopsLS2_2 : loopsIn 0 (dOf 3).body = [(0, lpLS2_2)] := by kernel_rfl
set_option maxRecDepth 1000000 in
theorem runLS2_2 (a : Gw.Offer) (b : Gw.Offer) (body : Str) (hwa : loL (fineO a).wait = 2) (hwb : loL (fineO b).wait = 2) : Run Tryz.prog 3 [.agg a.vs, .agg b.vs, .bool true, .str body] (tabH kT0 kT1 kT2 3) fun v _ => v = .bool true := by
  refine run_loops mixed (show TabX Tryz.prog noPX (oxLS2_2 a b body) from ((((((TabX.nil.addO ans_begun).addT (ans_fine noV)).addT (ans_may (fun n => match n with | 12 => some (.bool true) | 20 => some (.bool true) | _ => none))).addT (ans_deal (fun n => match n with | 151 => some (.tup [.agg (dv b a 2), .bool true]) | 311 => some (.tup [.agg (dv a b 2), .bool true]) | _ => none))).addT (ans_put noV)).addT (ans_get (fun n => match n with | 138 => some (.tup [.agg [.int .u32 1, .int .u32 2, vi 0, vi 1, vi (fineO a).baud, vi (fineO a).silent, vi (fineO a).win, vi (fineO a).size, vi (fineO a).wait], .bool true]) | 298 => some (.tup [.agg [.int .u32 2, .int .u32 1, vi 0, vi 1, vi (fineO b).baud, vi (fineO b).silent, vi (fineO b).win, vi (fineO b).size, vi (fineO b).wait], .bool true]) | _ => none)))) tabD (dIs (by kernel_rfl)) (lt := ltLS2_2 a b body) (fun hint p hp => ?_) (treeLS2_2_eq a b body) (satLS2_2 a b body hwa hwb)
  rw [loopsLS2_2] at hp
  simp only [List.mem_cons, List.not_mem_nil, or_false] at hp
  subst hp
  exact ltLS2_2_ok a b body hwa hwb hint
inductive ILS2_f
  | c0 (j : Nat)
  | c1 (j : Nat)
  | c2 (j : Nat)
  | c3 (j : Nat)
def RWLS2_f (a : Gw.Offer) (b : Gw.Offer) (body : Str) (w0 : V) (w1 : V) (w2 : V) (w3 : V) (w4 : V) (w5 : V) (w6 : V) (w7 : V) (w8 : V) (w9 : V) (w10 : V) (w11 : V) : List (Option Blk) := [some (.cells true (zsV .u8 kT0)), some (.cells true (zsV .u8 kT1)), some (.cells true (zsV .u8 kT2)), cF (fineO a).vs, cF (fineO b).vs, none, cF (fineO a).vs, cF (fineO b).vs, none, none, cF (fineO a).vs, none, none, none, none, none, cF [.int .u32 1, vi 0, vi (fineO a).baud, vi (fineO a).silent, vi (fineO a).win, vi (fineO a).size, vi (fineO a).wait, vi 2, .int .u32 2, vi 0, vi 1, vi (dealL (fineO a) (fineO b)).baud, vi 200, vi (dealL (fineO a) (fineO b)).win, vi (dealL (fineO a) (fineO b)).size, vi (dealL (fineO a) (fineO b)).wait, .ptr 330 0, vi 1, vi 0, vi 0, vi 0, vi 0, vi (dealL (fineO a) (fineO b)).wait, vi 0, .bool false, .bool false, .bool false, .nils], none, cF (fineO b).vs, none, none, none, none, none, cF [.int .u32 2, vi 1, vi (fineO b).baud, vi (fineO b).silent, vi (fineO b).win, vi (fineO b).size, vi (fineO b).wait, w2, w3, vi 0, w4, w5, w6, w7, w8, w9, w10, vi 0, vi 0, vi 0, vi 0, vi 0, vi 0, w11, .bool false, .bool false, .bool false, .nils], none, some (.cells false [vi 2, vi 0, .int .u32 2, .str []]), none, some (.cells false [vi 2, vi 0, .int .u32 2, .str []]), none, none, none, none, some (.cells false [vi 2, vi 0, .int .u32 2, .str []]), none, cF [vi 0, vi 1], none, none, none, none, none, none, cF [vi 127, vi 255, .bool true, vi 3, vi 2, vi 0, vi 0, .bool true, .str (setupStr ⟨1, 2, 0, 1, (fineO a)⟩)], none, none, cF [vi 0, vi 1], cF [vi 127, vi 255, .bool true, vi 3, vi 2, vi 0, vi 0, .bool true, .str (setupStr ⟨1, 2, 0, 1, (fineO a)⟩)], cF [vi 127, vi 255], cF [vi 127, vi 255], cF [vi 127, vi 255, .bool true, vi 3, vi 2, vi 0, vi 0, .bool true, .str (setupStr ⟨1, 2, 0, 1, (fineO a)⟩)], none, none, cF [vi 127, vi 255, .bool true, vi 3, vi 2, vi 0, vi 0, .bool true, .str (setupStr ⟨1, 2, 0, 1, (fineO a)⟩)], none, cF [vi 127, vi 255, .bool true, vi 3, vi 2, vi 0, vi 0, .bool true, .str (setupStr ⟨1, 2, 0, 1, (fineO a)⟩)], none, none, none, none, none, none, some (.cells false [vi 127, vi 255, .bool true, .iface 117 (.agg [vi 2, .bool true]), .str (setupStr ⟨1, 2, 0, 1, (fineO a)⟩)]), none, none, cF [vi 127, vi 255, .bool true, vi 3, vi 2, vi 0, vi 0, .bool true, .str (setupStr ⟨1, 2, 0, 1, (fineO a)⟩)], some (.cells false [vi 127, vi 255, .bool true, .iface 117 (.agg [vi 2, .bool true]), .str (setupStr ⟨1, 2, 0, 1, (fineO a)⟩)]), none, none, none, none, none, none, none, none, some (.cells false [vi 127, vi 255, .bool true, .iface 117 (.agg [vi 2, .bool true]), .str (setupStr ⟨1, 2, 0, 1, (fineO a)⟩)]), none, some (.cells false [vi 127, vi 255, .bool true, .iface 117 (.agg [vi 2, .bool true]), .str (setupStr ⟨1, 2, 0, 1, (fineO a)⟩)]), none, none, none, none, none, none, none, cF [vi 0, vi 0, .bool false], none, none, none, none, cF [vi 127, vi 255], none, cF [vi 2, .bool true], none, some (.cells false [vi 127, vi 255, .bool true, .iface 117 (.agg [vi 2, .bool true]), .str (setupStr ⟨1, 2, 0, 1, (fineO a)⟩)]), cF [vi 127, vi 255, .bool true, vi 3, vi 2, vi 0, vi 0, .bool true, .str (setupStr ⟨1, 2, 0, 1, (fineO a)⟩)], some (.cells false [vi 127, vi 255, .bool true, .iface 117 (.agg [vi 2, .bool true]), .str (setupStr ⟨1, 2, 0, 1, (fineO a)⟩)]), none, none, none, none, none, none, none, cF [vi 0, vi 0, .bool false], none, none, none, none, cF [vi 127, vi 255], none, cF [vi 2, .bool true], none, none, none, none, none, none, none, none, none, none, none, cF [vi 127, vi 255, .bool true, vi 3, vi 2, vi 0, vi 0, .bool true, .str (setupStr ⟨1, 2, 0, 1, (fineO a)⟩)], none, cF [vi 2, .bool true], none, cF [vi 2, .bool true], none, cF [vi 127, vi 255], none, none, none, none, none, none, cF [.int .u32 1, .int .u32 2, vi 0, vi 1, vi (fineO a).baud, vi (fineO a).silent, vi (fineO a).win, vi (fineO a).size, vi (fineO a).wait], none, none, none, none, none, none, none, none, none, none, none, none, cF (dv b a 2), none, none, cF [.int .u32 1, .int .u32 2, vi 0, vi 1, vi (fineO a).baud, vi (fineO a).silent, vi (fineO a).win, vi (fineO a).size, vi (fineO a).wait], cF (dv b a 2), none, cF [vi 0, vi 1], cF (dv b a 2), none, cF (dv b a 2), none, none, none, none, none, none, none, none, none, none, none, none, cF [vi 2, vi (if (64 : Int) < (dealL (fineO b) (fineO a)).size then 64 else (dealL (fineO b) (fineO a)).size), .ptr 176 0, .ptr 179 0, .bool false], none, none, none, none, none, cF [vi (if (7 : Int) < (if (1 : Int) > (dealL (fineO b) (fineO a)).win then 1 else (dealL (fineO b) (fineO a)).win) then 7 else (if (1 : Int) > (dealL (fineO b) (fineO a)).win then 1 else (dealL (fineO b) (fineO a)).win)), .slice 369 0 1 1 none, vi 0, vi 0], none, none, cF [vi 0, .bool false], none, none, none, none, none, none, none, some (.cells false [vi 2, .int .u32 1, .str [], .nils]), none, cF [vi 0, vi 1], cF [vi 127, vi 255, .bool false, vi 3, vi 3, vi 0, vi 0, .bool true, .str (setupStr ⟨2, 1, 0, 1, (fineO b)⟩)], cF [vi 127, vi 255], cF [vi 127, vi 255], cF [vi 127, vi 255, .bool false, vi 3, vi 3, vi 0, vi 0, .bool true, .str (setupStr ⟨2, 1, 0, 1, (fineO b)⟩)], cF [vi 127, vi 255, .bool false, vi 3, vi 3, vi 0, vi 0, .bool true, .str (setupStr ⟨2, 1, 0, 1, (fineO b)⟩)], none, none, none, cF [vi 127, vi 255, .bool false, vi 3, vi 3, vi 0, vi 0, .bool true, .str (setupStr ⟨2, 1, 0, 1, (fineO b)⟩)], none, none, none, none, none, none, none, none, none, none, none, none, none, cF [vi 127, vi 255, .bool false, vi 3, vi 3, vi 0, vi 0, .bool true, .str (setupStr ⟨2, 1, 0, 1, (fineO b)⟩)], none, cF [vi 127, vi 255, .bool false, vi 3, vi 3, vi 0, vi 0, .bool true, .str (setupStr ⟨2, 1, 0, 1, (fineO b)⟩)], none, none, none, none, none, none, some (.cells false [vi 127, vi 255, .bool false, .iface 117 (.agg [vi 3, .bool true]), .str (setupStr ⟨2, 1, 0, 1, (fineO b)⟩)]), none, none, cF [vi 127, vi 255, .bool false, vi 3, vi 3, vi 0, vi 0, .bool true, .str (setupStr ⟨2, 1, 0, 1, (fineO b)⟩)], some (.cells false [vi 127, vi 255, .bool false, .iface 117 (.agg [vi 3, .bool true]), .str (setupStr ⟨2, 1, 0, 1, (fineO b)⟩)]), none, none, none, none, none, none, none, none, some (.cells false [vi 127, vi 255, .bool false, .iface 117 (.agg [vi 3, .bool true]), .str (setupStr ⟨2, 1, 0, 1, (fineO b)⟩)]), none, some (.cells false [vi 127, vi 255, .bool false, .iface 117 (.agg [vi 3, .bool true]), .str (setupStr ⟨2, 1, 0, 1, (fineO b)⟩)]), none, none, none, none, none, none, none, cF [vi 0, vi 0, .bool false], none, none, none, none, cF [vi 127, vi 255], none, cF [vi 3, .bool true], none, some (.cells false [vi 127, vi 255, .bool false, .iface 117 (.agg [vi 3, .bool true]), .str (setupStr ⟨2, 1, 0, 1, (fineO b)⟩)]), cF [vi 127, vi 255, .bool false, vi 3, vi 3, vi 0, vi 0, .bool true, .str (setupStr ⟨2, 1, 0, 1, (fineO b)⟩)], some (.cells false [vi 127, vi 255, .bool false, .iface 117 (.agg [vi 3, .bool true]), .str (setupStr ⟨2, 1, 0, 1, (fineO b)⟩)]), none, none, none, none, none, none, none, cF [vi 0, vi 0, .bool false], none, none, none, none, cF [vi 127, vi 255], none, cF [vi 3, .bool true], none, none, none, none, none, none, none, none, none, none, none, cF [vi 127, vi 255, .bool false, vi 3, vi 3, vi 0, vi 0, .bool true, .str (setupStr ⟨2, 1, 0, 1, (fineO b)⟩)], none, cF [vi 3, .bool true], none, cF [vi 3, .bool true], none, cF [vi 127, vi 255], none, none, none, none, none, none, cF [.int .u32 2, .int .u32 1, vi 0, vi 1, vi (fineO b).baud, vi (fineO b).silent, vi (fineO b).win, vi (fineO b).size, vi (fineO b).wait], none, none, none, none, none, none, none, none, none, none, none, none, cF (dv a b (dealL (fineO a) (fineO b)).wait), none, none, cF [.int .u32 2, .int .u32 1, vi 0, vi 1, vi (fineO b).baud, vi (fineO b).silent, vi (fineO b).win, vi (fineO b).size, vi (fineO b).wait], cF (dv a b (dealL (fineO a) (fineO b)).wait), none, cF [vi 0, vi 1], cF (dv a b (dealL (fineO a) (fineO b)).wait), none, cF (dv a b (dealL (fineO a) (fineO b)).wait), none, none, none, none, none, none, none, none, none, none, none, none, cF [vi 1, vi (if (64 : Int) < (dealL (fineO a) (fineO b)).size then 64 else (dealL (fineO a) (fineO b)).size), .ptr 336 0, .ptr 339 0, .bool true], none, none, none, none, none, cF [vi (if (7 : Int) < (if (1 : Int) > (dealL (fineO a) (fineO b)).win then 1 else (dealL (fineO a) (fineO b)).win) then 7 else (if (1 : Int) > (dealL (fineO a) (fineO b)).win then 1 else (dealL (fineO a) (fineO b)).win)), .nils, vi 0, vi 0], none, none, cF [vi 0, .bool false], none, none, none, none, none, none, none, some (.cells false [vi 2, .int .u32 2, .str [], .nils]), none, cF [vi 3, vi 0, .int .u32 0, .str (cut8 body)], none, cF [vi 3, vi 0, .int .u32 0, .str (cut8 body)], none, none, none, none, cF [vi 3, vi 0, .int .u32 0, .str (cut8 body)], none, none, none, none, none, none, none, cF [.str (cut8 body)], none, none, none, none, cF [.str (cut8 body)], none, none, none, none, cF (dv b a 2), none, none, cF (dv b a 2)]
def SNLS2_f (a : Gw.Offer) (b : Gw.Offer) (body : Str) (w0 : V) (w1 : V) (w2 : V) (w3 : V) (w4 : V) (w5 : V) (w6 : V) (w7 : V) (w8 : V) (w9 : V) (w10 : V) (w11 : V) : Snap := ([.agg a.vs, .agg b.vs, .bool false, .str body, .ptr 3 0, .ptr 4 0, .bool true, .ptr 16 0, .ptr 24 0, .ptr 24 0, .ptr 374 0, .int .u32 1, w0, w1, .bool true, .bool true, .bool false, .agg a.vs, .agg (fineO a).vs, .agg b.vs, .agg (fineO b).vs, .tup [.ptr 16 0, .ptr 24 0], .agg (fineO a).vs, .agg (fineO b).vs, .tup [.ptr 16 0, .ptr 24 0], .ptr 16 0, .ptr 24 0, .ptr 16 0, .bool false, .bool false, .ptr 24 0, .bool false, .bool false, .ptr 24 0, .bool false, .ptr 24 0, .str body, .str (cut8 body), .agg [vi 3, vi 0, .int .u32 0, .str (cut8 body)], .ptr 24 0, .agg (dv b a 2), .ptr 24 0, .int .u32 1], RWLS2_f a b body w0 w1 w2 w3 w4 w5 w6 w7 w8 w9 w10 w11)
def SSLS2_f (a : Gw.Offer) (b : Gw.Offer) (body : Str) (i : ILS2_f) : Snap := match i with
  | .c0 j => SNLS2_f a b body (vi 0) (vi (1 + (j : Int))) (vi 2) (.int .u32 1) (vi 1) (vi (dealL (fineO b) (fineO a)).baud) (vi 200) (vi (dealL (fineO b) (fineO a)).win) (vi (dealL (fineO b) (fineO a)).size) (vi 2) (.ptr 170 0) (vi (3 + (j : Int)))
  | .c1 j => SNLS2_f a b body (vi 0) (vi 197) (vi 2) (.int .u32 1) (vi 1) (vi (dealL (fineO b) (fineO a)).baud) (vi 200) (vi (dealL (fineO b) (fineO a)).win) (vi (dealL (fineO b) (fineO a)).size) (vi 2) (.ptr 170 0) (vi 199)
  | .c2 j => SNLS2_f a b body (vi 1) (vi (198 + (j : Int))) (vi 0) (.int .u32 0) (vi 0) (vi 0) (vi 0) (vi 0) (vi 0) (vi 0) (.nilp) (vi 0)
  | .c3 j => SNLS2_f a b body (vi 1) (vi 201) (vi 0) (.int .u32 0) (vi 0) (vi 0) (vi 0) (vi 0) (vi 0) (vi 0) (.nilp) (vi 0)
def XLS2_f (a : Gw.Offer) (b : Gw.Offer) (body : Str) : Snap := ([.agg a.vs, .agg b.vs, .bool false, .str body, .ptr 3 0, .ptr 4 0, .bool true, .ptr 16 0, .ptr 24 0, .ptr 24 0, .ptr 374 0, vi 1, .bool true, .bool true, .bool false, .agg a.vs, .agg (fineO a).vs, .agg b.vs, .agg (fineO b).vs, .tup [.ptr 16 0, .ptr 24 0], .agg (fineO a).vs, .agg (fineO b).vs, .tup [.ptr 16 0, .ptr 24 0], .ptr 16 0, .ptr 24 0, .ptr 16 0, .bool false, .bool false, .ptr 24 0, .bool false, .bool false, .ptr 24 0, .bool false, .ptr 24 0, .str body, .str (cut8 body), .agg [vi 3, vi 0, .int .u32 0, .str (cut8 body)], .ptr 24 0, .agg (dv b a 2), .ptr 24 0, .int .u32 1], RWLS2_f a b body (vi 0) (vi 1) (vi 0) (.int .u32 0) (vi 0) (vi 0) (vi 0) (vi 0) (vi 0) (vi 0) (.nilp) (vi 0))
def invLS2_f (i : ILS2_f) : Prop := match i with
  | .c0 j => j < 196
  | .c1 j => j < 1
  | .c2 j => j < 3
  | .c3 j => j < 1
def muLS2_f (i : ILS2_f) : Nat := match i with
  | .c0 j => 201 - (0 + j)
  | .c1 j => 201 - (196 + j)
  | .c2 j => 201 - (197 + j)
  | .c3 j => 201 - (200 + j)
def loopLS2_f (a : Gw.Offer) (b : Gw.Offer) (body : Str) : LoopD ILS2_f where
  nt := 134
  fr := fun ex => match ex with | .normal => ⟨[0, 1, 2, 3, 4, 5, 9, 10, 11, 12, 13, 14, 15, 16, 21, 22, 23, 24, 25, 26, 27, 28, 29, 30, 31, 32, 33, 34, 35, 36, 37, 38, 39, 40, 41, 43, 44, 45, 46, 48, 49, 50, 51], 378, []⟩ | .exit _ => ⟨[0, 1, 2, 3, 4, 5, 9, 10, 11, 12, 13, 15, 21, 22, 23, 24, 25, 26, 27, 28, 29, 30, 31, 32, 33, 34, 35, 36, 37, 38, 39, 40, 41, 43, 44, 45, 46, 48, 49, 50, 51], 378, []⟩ | .ret => ⟨[], 378, []⟩
  S := SSLS2_f a b body
  out := fun i => .ob (invLS2_f i) (.leaf ((.exit 0), XLS2_f a b body))
  pick := fun _ => .c0 0
def ltLS2_f (a : Gw.Offer) (b : Gw.Offer) (body : Str) : Lt := fun k => match k with | 0 => (loopLS2_f a b body).lt | _ => fun _ _ => .fail
def lpLS2_f : DC := (((loopsIn 0 (dOf 3).body)[0]?).getD (0, .skip)).2
def orcLS2_f (a : Gw.Offer) (b : Gw.Offer) (body : Str) (i : ILS2_f) : Orc := match i with
  | .c0 j => (fun k => match k with | 55 => some fun t h => (.bool true, h) | 57 => some fun t h => (vi (2 + (j : Int)), h) | _ => none)
  | .c1 j => noOrc
  | .c2 j => (fun k => match k with | 55 => some fun t h => (.bool true, h) | 57 => some fun t h => (vi (199 + (j : Int)), h) | _ => none)
  | .c3 j => noOrc
def orcsLS2_f (a : Gw.Offer) (b : Gw.Offer) (body : Str) (i : ILS2_f) : Nat → Orc := match i with
  | .c0 j => (fun g => match g with | 35 => (fun k => match k with | 13 => some fun t h => (vi (4 + (j : Int)), h) | 25 => some fun t h => (.bool false, h) | _ => none) | _ => noOrc)
  | .c1 j => (fun _ => noOrc)
  | .c2 j => (fun _ => noOrc)
  | .c3 j => (fun _ => noOrc)
def stsLS2_f (i : ILS2_f) : Nat → List Nat := match i with
  | .c0 j => (fun k => match k with | 3 => [55, 65] | 16 => [15, 22, 31, 52, 74, 80] | 35 => [8, 25, 32] | 38 => [9] | _ => [])
  | .c1 j => (fun k => match k with | 3 => [55, 65, 68, 80, 85, 92, 100] | 16 => [15] | 35 => [8, 25] | _ => [])
  | .c2 j => (fun k => match k with | 3 => [55, 65] | 16 => [15, 22, 31, 52, 74] | 35 => [8, 32] | _ => [])
  | .c3 j => (fun k => match k with | 3 => [55] | _ => [])
def stLS2_f (i : ILS2_f) : List Nat := match i with
  | .c0 j => [55, 65]
  | .c1 j => [55, 65, 68, 80, 85, 92, 100]
  | .c2 j => [55, 65]
  | .c3 j => [55]
def treeLS2_f_0 (a : Gw.Offer) (b : Gw.Offer) (body : Str) (j : Nat) : DT (Ex × Snap) :=
  .ob (binV .leq (vi (1 + (j : Int))) (vi 200) = some (.bool true)) (
.ob (binV .add (vi (3 + (j : Int))) (vi 1) = some (vi (4 + (j : Int)))) (
.ob (binV .geq (vi (4 + (j : Int))) (vi 200) = some (.bool false)) (
.ob (binV .add (vi (1 + (j : Int))) (vi 1) = some (vi (2 + (j : Int)))) (
.leaf (.normal, SNLS2_f a b body (vi 0) (vi (2 + (j : Int))) (vi 2) (.int .u32 1) (vi 1) (vi (dealL (fineO b) (fineO a)).baud) (vi 200) (vi (dealL (fineO b) (fineO a)).win) (vi (dealL (fineO b) (fineO a)).size) (vi 2) (.ptr 170 0) (vi (4 + (j : Int))))))))
set_option maxRecDepth 1000000 in
theorem treeLS2_f_0_eq (a : Gw.Offer) (b : Gw.Offer) (body : Str) (j : Nat) : rnd (orcsLS2_f a b body (.c0 j)) (stsLS2_f (.c0 j)) (orcLS2_f a b body (.c0 j)) (stLS2_f (.c0 j)) noLt 0 lpLS2_f ((loopLS2_f a b body).t0 (.c0 j)) [] ((loopLS2_f a b body).h0 (.c0 j)) (loopLS2_f a b body).end_ = treeLS2_f_0 a b body j := by kernel_rfl
def treeLS2_f_1 (a : Gw.Offer) (b : Gw.Offer) (body : Str) (j : Nat) : DT (Ex × Snap) :=
  .ob (4 = 4 ∧ 0 ≤ (0 : Int) ∧ (0 : Int) < ((1 : Nat) : Int)) (
.ob (4 = 4 ∧ 0 ≤ (0 : Int) ∧ (0 : Int) < ((1 : Nat) : Int)) (
.leaf (.normal, SNLS2_f a b body (vi 1) (vi 198) (vi 0) (.int .u32 0) (vi 0) (vi 0) (vi 0) (vi 0) (vi 0) (vi 0) (.nilp) (vi 0))))
set_option maxRecDepth 1000000 in
theorem treeLS2_f_1_eq (a : Gw.Offer) (b : Gw.Offer) (body : Str) (j : Nat) : rnd (orcsLS2_f a b body (.c1 j)) (stsLS2_f (.c1 j)) (orcLS2_f a b body (.c1 j)) (stLS2_f (.c1 j)) noLt 0 lpLS2_f ((loopLS2_f a b body).t0 (.c1 j)) [] ((loopLS2_f a b body).h0 (.c1 j)) (loopLS2_f a b body).end_ = treeLS2_f_1 a b body j := by kernel_rfl
def treeLS2_f_2 (a : Gw.Offer) (b : Gw.Offer) (body : Str) (j : Nat) : DT (Ex × Snap) :=
  .ob (binV .leq (vi (198 + (j : Int))) (vi 200) = some (.bool true)) (
.ob (binV .add (vi (198 + (j : Int))) (vi 1) = some (vi (199 + (j : Int)))) (
.leaf (.normal, SNLS2_f a b body (vi 1) (vi (199 + (j : Int))) (vi 0) (.int .u32 0) (vi 0) (vi 0) (vi 0) (vi 0) (vi 0) (vi 0) (.nilp) (vi 0))))
set_option maxRecDepth 1000000 in
theorem treeLS2_f_2_eq (a : Gw.Offer) (b : Gw.Offer) (body : Str) (j : Nat) : rnd (orcsLS2_f a b body (.c2 j)) (stsLS2_f (.c2 j)) (orcLS2_f a b body (.c2 j)) (stLS2_f (.c2 j)) noLt 0 lpLS2_f ((loopLS2_f a b body).t0 (.c2 j)) [] ((loopLS2_f a b body).h0 (.c2 j)) (loopLS2_f a b body).end_ = treeLS2_f_2 a b body j := by kernel_rfl
def treeLS2_f_3 (a : Gw.Offer) (b : Gw.Offer) (body : Str) (j : Nat) : DT (Ex × Snap) :=
  .leaf ((.exit 0), XLS2_f a b body)
set_option maxRecDepth 1000000 in
theorem treeLS2_f_3_eq (a : Gw.Offer) (b : Gw.Offer) (body : Str) (j : Nat) : rnd (orcsLS2_f a b body (.c3 j)) (stsLS2_f (.c3 j)) (orcLS2_f a b body (.c3 j)) (stLS2_f (.c3 j)) noLt 0 lpLS2_f ((loopLS2_f a b body).t0 (.c3 j)) [] ((loopLS2_f a b body).h0 (.c3 j)) (loopLS2_f a b body).end_ = treeLS2_f_3 a b body j := by kernel_rfl
def treeLS2_fL (a : Gw.Offer) (b : Gw.Offer) (body : Str) (i : ILS2_f) : DT (Ex × Snap) := match i with
  | .c0 j => treeLS2_f_0 a b body j
  | .c1 j => treeLS2_f_1 a b body j
  | .c2 j => treeLS2_f_2 a b body j
  | .c3 j => treeLS2_f_3 a b body j
theorem roundLS2_f (a : Gw.Offer) (b : Gw.Offer) (body : Str) (hwa : loL (fineO a).wait = 2) (i : ILS2_f) (Pr : Ex × Snap → Prop) (h : ((loopLS2_f a b body).out i).sat Pr) : (treeLS2_fL a b body i).sat ((loopLS2_f a b body).next muLS2_f i Pr) := by
  match i with
  | .c0 j =>
    have hj : j < 196 := h.1
    have hX := h.2
    exact sat_ob (by simp [binV, binI]; omega) (
sat_ob (by show some (V.int .i64 (wrapK .i64 ((3 + (j : Int)) + 1))) = _; rw [wrap_small (by omega), show ((3 + (j : Int)) + 1) = (4 + (j : Int)) by omega]) (
sat_ob (by simp [binV, binI]; omega) (
sat_ob (by show some (V.int .i64 (wrapK .i64 ((1 + (j : Int)) + 1))) = _; rw [wrap_small (by omega), show ((1 + (j : Int)) + 1) = (2 + (j : Int)) by omega]) (
sat_leaf (if h2 : j + 1 < 196 then ⟨.c0 (j + 1), (by show SNLS2_f a b body (vi 0) (vi (2 + (j : Int))) (vi 2) (.int .u32 1) (vi 1) (vi (dealL (fineO b) (fineO a)).baud) (vi 200) (vi (dealL (fineO b) (fineO a)).win) (vi (dealL (fineO b) (fineO a)).size) (vi 2) (.ptr 170 0) (vi (4 + (j : Int))) = SNLS2_f a b body (vi 0) (vi (1 + ((j + 1 : Nat) : Int))) (vi 2) (.int .u32 1) (vi 1) (vi (dealL (fineO b) (fineO a)).baud) (vi 200) (vi (dealL (fineO b) (fineO a)).win) (vi (dealL (fineO b) (fineO a)).size) (vi 2) (.ptr 170 0) (vi (3 + ((j + 1 : Nat) : Int))); rw [show ((1 + ((j + 1 : Nat) : Int)) : Int) = (2 + (j : Int)) by omega, show ((3 + ((j + 1 : Nat) : Int)) : Int) = (4 + (j : Int)) by omega]), (by show 201 - (0 + (j + 1)) < 201 - (0 + j); omega), ⟨h2, hX⟩⟩ else by
    obtain rfl : j = 195 := by omega
    exact ⟨.c1 0, by kernel_rfl, (by show 201 - (196 + 0) < 201 - (0 + 195); omega), ⟨(show 0 < 1 by decide), hX⟩⟩)))))
  | .c1 j =>
    have hj : j < 1 := h.1
    have hX := h.2
    obtain rfl : j = 0 := by omega
    exact sat_ob (by decide) (
sat_ob (by decide) (
sat_leaf (⟨.c2 0, by kernel_rfl, (by show 201 - (197 + 0) < 201 - (196 + 0); omega), ⟨(show 0 < 3 by decide), hX⟩⟩)))
  | .c2 j =>
    have hj : j < 3 := h.1
    have hX := h.2
    exact sat_ob (by simp [binV, binI]; omega) (
sat_ob (by show some (V.int .i64 (wrapK .i64 ((198 + (j : Int)) + 1))) = _; rw [wrap_small (by omega), show ((198 + (j : Int)) + 1) = (199 + (j : Int)) by omega]) (
sat_leaf (if h2 : j + 1 < 3 then ⟨.c2 (j + 1), (by show SNLS2_f a b body (vi 1) (vi (199 + (j : Int))) (vi 0) (.int .u32 0) (vi 0) (vi 0) (vi 0) (vi 0) (vi 0) (vi 0) (.nilp) (vi 0) = SNLS2_f a b body (vi 1) (vi (198 + ((j + 1 : Nat) : Int))) (vi 0) (.int .u32 0) (vi 0) (vi 0) (vi 0) (vi 0) (vi 0) (vi 0) (.nilp) (vi 0); rw [show ((198 + ((j + 1 : Nat) : Int)) : Int) = (199 + (j : Int)) by omega]), (by show 201 - (197 + (j + 1)) < 201 - (197 + j); omega), ⟨h2, hX⟩⟩ else by
    obtain rfl : j = 2 := by omega
    exact ⟨.c3 0, by kernel_rfl, (by show 201 - (200 + 0) < 201 - (197 + 2); omega), ⟨(show 0 < 1 by decide), hX⟩⟩)))
  | .c3 j =>
    have hj : j < 1 := h.1
    have hX := h.2
    obtain rfl : j = 0 := by omega
    exact sat_leaf (hX)
theorem ltLS2_f_ok (a : Gw.Offer) (b : Gw.Offer) (body : Str) (hwa : loL (fineO a).wait = 2) (hint : Nat → List Nat) : Lt1 Tryz.prog hint 3 (loopLS2_f a b body).lt lpLS2_f :=
  LoopD.lt1c mixed (show TabX Tryz.prog noPX oxM from tabM) tabD (loopLS2_f a b body) muLS2_f (fun ex => match ex with | .normal => ⟨show 3 ≤ 378 by decide, show 3 ≤ 378 by decide⟩ | .exit _ => ⟨show 3 ≤ 378 by decide, show 3 ≤ 378 by decide⟩ | .ret => ⟨show 3 ≤ 378 by decide, show 3 ≤ 378 by decide⟩) (orcs := orcsLS2_f a b body) (sts := stsLS2_f) (orc := orcLS2_f a b body) (st := stLS2_f) (tree := treeLS2_fL a b body)
    (fun i => match i with
    | .c0 j => treeLS2_f_0_eq a b body j
    | .c1 j => treeLS2_f_1_eq a b body j
    | .c2 j => treeLS2_f_2_eq a b body j
    | .c3 j => treeLS2_f_3_eq a b body j) (roundLS2_f a b body hwa)
def oxLS2_f (a : Gw.Offer) (b : Gw.Offer) (body : Str) : OTab := (consT 46 (gD dGet pGet (fun n => match n with | 138 => some (.tup [.agg [.int .u32 1, .int .u32 2, vi 0, vi 1, vi (fineO a).baud, vi (fineO a).silent, vi (fineO a).win, vi (fineO a).size, vi (fineO a).wait], .bool true]) | 298 => some (.tup [.agg [.int .u32 2, .int .u32 1, vi 0, vi 1, vi (fineO b).baud, vi (fineO b).silent, vi (fineO b).win, vi (fineO b).size, vi (fineO b).wait], .bool true]) | _ => none)) (consT 70 (gD dPut pPut noV) (consT 47 (gDT kT0 kT1 kT2 dDeal pDeal (fun n => match n with | 151 => some (.tup [.agg (dv b a 2), .bool true]) | 311 => some (.tup [.agg (dv a b (dealL (fineO a) (fineO b)).wait), .bool true]) | _ => none)) (consT 43 (gD dOff pMayQ (fun n => match n with | 12 => some (.bool true) | 20 => some (.bool true) | _ => none)) (consT 10 (gD dOff pFine noV) (consO 9 (gTrue kT0 kT1 kT2) noOX))))))
def treeLS2_f (a : Gw.Offer) (b : Gw.Offer) (body : Str) : DT V :=
  .ob (dOff [.agg a.vs]) (
.ob (((V.beq (.agg b.vs) (.agg b.vs)) && true) = true) (
.ob (dOff [.agg b.vs]) (
.ob (dOff [.agg (fineO a).vs]) (
.ob (pMayQ [.agg (fineO a).vs] = (.bool true)) (
.ob (((V.beq (.agg (fineO b).vs) (.agg (fineO b).vs)) && true) = true) (
.ob (dOff [.agg (fineO b).vs]) (
.ob (pMayQ [.agg (fineO b).vs] = (.bool true)) (
.ob (True) (
.ob (IntKind.i64 = IntKind.i64 ∧ (250 : Int) ≠ 0) (
.ob (((V.beq (.int .u32 2) (.int .u32 2)) && true) = true) (
.ob (((V.beq (.int .u32 2) (.int .u32 2)) && true) = true) (
.ob (dPut [.agg [.int .u32 1, .int .u32 2, vi 0, vi 1, vi (fineO a).baud, vi (fineO a).silent, vi (fineO a).win, vi (fineO a).size, vi (fineO a).wait]]) (
.ob (9 = 9 ∧ 0 ≤ (0 : Int) ∧ (0 : Int) < ((1 : Nat) : Int)) (
.ob (Gw.lenStr (.str (setupStr ⟨1, 2, 0, 1, (fineO a)⟩)) = some (vi 25)) (
.ob (Gw.lenStr (.str (setupStr ⟨1, 2, 0, 1, (fineO a)⟩)) = some (vi 25)) (
.ob (((V.beq (.str (setupStr ⟨1, 2, 0, 1, (fineO a)⟩)) (.str (setupStr ⟨1, 2, 0, 1, (fineO a)⟩))) && ((V.beq (.bool true) (.bool true)) && ((V.beq (.agg [vi 127, vi 255]) (.agg [vi 127, vi 255])) && true))) = true) (
.ob (((V.beq (vi 2) (vi 2)) && true) = true) (
.ob (((V.beq (.agg [vi 127, vi 255, .bool true, vi 3, vi 2, vi 0, vi 0, .bool true, .str (setupStr ⟨1, 2, 0, 1, (fineO a)⟩)]) (.agg [vi 127, vi 255, .bool true, vi 3, vi 2, vi 0, vi 0, .bool true, .str (setupStr ⟨1, 2, 0, 1, (fineO a)⟩)])) && true) = true) (
.ob (((eqV (.agg [.i, .i, .b, .i, .i, .i, .i, .b, .s]) (.agg [vi 127, vi 255, .bool true, vi 3, vi 2, vi 0, vi 0, .bool true, .str (setupStr ⟨1, 2, 0, 1, (fineO a)⟩)]) (.agg [vi 127, vi 255, .bool true, vi 3, vi 2, vi 0, vi 0, .bool true, .str (setupStr ⟨1, 2, 0, 1, (fineO a)⟩)])).map fun b => V.bool (if true then !b else b)) = some (.bool false)) (
.ob (((V.beq (.agg [vi 127, vi 255]) (.agg [vi 127, vi 255])) && true) = true) (
.ob (True) (
.ob (dGet [.str (setupStr ⟨1, 2, 0, 1, (fineO a)⟩)]) (
.ob (pGet [.str (setupStr ⟨1, 2, 0, 1, (fineO a)⟩)] = (.tup [.agg [.int .u32 1, .int .u32 2, vi 0, vi 1, vi (fineO a).baud, vi (fineO a).silent, vi (fineO a).win, vi (fineO a).size, vi (fineO a).wait], .bool true])) (
.ob (dDeal [.agg (fineO b).vs, .agg (fineO a).vs]) (
.ob (pDeal [.agg (fineO b).vs, .agg (fineO a).vs] = (.tup [.agg (dv b a 2), .bool true])) (
.ob (((V.beq (vi (dealL (fineO b) (fineO a)).size) (vi (dealL (fineO b) (fineO a)).size)) && true) = true) (
.ob (((V.beq (vi (dealL (fineO b) (fineO a)).size) (vi (dealL (fineO b) (fineO a)).size)) && true) = true) (
.ob (((V.beq (.agg (dv b a 2)) (.agg (dv b a 2))) && ((V.beq (.agg [vi 0, vi 1]) (.agg [vi 0, vi 1])) && true)) = true) (
.ob (((V.beq (.agg (dv b a 2)) (.agg (dv b a 2))) && ((V.beq (.agg [vi 0, vi 1]) (.agg [vi 0, vi 1])) && true)) = true) (
.ob (((V.beq (.agg (dv b a 2)) (.agg (dv b a 2))) && ((V.beq (.agg [vi 0, vi 1]) (.agg [vi 0, vi 1])) && true)) = true) (
.ob (((V.beq (.agg (dv b a 2)) (.agg (dv b a 2))) && true) = true) (
.ob (((V.beq (vi 2) (vi 2)) && true) = true) (
.ob (((V.beq (vi 2) (vi 2)) && true) = true) (
.ob (((V.beq (vi 2) (vi 2)) && true) = true) (
.ob (dPut [.agg [.int .u32 2, .int .u32 1, vi 0, vi 1, vi (fineO b).baud, vi (fineO b).silent, vi (fineO b).win, vi (fineO b).size, vi (fineO b).wait]]) (
.ob (9 = 9 ∧ 0 ≤ (0 : Int) ∧ (0 : Int) < ((1 : Nat) : Int)) (
.ob (Gw.lenStr (.str (setupStr ⟨2, 1, 0, 1, (fineO b)⟩)) = some (vi 25)) (
.ob (Gw.lenStr (.str (setupStr ⟨2, 1, 0, 1, (fineO b)⟩)) = some (vi 25)) (
.ob (((V.beq (.str (setupStr ⟨2, 1, 0, 1, (fineO b)⟩)) (.str (setupStr ⟨2, 1, 0, 1, (fineO b)⟩))) && ((V.beq (.bool false) (.bool false)) && ((V.beq (.agg [vi 127, vi 255]) (.agg [vi 127, vi 255])) && true))) = true) (
.ob (((V.beq (vi 3) (vi 3)) && true) = true) (
.ob (((V.beq (.agg [vi 127, vi 255, .bool false, vi 3, vi 3, vi 0, vi 0, .bool true, .str (setupStr ⟨2, 1, 0, 1, (fineO b)⟩)]) (.agg [vi 127, vi 255, .bool false, vi 3, vi 3, vi 0, vi 0, .bool true, .str (setupStr ⟨2, 1, 0, 1, (fineO b)⟩)])) && true) = true) (
.ob (((eqV (.agg [.i, .i, .b, .i, .i, .i, .i, .b, .s]) (.agg [vi 127, vi 255, .bool false, vi 3, vi 3, vi 0, vi 0, .bool true, .str (setupStr ⟨2, 1, 0, 1, (fineO b)⟩)]) (.agg [vi 127, vi 255, .bool false, vi 3, vi 3, vi 0, vi 0, .bool true, .str (setupStr ⟨2, 1, 0, 1, (fineO b)⟩)])).map fun b => V.bool (if true then !b else b)) = some (.bool false)) (
.ob (((V.beq (.agg [vi 127, vi 255]) (.agg [vi 127, vi 255])) && true) = true) (
.ob (True) (
.ob (dGet [.str (setupStr ⟨2, 1, 0, 1, (fineO b)⟩)]) (
.ob (pGet [.str (setupStr ⟨2, 1, 0, 1, (fineO b)⟩)] = (.tup [.agg [.int .u32 2, .int .u32 1, vi 0, vi 1, vi (fineO b).baud, vi (fineO b).silent, vi (fineO b).win, vi (fineO b).size, vi (fineO b).wait], .bool true])) (
.ob (dDeal [.agg (fineO a).vs, .agg (fineO b).vs]) (
.ob (pDeal [.agg (fineO a).vs, .agg (fineO b).vs] = (.tup [.agg (dv a b (dealL (fineO a) (fineO b)).wait), .bool true])) (
.ob (True) (
.ob (((V.beq (vi (dealL (fineO a) (fineO b)).size) (vi (dealL (fineO a) (fineO b)).size)) && true) = true) (
.ob (((V.beq (vi (dealL (fineO a) (fineO b)).size) (vi (dealL (fineO a) (fineO b)).size)) && true) = true) (
.ob (((V.beq (.agg (dv a b (dealL (fineO a) (fineO b)).wait)) (.agg (dv a b (dealL (fineO a) (fineO b)).wait))) && ((V.beq (.agg [vi 0, vi 1]) (.agg [vi 0, vi 1])) && true)) = true) (
.ob (((V.beq (.agg (dv a b (dealL (fineO a) (fineO b)).wait)) (.agg (dv a b (dealL (fineO a) (fineO b)).wait))) && ((V.beq (.agg [vi 0, vi 1]) (.agg [vi 0, vi 1])) && true)) = true) (
.ob (((V.beq (.agg (dv a b (dealL (fineO a) (fineO b)).wait)) (.agg (dv a b (dealL (fineO a) (fineO b)).wait))) && ((V.beq (.agg [vi 0, vi 1]) (.agg [vi 0, vi 1])) && true)) = true) (
.ob (((V.beq (.agg (dv a b (dealL (fineO a) (fineO b)).wait)) (.agg (dv a b (dealL (fineO a) (fineO b)).wait))) && true) = true) (
.ob (((V.beq (vi (dealL (fineO a) (fineO b)).wait) (vi (dealL (fineO a) (fineO b)).wait)) && true) = true) (
.ob (((V.beq (vi (dealL (fineO a) (fineO b)).wait) (vi (dealL (fineO a) (fineO b)).wait)) && true) = true) (
.ob (((V.beq (vi (dealL (fineO a) (fineO b)).wait) (vi (dealL (fineO a) (fineO b)).wait)) && true) = true) (
.ob ((0 ≤ ((if (8 : Int) < ((body : Str).length : Int) then 8 else ((body : Str).length : Int)) : Int) ∧ ((if (8 : Int) < ((body : Str).length : Int) then 8 else ((body : Str).length : Int)) : Int) ≤ (((body : Str).length : Nat) : Int)) ∧ (True)) (
.ob (((eqV (.agg [.i, .i, .i, .s]) (.agg [vi 3, vi 0, .int .u32 0, .str (cut8 body)]) (.agg [vi 3, vi 0, .int .u32 0, .str (cut8 body)])).map fun b => V.bool (if false then !b else b)) = some (.bool true)) (
.ob (binV .leq (vi (((cut8 body) : Str).length : Int)) (vi 64) = some (.bool true)) (
.ob (binV .gtr (vi (((cut8 body) : Str).length : Int)) (vi (if (64 : Int) < (dealL (fineO b) (fineO a)).size then 64 else (dealL (fineO b) (fineO a)).size)) = some (.bool false)) (
.ob ((1 = 1 ∧ ([.str (cut8 body)] : List V).length = 1 * 1) ∧ allOne [.str (cut8 body)] = true ∧ 1 * 16 ≤ 70368744177664) (
.ob ((SNLS2_f a b body (vi 0) (vi 1) (vi 2) (.int .u32 1) (vi 1) (vi (dealL (fineO b) (fineO a)).baud) (vi 200) (vi (dealL (fineO b) (fineO a)).win) (vi (dealL (fineO b) (fineO a)).size) (vi 2) (.ptr 170 0) (vi 3) : Snap) = (loopLS2_f a b body).S (.c0 0)) (
.ob (invLS2_f (.c0 0)) (
.leaf (.bool true)))))))))))))))))))))))))))))))))))))))))))))))))))))))))))))))))))
set_option maxRecDepth 1000000 in
theorem treeLS2_f_eq (a : Gw.Offer) (b : Gw.Offer) (body : Str) : funT (mkXT (noPX) (oxLS2_f a b body)) (mkXP (noPX)) (mkX (noPX) (oxLS2_f a b body)) D (fun g => match g with | 76 => (fun k => match k with | 38 => some fun t h => (match h.n with | 93 => (vi 25, h) | 112 => (vi 25, h) | 253 => (vi 25, h) | _ => (vi 25, h)) | _ => none) | 44 => (fun k => match k with | 52 => some fun t h => (match h.n with | 128 => (.bool false, h) | _ => (.bool false, h)) | _ => none) | 31 => (fun k => match k with | 58 => some fun t h => (.bool true, h) | 63 => some fun t h => (.bool true, h) | _ => none) | 33 => (fun k => match k with | 15 => some fun t h => (.bool false, h) | _ => none) | _ => noOrc) (fun k => match k with | 3 => [21, 41, 108, 112, 117, 122, 127, 132] | 11 => [31, 41, 49, 60, 69, 72, 76] | 12 => [10, 15, 20, 25, 30, 31, 37, 41, 50, 57, 81] | 16 => [15, 22, 31, 52, 58, 74] | 21 => [8, 11, 15, 19, 23] | 22 => [16, 25, 30, 36, 39, 44, 47, 57, 67, 82, 86, 99] | 31 => [10, 33, 34, 40, 44, 49, 52, 58, 63] | 33 => [15] | 35 => [8, 25, 32] | 37 => [28, 30] | 44 => [8, 15, 26, 37, 41, 46, 52] | 48 => [14, 20, 28] | 49 => [13] | 67 => [14] | 71 => [10] | 76 => [11, 16, 20, 25, 30, 34, 39] | 77 => [8, 14, 19, 24, 34, 44] | 104 => [6, 9, 20] | 129 => [8, 19, 30, 34, 38] | 130 => [8, 13, 18, 21] | _ => []) 12 noOrc [21, 41, 108, 112, 117, 122, 127, 132] (ltLS2_f a b body) (dOf 3) [.agg a.vs, .agg b.vs, .bool false, .str body] (tabH kT0 kT1 kT2 3) (fun v _ => v) = treeLS2_f a b body := by kernel_rfl
theorem satLS2_f (a : Gw.Offer) (b : Gw.Offer) (body : Str) (hwa : loL (fineO a).wait = 2) : (treeLS2_f a b body).sat fun v => v = .bool true :=
 sat_ob trivial (
sat_ob (by simp only [V.beq_refl, Bool.and_true]) (
sat_ob trivial (
sat_ob trivial (
sat_ob (may_of (mayO_fine a)) (
sat_ob (by simp only [V.beq_refl, Bool.and_true]) (
sat_ob trivial (
sat_ob (may_of (mayO_fine b)) (
sat_ob trivial (
sat_ob (by decide) (
sat_ob (by simp only [V.beq_refl, Bool.and_true]) (
sat_ob (by simp only [V.beq_refl, Bool.and_true]) (
sat_ob (okSet 1 2 0 1 a (by decide) (by decide) (by decide) (by decide)) (
sat_ob (by decide) (
sat_ob rfl (
sat_ob rfl (
sat_ob (by simp only [V.beq_refl, Bool.and_true]) (
sat_ob (by simp only [V.beq_refl, Bool.and_true]) (
sat_ob (by simp only [V.beq_refl, Bool.and_true]) (
sat_ob (by simp [eqV, eqCells]) (
sat_ob (by simp only [V.beq_refl, Bool.and_true]) (
sat_ob trivial (
sat_ob ⟨⟨1, 2, 0, 1, (fineO a)⟩, (okSet 1 2 0 1 a (by decide) (by decide) (by decide) (by decide)), rfl⟩ (
sat_ob (get_put ⟨1, 2, 0, 1, (fineO a)⟩ (okSet 1 2 0 1 a (by decide) (by decide) (by decide) (by decide))) (
sat_ob ⟨(mayO_fine b), (mayO_fine a)⟩ (
sat_ob (by show V.tup [.agg [vi _, vi _, vi _, vi _, vi (loL (fineO a).wait)], .bool true] = _; rw [hwa]; rfl) (
sat_ob (by simp only [V.beq_refl, Bool.and_true]) (
sat_ob (by simp only [V.beq_refl, Bool.and_true]) (
sat_ob (by simp only [V.beq_refl, Bool.and_true]) (
sat_ob (by simp only [V.beq_refl, Bool.and_true]) (
sat_ob (by simp only [V.beq_refl, Bool.and_true]) (
sat_ob (by simp only [V.beq_refl, Bool.and_true]) (
sat_ob (by simp only [V.beq_refl, Bool.and_true]) (
sat_ob (by simp only [V.beq_refl, Bool.and_true]) (
sat_ob (by simp only [V.beq_refl, Bool.and_true]) (
sat_ob (okSet 2 1 0 1 b (by decide) (by decide) (by decide) (by decide)) (
sat_ob (by decide) (
sat_ob rfl (
sat_ob rfl (
sat_ob (by simp only [V.beq_refl, Bool.and_true]) (
sat_ob (by simp only [V.beq_refl, Bool.and_true]) (
sat_ob (by simp only [V.beq_refl, Bool.and_true]) (
sat_ob (by simp [eqV, eqCells]) (
sat_ob (by simp only [V.beq_refl, Bool.and_true]) (
sat_ob trivial (
sat_ob ⟨⟨2, 1, 0, 1, (fineO b)⟩, (okSet 2 1 0 1 b (by decide) (by decide) (by decide) (by decide)), rfl⟩ (
sat_ob (get_put ⟨2, 1, 0, 1, (fineO b)⟩ (okSet 2 1 0 1 b (by decide) (by decide) (by decide) (by decide))) (
sat_ob ⟨(mayO_fine a), (mayO_fine b)⟩ (
sat_ob (by rfl) (
sat_ob trivial (
sat_ob (by simp only [V.beq_refl, Bool.and_true]) (
sat_ob (by simp only [V.beq_refl, Bool.and_true]) (
sat_ob (by simp only [V.beq_refl, Bool.and_true]) (
sat_ob (by simp only [V.beq_refl, Bool.and_true]) (
sat_ob (by simp only [V.beq_refl, Bool.and_true]) (
sat_ob (by simp only [V.beq_refl, Bool.and_true]) (
sat_ob (by simp only [V.beq_refl, Bool.and_true]) (
sat_ob (by simp only [V.beq_refl, Bool.and_true]) (
sat_ob (by simp only [V.beq_refl, Bool.and_true]) (
sat_ob ⟨by split <;> omega, trivial⟩ (
sat_ob (by simp [eqV, eqCells]) (
sat_ob (by have := cut8_len body; simp [binV, binI]; omega) (
sat_ob (gtr8 body (size8 b a)) (
sat_ob (by first | rfl | simp [V.beq, V.beqs, allOne, V.one, byteVs, binV, binI, eqV, eqCells]) (
sat_ob (by kernel_rfl) (
sat_ob (show 0 < 196 by decide) (
sat_leaf (rfl)))))))))))))))))))))))))))))))))))))))))))))))))))))))))))))))))))
theorem loopsLS2_f : loopsIn 0 (dOf 3).body = [(0, lpLS2_f)] := by kernel_rfl
set_option maxRecDepth 1000000 in
theorem runLS2_f (a : Gw.Offer) (b : Gw.Offer) (body : Str) (hwa : loL (fineO a).wait = 2) : Run Tryz.prog 3 [.agg a.vs, .agg b.vs, .bool false, .str body] (tabH kT0 kT1 kT2 3) fun v _ => v = .bool true := by
  refine run_loops mixed (show TabX Tryz.prog noPX (oxLS2_f a b body) from ((((((TabX.nil.addO ans_begun).addT (ans_fine noV)).addT (ans_may (fun n => match n with | 12 => some (.bool true) | 20 => some (.bool true) | _ => none))).addT (ans_deal (fun n => match n with | 151 => some (.tup [.agg (dv b a 2), .bool true]) | 311 => some (.tup [.agg (dv a b (dealL (fineO a) (fineO b)).wait), .bool true]) | _ => none))).addT (ans_put noV)).addT (ans_get (fun n => match n with | 138 => some (.tup [.agg [.int .u32 1, .int .u32 2, vi 0, vi 1, vi (fineO a).baud, vi (fineO a).silent, vi (fineO a).win, vi (fineO a).size, vi (fineO a).wait], .bool true]) | 298 => some (.tup [.agg [.int .u32 2, .int .u32 1, vi 0, vi 1, vi (fineO b).baud, vi (fineO b).silent, vi (fineO b).win, vi (fineO b).size, vi (fineO b).wait], .bool true]) | _ => none)))) tabD (dIs (by kernel_rfl)) (lt := ltLS2_f a b body) (fun hint p hp => ?_) (treeLS2_f_eq a b body) (satLS2_f a b body hwa)
  rw [loopsLS2_f] at hp
  simp only [List.mem_cons, List.not_mem_nil, or_false] at hp
  subst hp
  exact ltLS2_f_ok a b body hwa hint
end Go.Proofs.YtjcninlcdnkofaaGreatDoor
