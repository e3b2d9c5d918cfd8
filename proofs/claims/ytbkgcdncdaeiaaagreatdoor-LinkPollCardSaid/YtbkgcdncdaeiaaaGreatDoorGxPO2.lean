/- LinkPoll: its trees, its loop. -/
import Derived.Test.YtbkgcdncdaeiaaaGreatDoorGxLM
noncomputable section
namespace Go.Proofs.YtbkgcdncdaeiaaaGreatDoor
open Go Gw Go.RowKit
set_option linter.unusedSimpArgs false
set_option linter.unusedVariables false
inductive ILinkPoll2_0
  | c0 (j : Nat)
  | c1 (j : Nat)
  | c2 (j : Nat)
  | c3 (j : Nat)
  | c4 (j : Nat)
  | c5 (j : Nat)
  | c6 (j : Nat)
def RWLinkPoll2_0 (a : Gw.Offer) (b : Gw.Offer) (w0 : V) (w1 : V) (w2 : V) (w3 : V) (w4 : V) (w5 : V) : List (Option Blk) := [some (.cells true (zsV .u8 kT0)), some (.cells true (zsV .u8 kT1)), some (.cells true (zsV .u8 kT2)), some (.cells false a.vs), some (.cells false b.vs), none, some (.cells false (fineO a).vs), some (.cells false (fineO b).vs), none, none, some (.cells false (fineO a).vs), none, none, none, none, none, some (.cells false [.int .u32 1, .int .i64 0, .int .i64 (fineO a).baud, .int .i64 (fineO a).silent, .int .i64 (fineO a).win, .int .i64 (fineO a).size, .int .i64 (fineO a).wait, .int .i64 2, .int .u32 2, .int .i64 0, .int .i64 1, .int .i64 (dealL (fineO a) (fineO b)).baud, .int .i64 200, .int .i64 (dealL (fineO a) (fineO b)).win, .int .i64 (dealL (fineO a) (fineO b)).size, .int .i64 0, .ptr 330 0, .int .i64 1, .int .i64 0, .int .i64 0, .int .i64 0, w3, .int .i64 0, w4, .bool false, .bool false, .bool false, .nils]), none, some (.cells false (fineO b).vs), none, none, none, none, none, some (.cells false [.int .u32 2, .int .i64 1, .int .i64 (fineO b).baud, .int .i64 (fineO b).silent, .int .i64 (fineO b).win, .int .i64 (fineO b).size, .int .i64 (fineO b).wait, .int .i64 2, .int .u32 1, .int .i64 0, .int .i64 1, .int .i64 (dealL (fineO b) (fineO a)).baud, .int .i64 200, .int .i64 (dealL (fineO b) (fineO a)).win, .int .i64 (dealL (fineO b) (fineO a)).size, .int .i64 2, .ptr 170 0, .int .i64 0, .int .i64 0, .int .i64 0, .int .i64 0, .int .i64 0, .int .i64 0, .int .i64 3, .bool false, .bool false, .bool false, .nils]), none, some (.cells false [.int .i64 2, .int .i64 0, .int .u32 2, .str []]), none, some (.cells false [.int .i64 2, .int .i64 0, .int .u32 2, .str []]), none, none, none, none, some (.cells false [.int .i64 2, .int .i64 0, .int .u32 2, .str []]), none, some (.cells false [.int .i64 0, .int .i64 1]), none, none, none, none, none, none, some (.cells false [.int .i64 127, .int .i64 255, .bool true, .int .i64 3, .int .i64 2, .int .i64 0, .int .i64 0, .bool true, .str (setupStr ⟨1, 2, 0, 1, (fineO a)⟩)]), none, none, some (.cells false [.int .i64 0, .int .i64 1]), some (.cells false [.int .i64 127, .int .i64 255, .bool true, .int .i64 3, .int .i64 2, .int .i64 0, .int .i64 0, .bool true, .str (setupStr ⟨1, 2, 0, 1, (fineO a)⟩)]), some (.cells false [.int .i64 127, .int .i64 255]), some (.cells false [.int .i64 127, .int .i64 255]), some (.cells false [.int .i64 127, .int .i64 255, .bool true, .int .i64 3, .int .i64 2, .int .i64 0, .int .i64 0, .bool true, .str (setupStr ⟨1, 2, 0, 1, (fineO a)⟩)]), none, none, some (.cells false [.int .i64 127, .int .i64 255, .bool true, .int .i64 3, .int .i64 2, .int .i64 0, .int .i64 0, .bool true, .str (setupStr ⟨1, 2, 0, 1, (fineO a)⟩)]), none, some (.cells false [.int .i64 127, .int .i64 255, .bool true, .int .i64 3, .int .i64 2, .int .i64 0, .int .i64 0, .bool true, .str (setupStr ⟨1, 2, 0, 1, (fineO a)⟩)]), none, none, none, none, none, none, some (.cells false [.int .i64 127, .int .i64 255, .bool true, .iface 150 (.agg [.int .i64 2, .bool true]), .str (setupStr ⟨1, 2, 0, 1, (fineO a)⟩)]), none, none, some (.cells false [.int .i64 127, .int .i64 255, .bool true, .int .i64 3, .int .i64 2, .int .i64 0, .int .i64 0, .bool true, .str (setupStr ⟨1, 2, 0, 1, (fineO a)⟩)]), some (.cells false [.int .i64 127, .int .i64 255, .bool true, .iface 150 (.agg [.int .i64 2, .bool true]), .str (setupStr ⟨1, 2, 0, 1, (fineO a)⟩)]), none, none, none, none, none, none, none, none, some (.cells false [.int .i64 127, .int .i64 255, .bool true, .iface 150 (.agg [.int .i64 2, .bool true]), .str (setupStr ⟨1, 2, 0, 1, (fineO a)⟩)]), none, some (.cells false [.int .i64 127, .int .i64 255, .bool true, .iface 150 (.agg [.int .i64 2, .bool true]), .str (setupStr ⟨1, 2, 0, 1, (fineO a)⟩)]), none, none, none, none, none, none, none, some (.cells false [.int .i64 0, .int .i64 0, .bool false]), none, none, none, none, some (.cells false [.int .i64 127, .int .i64 255]), none, some (.cells false [.int .i64 2, .bool true]), none, some (.cells false [.int .i64 127, .int .i64 255, .bool true, .iface 150 (.agg [.int .i64 2, .bool true]), .str (setupStr ⟨1, 2, 0, 1, (fineO a)⟩)]), some (.cells false [.int .i64 127, .int .i64 255, .bool true, .int .i64 3, .int .i64 2, .int .i64 0, .int .i64 0, .bool true, .str (setupStr ⟨1, 2, 0, 1, (fineO a)⟩)]), some (.cells false [.int .i64 127, .int .i64 255, .bool true, .iface 150 (.agg [.int .i64 2, .bool true]), .str (setupStr ⟨1, 2, 0, 1, (fineO a)⟩)]), none, none, none, none, none, none, none, some (.cells false [.int .i64 0, .int .i64 0, .bool false]), none, none, none, none, some (.cells false [.int .i64 127, .int .i64 255]), none, some (.cells false [.int .i64 2, .bool true]), none, none, none, none, none, none, none, none, none, none, none, some (.cells false [.int .i64 127, .int .i64 255, .bool true, .int .i64 3, .int .i64 2, .int .i64 0, .int .i64 0, .bool true, .str (setupStr ⟨1, 2, 0, 1, (fineO a)⟩)]), none, some (.cells false [.int .i64 2, .bool true]), none, some (.cells false [.int .i64 2, .bool true]), none, some (.cells false [.int .i64 127, .int .i64 255]), none, none, none, none, none, none, some (.cells false [.int .u32 1, .int .u32 2, .int .i64 0, .int .i64 1, .int .i64 (fineO a).baud, .int .i64 (fineO a).silent, .int .i64 (fineO a).win, .int .i64 (fineO a).size, .int .i64 (fineO a).wait]), none, none, none, none, none, none, none, none, none, none, none, none, some (.cells false (dv b a 2)), none, none, some (.cells false [.int .u32 1, .int .u32 2, .int .i64 0, .int .i64 1, .int .i64 (fineO a).baud, .int .i64 (fineO a).silent, .int .i64 (fineO a).win, .int .i64 (fineO a).size, .int .i64 (fineO a).wait]), some (.cells false (dv b a 2)), none, some (.cells false [.int .i64 0, .int .i64 1]), some (.cells false (dv b a 2)), none, some (.cells false (dv b a 2)), none, none, none, none, none, none, none, none, none, none, none, none, some (.cells false [.int .i64 2, .int .i64 (if (64 : Int) < (dealL (fineO b) (fineO a)).size then 64 else (dealL (fineO b) (fineO a)).size), .ptr 176 0, .ptr 179 0, .bool false]), none, none, none, none, none, some (.cells false [.int .i64 (if (7 : Int) < (if (1 : Int) > (dealL (fineO b) (fineO a)).win then 1 else (dealL (fineO b) (fineO a)).win) then 7 else (if (1 : Int) > (dealL (fineO b) (fineO a)).win then 1 else (dealL (fineO b) (fineO a)).win)), .nils, .int .i64 0, .int .i64 0]), none, none, some (.cells false [.int .i64 0, .bool false]), none, none, none, none, none, none, none, some (.cells false [.int .i64 2, .int .u32 1, .str [], .nils]), none, some (.cells false [.int .i64 0, .int .i64 1]), some (.cells false [.int .i64 127, .int .i64 255, .bool false, .int .i64 3, .int .i64 3, .int .i64 0, .int .i64 0, .bool true, .str (setupStr ⟨2, 1, 0, 1, (fineO b)⟩)]), some (.cells false [.int .i64 127, .int .i64 255]), some (.cells false [.int .i64 127, .int .i64 255]), some (.cells false [.int .i64 127, .int .i64 255, .bool false, .int .i64 3, .int .i64 3, .int .i64 0, .int .i64 0, .bool true, .str (setupStr ⟨2, 1, 0, 1, (fineO b)⟩)]), some (.cells false [.int .i64 127, .int .i64 255, .bool false, .int .i64 3, .int .i64 3, .int .i64 0, .int .i64 0, .bool true, .str (setupStr ⟨2, 1, 0, 1, (fineO b)⟩)]), none, none, none, some (.cells false [.int .i64 127, .int .i64 255, .bool false, .int .i64 3, .int .i64 3, .int .i64 0, .int .i64 0, .bool true, .str (setupStr ⟨2, 1, 0, 1, (fineO b)⟩)]), none, none, none, none, none, none, none, none, none, none, none, none, none, some (.cells false [.int .i64 127, .int .i64 255, .bool false, .int .i64 3, .int .i64 3, .int .i64 0, .int .i64 0, .bool true, .str (setupStr ⟨2, 1, 0, 1, (fineO b)⟩)]), none, some (.cells false [.int .i64 127, .int .i64 255, .bool false, .int .i64 3, .int .i64 3, .int .i64 0, .int .i64 0, .bool true, .str (setupStr ⟨2, 1, 0, 1, (fineO b)⟩)]), none, none, none, none, none, none, some (.cells false [.int .i64 127, .int .i64 255, .bool false, .iface 150 (.agg [.int .i64 3, .bool true]), .str (setupStr ⟨2, 1, 0, 1, (fineO b)⟩)]), none, none, some (.cells false [.int .i64 127, .int .i64 255, .bool false, .int .i64 3, .int .i64 3, .int .i64 0, .int .i64 0, .bool true, .str (setupStr ⟨2, 1, 0, 1, (fineO b)⟩)]), some (.cells false [.int .i64 127, .int .i64 255, .bool false, .iface 150 (.agg [.int .i64 3, .bool true]), .str (setupStr ⟨2, 1, 0, 1, (fineO b)⟩)]), none, none, none, none, none, none, none, none, some (.cells false [.int .i64 127, .int .i64 255, .bool false, .iface 150 (.agg [.int .i64 3, .bool true]), .str (setupStr ⟨2, 1, 0, 1, (fineO b)⟩)]), none, some (.cells false [.int .i64 127, .int .i64 255, .bool false, .iface 150 (.agg [.int .i64 3, .bool true]), .str (setupStr ⟨2, 1, 0, 1, (fineO b)⟩)]), none, none, none, none, none, none, none, some (.cells false [.int .i64 0, .int .i64 0, .bool false]), none, none, none, none, some (.cells false [.int .i64 127, .int .i64 255]), none, some (.cells false [.int .i64 3, .bool true]), none, some (.cells false [.int .i64 127, .int .i64 255, .bool false, .iface 150 (.agg [.int .i64 3, .bool true]), .str (setupStr ⟨2, 1, 0, 1, (fineO b)⟩)]), some (.cells false [.int .i64 127, .int .i64 255, .bool false, .int .i64 3, .int .i64 3, .int .i64 0, .int .i64 0, .bool true, .str (setupStr ⟨2, 1, 0, 1, (fineO b)⟩)]), some (.cells false [.int .i64 127, .int .i64 255, .bool false, .iface 150 (.agg [.int .i64 3, .bool true]), .str (setupStr ⟨2, 1, 0, 1, (fineO b)⟩)]), none, none, none, none, none, none, none, some (.cells false [.int .i64 0, .int .i64 0, .bool false]), none, none, none, none, some (.cells false [.int .i64 127, .int .i64 255]), none, some (.cells false [.int .i64 3, .bool true]), none, none, none, none, none, none, none, none, none, none, none, some (.cells false [.int .i64 127, .int .i64 255, .bool false, .int .i64 3, .int .i64 3, .int .i64 0, .int .i64 0, .bool true, .str (setupStr ⟨2, 1, 0, 1, (fineO b)⟩)]), none, some (.cells false [.int .i64 3, .bool true]), none, some (.cells false [.int .i64 3, .bool true]), none, some (.cells false [.int .i64 127, .int .i64 255]), none, none, none, none, none, none, some (.cells false [.int .u32 2, .int .u32 1, .int .i64 0, .int .i64 1, .int .i64 (fineO b).baud, .int .i64 (fineO b).silent, .int .i64 (fineO b).win, .int .i64 (fineO b).size, .int .i64 (fineO b).wait]), none, none, none, none, none, none, none, none, none, none, none, none, some (.cells false (dv a b 0)), none, none, some (.cells false [.int .u32 2, .int .u32 1, .int .i64 0, .int .i64 1, .int .i64 (fineO b).baud, .int .i64 (fineO b).silent, .int .i64 (fineO b).win, .int .i64 (fineO b).size, .int .i64 (fineO b).wait]), some (.cells false (dv a b 0)), none, some (.cells false [.int .i64 0, .int .i64 1]), some (.cells false (dv a b 0)), none, some (.cells false (dv a b 0)), none, none, none, none, none, none, none, none, none, none, none, none, some (.cells false [.int .i64 1, .int .i64 (if (64 : Int) < (dealL (fineO a) (fineO b)).size then 64 else (dealL (fineO a) (fineO b)).size), .ptr 336 0, .ptr 339 0, w5]), none, none, none, none, none, some (.cells false [.int .i64 (if (7 : Int) < (if (1 : Int) > (dealL (fineO a) (fineO b)).win then 1 else (dealL (fineO a) (fineO b)).win) then 7 else (if (1 : Int) > (dealL (fineO a) (fineO b)).win then 1 else (dealL (fineO a) (fineO b)).win)), .nils, .int .i64 0, .int .i64 0]), none, none, some (.cells false [.int .i64 0, .bool false]), none, none, none, none, none, none, none, some (.cells false [.int .i64 2, .int .u32 2, .str [], .nils]), none, none, none, some (.cells false (dv a b 0)), none, some (.cells false (dv a b 0))]
def SNLinkPoll2_0 (a : Gw.Offer) (b : Gw.Offer) (w0 : V) (w1 : V) (w2 : V) (w3 : V) (w4 : V) (w5 : V) : Snap := ([.agg a.vs, .agg b.vs, .ptr 3 0, .ptr 4 0, .bool true, .ptr 16 0, .ptr 351 0, w0, w1, w2, .bool true, .bool true, .bool false, .tup [.ptr 16 0, .ptr 24 0], .agg a.vs, .agg (fineO a).vs, .agg b.vs, .agg (fineO b).vs, .tup [.ptr 16 0, .ptr 24 0], .ptr 16 0, .ptr 24 0, .ptr 16 0, .bool false, .ptr 16 0, .agg (dv a b 0)], RWLinkPoll2_0 a b w0 w1 w2 w3 w4 w5)
def SSLinkPoll2_0 (a : Gw.Offer) (b : Gw.Offer) (i : ILinkPoll2_0) : Snap := match i with
  | .c0 j => SNLinkPoll2_0 a b (.int .i64 0) (.int .i64 0) (.int .i64 1) (.int .i64 0) (.int .i64 0) (.bool true)
  | .c1 j => SNLinkPoll2_0 a b (.int .i64 1) (.int .i64 1) (.int .i64 (2 + (j : Int))) (.int .i64 (70 - (j : Int))) (.int .i64 (1 + (j : Int))) (.bool false)
  | .c2 j => SNLinkPoll2_0 a b (.int .i64 1) (.int .i64 1) (.int .i64 71) (.int .i64 1) (.int .i64 70) (.bool false)
  | .c3 j => SNLinkPoll2_0 a b (.int .i64 71) (.int .i64 2) (.int .i64 (72 + (j : Int))) (.int .i64 (70 - (j : Int))) (.int .i64 (71 + (j : Int))) (.bool false)
  | .c4 j => SNLinkPoll2_0 a b (.int .i64 71) (.int .i64 2) (.int .i64 141) (.int .i64 1) (.int .i64 140) (.bool false)
  | .c5 j => SNLinkPoll2_0 a b (.int .i64 141) (.int .i64 3) (.int .i64 (142 + (j : Int))) (.int .i64 (70 - (j : Int))) (.int .i64 (141 + (j : Int))) (.bool false)
  | .c6 j => SNLinkPoll2_0 a b (.int .i64 141) (.int .i64 3) (.int .i64 200) (.int .i64 12) (.int .i64 199) (.bool false)
def XLinkPoll2_0 (a : Gw.Offer) (b : Gw.Offer) : Snap := ([.agg a.vs, .agg b.vs, .ptr 3 0, .ptr 4 0, .bool true, .ptr 16 0, .ptr 351 0, .int .i64 3, .bool true, .bool true, .bool false, .tup [.ptr 16 0, .ptr 24 0], .agg a.vs, .agg (fineO a).vs, .agg b.vs, .agg (fineO b).vs, .tup [.ptr 16 0, .ptr 24 0], .ptr 16 0, .ptr 24 0, .ptr 16 0, .bool false, .ptr 16 0, .agg (dv a b 0)], RWLinkPoll2_0 a b (.int .i64 0) (.int .i64 0) (.int .i64 1) (.int .i64 12) (.int .i64 199) (.bool false))
def invLinkPoll2_0 (i : ILinkPoll2_0) : Prop := match i with
  | .c0 j => j < 1
  | .c1 j => j < 69
  | .c2 j => j < 1
  | .c3 j => j < 69
  | .c4 j => j < 1
  | .c5 j => j < 58
  | .c6 j => j < 1
def muLinkPoll2_0 (i : ILinkPoll2_0) : Nat := match i with
  | .c0 j => 200 - (0 + j)
  | .c1 j => 200 - (1 + j)
  | .c2 j => 200 - (70 + j)
  | .c3 j => 200 - (71 + j)
  | .c4 j => 200 - (140 + j)
  | .c5 j => 200 - (141 + j)
  | .c6 j => 200 - (199 + j)
def loopLinkPoll2_0 (a : Gw.Offer) (b : Gw.Offer) : LoopD ILinkPoll2_0 where
  nt := 95
  fr := fun ex => match ex with | .normal => ⟨[0, 1, 2, 3, 5, 6, 8, 9, 10, 11, 14, 15, 16, 17, 18, 19, 20, 21, 22, 23, 24, 25, 26, 27, 28], 354, []⟩ | .exit _ => ⟨[0, 1, 2, 3, 5, 6, 8, 10, 14, 15, 16, 17, 18, 19, 20, 21, 22, 23, 24, 25, 26, 27, 28], 354, []⟩ | .ret => ⟨[], 354, []⟩
  S := SSLinkPoll2_0 a b
  out := fun i => .ob (invLinkPoll2_0 i) (.leaf ((.exit 0), XLinkPoll2_0 a b))
  pick := fun _ => .c0 0
def ltLinkPoll2_0 (a : Gw.Offer) (b : Gw.Offer) : Lt := fun k => match k with | 0 => (loopLinkPoll2_0 a b).lt | _ => fun _ _ => .fail
def lpLinkPoll2_0 : DC := (((loopsIn 0 (dOf 11).body)[0]?).getD (0, .skip)).2
def orcLinkPoll2_0 (a : Gw.Offer) (b : Gw.Offer) (i : ILinkPoll2_0) : Orc := match i with
  | .c0 j => noOrc
  | .c1 j => (fun k => match k with | 32 => some fun t h => (.bool true, h) | 34 => some fun t h => (.int .i64 (3 + (j : Int)), h) | _ => none)
  | .c2 j => noOrc
  | .c3 j => (fun k => match k with | 32 => some fun t h => (.bool true, h) | 34 => some fun t h => (.int .i64 (73 + (j : Int)), h) | _ => none)
  | .c4 j => noOrc
  | .c5 j => (fun k => match k with | 32 => some fun t h => (.bool true, h) | 34 => some fun t h => (.int .i64 (143 + (j : Int)), h) | _ => none)
  | .c6 j => noOrc
def orcsLinkPoll2_0 (a : Gw.Offer) (b : Gw.Offer) (i : ILinkPoll2_0) : Nat → Orc := match i with
  | .c0 j => (fun g => match g with | 147 => (fun k => match k with | 18 => some fun t h => (.int .i64 0, h) | _ => none) | _ => noOrc)
  | .c1 j => (fun g => match g with | 60 => (fun k => match k with | 13 => some fun t h => (.int .i64 (2 + (j : Int)), h) | 25 => some fun t h => (.bool false, h) | 32 => some fun t h => (.bool false, h) | 37 => some fun t h => (.int .i64 (69 - (j : Int)), h) | 44 => some fun t h => (.bool true, h) | _ => none) | _ => noOrc)
  | .c2 j => (fun g => match g with | 147 => (fun k => match k with | 18 => some fun t h => (.int .i64 0, h) | _ => none) | _ => noOrc)
  | .c3 j => (fun g => match g with | 60 => (fun k => match k with | 13 => some fun t h => (.int .i64 (72 + (j : Int)), h) | 25 => some fun t h => (.bool false, h) | 32 => some fun t h => (.bool false, h) | 37 => some fun t h => (.int .i64 (69 - (j : Int)), h) | 44 => some fun t h => (.bool true, h) | _ => none) | _ => noOrc)
  | .c4 j => (fun g => match g with | 147 => (fun k => match k with | 18 => some fun t h => (.int .i64 0, h) | _ => none) | _ => noOrc)
  | .c5 j => (fun g => match g with | 60 => (fun k => match k with | 13 => some fun t h => (.int .i64 (142 + (j : Int)), h) | 25 => some fun t h => (.bool false, h) | 32 => some fun t h => (.bool false, h) | 37 => some fun t h => (.int .i64 (69 - (j : Int)), h) | 44 => some fun t h => (.bool true, h) | _ => none) | _ => noOrc)
  | .c6 j => (fun _ => noOrc)
def stsLinkPoll2_0 (i : ILinkPoll2_0) : Nat → List Nat := match i with
  | .c0 j => (fun k => match k with | 11 => [32, 42, 45, 48, 53, 60, 70, 74] | 26 => [15, 22, 31, 52, 74, 80, 86, 96] | 60 => [8, 25, 32] | 63 => [9] | 65 => [7, 20, 34] | 108 => [11, 17, 34, 60] | 109 => [13] | 147 => [30] | 152 => [9] | _ => [])
  | .c1 j => (fun k => match k with | 11 => [32, 42, 45] | 26 => [15, 22, 31, 52, 74, 80] | 60 => [8, 25, 32, 44] | 63 => [9] | _ => [])
  | .c2 j => (fun k => match k with | 11 => [32, 42, 45, 48, 53, 60, 70, 74, 79] | 26 => [15, 22, 31, 52, 74, 80, 86, 96] | 60 => [8, 25, 32, 44, 49, 55, 68, 73, 78] | 63 => [9] | 65 => [7, 20, 34] | 105 => [9, 16] | 108 => [11, 17, 34, 60] | 109 => [13] | 147 => [30] | 152 => [9] | _ => [])
  | .c3 j => (fun k => match k with | 11 => [32, 42, 45] | 26 => [15, 22, 31, 52, 74, 80] | 60 => [8, 25, 32, 44] | 63 => [9] | _ => [])
  | .c4 j => (fun k => match k with | 11 => [32, 42, 45, 48, 53, 60, 70, 74, 79] | 26 => [15, 22, 31, 52, 74, 80, 86, 96] | 60 => [8, 25, 32, 44, 49, 55, 68, 73, 78] | 63 => [9] | 65 => [7, 20, 34] | 105 => [9, 16] | 108 => [11, 17, 34, 60] | 109 => [13] | 147 => [30] | 152 => [9] | _ => [])
  | .c5 j => (fun k => match k with | 11 => [32, 42, 45] | 26 => [15, 22, 31, 52, 74, 80] | 60 => [8, 25, 32, 44] | 63 => [9] | _ => [])
  | .c6 j => (fun k => match k with | 11 => [32] | _ => [])
def stLinkPoll2_0 (i : ILinkPoll2_0) : List Nat := match i with
  | .c0 j => [32, 42, 45, 48, 53, 60, 70, 74]
  | .c1 j => [32, 42, 45]
  | .c2 j => [32, 42, 45, 48, 53, 60, 70, 74, 79]
  | .c3 j => [32, 42, 45]
  | .c4 j => [32, 42, 45, 48, 53, 60, 70, 74, 79]
  | .c5 j => [32, 42, 45]
  | .c6 j => [32]
def treeLinkPoll2_0_0 (a : Gw.Offer) (b : Gw.Offer) (j : Nat) : DT (Ex × Snap) :=
  .ob (((V.beq (.int .i64 1) (.int .i64 1)) && true) = true) (
.ob (minV (.int .i64 (if (7 : Int) < (if (1 : Int) > (dealL (fineO a) (fineO b)).win then 1 else (dealL (fineO a) (fineO b)).win) then 7 else (if (1 : Int) > (dealL (fineO a) (fineO b)).win then 1 else (dealL (fineO a) (fineO b)).win))) [(.int .i64 0)] = some (.int .i64 0)) (
.ob ((0 ≤ (0 : Int) ∧ (0 : Int) ≤ ((0 : Nat) : Int)) ∧ (True)) (
.ob ((9 = 9 ∧ ([.int .i64 0, .int .i64 0, .bool true, .int .i64 2, .int .i64 0, .int .i64 0, .int .i64 0, .bool false, .str []] : List V).length = 1 * 9) ∧ allOne [.int .i64 0, .int .i64 0, .bool true, .int .i64 2, .int .i64 0, .int .i64 0, .int .i64 0, .bool false, .str []] = true ∧ 1 * 80 ≤ 70368744177664) (
.ob (9 = 9 ∧ 0 ≤ (0 : Int) ∧ (0 : Int) < ((1 : Nat) : Int)) (
.ob (9 = 9 ∧ 0 ≤ (0 : Int) ∧ (0 : Int) < ((1 : Nat) : Int)) (
.ob (9 = 9 ∧ 0 ≤ (0 : Int) ∧ (0 : Int) < ((1 : Nat) : Int)) (
.ob (9 = 9 ∧ 0 ≤ (0 : Int) ∧ (0 : Int) < ((1 : Nat) : Int)) (
.ob (9 = 9 ∧ 0 ≤ (0 : Int) ∧ (0 : Int) < ((1 : Nat) : Int)) (
.ob (((V.beq (.agg [.int .i64 0, .int .i64 1]) (.agg [.int .i64 0, .int .i64 1])) && true) = true) (
.ob (True) (
.leaf (.normal, SNLinkPoll2_0 a b (.int .i64 1) (.int .i64 1) (.int .i64 2) (.int .i64 70) (.int .i64 1) (.bool false)))))))))))))
set_option maxRecDepth 1000000 in
theorem treeLinkPoll2_0_0_eq (a : Gw.Offer) (b : Gw.Offer) (j : Nat) : codeT (callT (mkXT noPX oxM) (mkXP noPX) (mkX noPX oxM) D (orcsLinkPoll2_0 a b (.c0 j)) (stsLinkPoll2_0 (.c0 j)) 13) (callN (mkX noPX oxM) D 13) (mkXP noPX) (orcLinkPoll2_0 a b (.c0 j)) (stLinkPoll2_0 (.c0 j)) noLt 0 lpLinkPoll2_0 ((loopLinkPoll2_0 a b).t0 (.c0 j)) [] ((loopLinkPoll2_0 a b).h0 (.c0 j)) (loopLinkPoll2_0 a b).end_ = treeLinkPoll2_0_0 a b j := by kernel_rfl
def treeLinkPoll2_0_1 (a : Gw.Offer) (b : Gw.Offer) (j : Nat) : DT (Ex × Snap) :=
  .ob (binV .lss (.int .i64 (2 + (j : Int))) (.int .i64 200) = some (.bool true)) (
.ob (binV .add (.int .i64 (1 + (j : Int))) (.int .i64 1) = some (.int .i64 (2 + (j : Int)))) (
.ob (binV .geq (.int .i64 (2 + (j : Int))) (.int .i64 200) = some (.bool false)) (
.ob (binV .eql (.int .i64 (70 - (j : Int))) (.int .i64 0) = some (.bool false)) (
.ob (binV .sub (.int .i64 (70 - (j : Int))) (.int .i64 1) = some (.int .i64 (69 - (j : Int)))) (
.ob (binV .gtr (.int .i64 (69 - (j : Int))) (.int .i64 0) = some (.bool true)) (
.ob (binV .add (.int .i64 (2 + (j : Int))) (.int .i64 1) = some (.int .i64 (3 + (j : Int)))) (
.leaf (.normal, SNLinkPoll2_0 a b (.int .i64 1) (.int .i64 1) (.int .i64 (3 + (j : Int))) (.int .i64 (69 - (j : Int))) (.int .i64 (2 + (j : Int))) (.bool false)))))))))
set_option maxRecDepth 1000000 in
theorem treeLinkPoll2_0_1_eq (a : Gw.Offer) (b : Gw.Offer) (j : Nat) : codeT (callT (mkXT noPX oxM) (mkXP noPX) (mkX noPX oxM) D (orcsLinkPoll2_0 a b (.c1 j)) (stsLinkPoll2_0 (.c1 j)) 13) (callN (mkX noPX oxM) D 13) (mkXP noPX) (orcLinkPoll2_0 a b (.c1 j)) (stLinkPoll2_0 (.c1 j)) noLt 0 lpLinkPoll2_0 ((loopLinkPoll2_0 a b).t0 (.c1 j)) [] ((loopLinkPoll2_0 a b).h0 (.c1 j)) (loopLinkPoll2_0 a b).end_ = treeLinkPoll2_0_1 a b j := by kernel_rfl
def treeLinkPoll2_0_2 (a : Gw.Offer) (b : Gw.Offer) (j : Nat) : DT (Ex × Snap) :=
  .ob (((V.beq (.int .i64 1) (.int .i64 1)) && true) = true) (
.ob (minV (.int .i64 (if (7 : Int) < (if (1 : Int) > (dealL (fineO a) (fineO b)).win then 1 else (dealL (fineO a) (fineO b)).win) then 7 else (if (1 : Int) > (dealL (fineO a) (fineO b)).win then 1 else (dealL (fineO a) (fineO b)).win))) [(.int .i64 0)] = some (.int .i64 0)) (
.ob ((0 ≤ (0 : Int) ∧ (0 : Int) ≤ ((0 : Nat) : Int)) ∧ (True)) (
.ob ((9 = 9 ∧ ([.int .i64 0, .int .i64 0, .bool true, .int .i64 2, .int .i64 0, .int .i64 0, .int .i64 0, .bool false, .str []] : List V).length = 1 * 9) ∧ allOne [.int .i64 0, .int .i64 0, .bool true, .int .i64 2, .int .i64 0, .int .i64 0, .int .i64 0, .bool false, .str []] = true ∧ 1 * 80 ≤ 70368744177664) (
.ob (9 = 9 ∧ 0 ≤ (0 : Int) ∧ (0 : Int) < ((1 : Nat) : Int)) (
.ob (9 = 9 ∧ 0 ≤ (0 : Int) ∧ (0 : Int) < ((1 : Nat) : Int)) (
.ob (9 = 9 ∧ 0 ≤ (0 : Int) ∧ (0 : Int) < ((1 : Nat) : Int)) (
.ob (9 = 9 ∧ 0 ≤ (0 : Int) ∧ (0 : Int) < ((1 : Nat) : Int)) (
.ob (9 = 9 ∧ 0 ≤ (0 : Int) ∧ (0 : Int) < ((1 : Nat) : Int)) (
.ob (((V.beq (.agg [.int .i64 0, .int .i64 1]) (.agg [.int .i64 0, .int .i64 1])) && true) = true) (
.ob (True) (
.leaf (.normal, SNLinkPoll2_0 a b (.int .i64 71) (.int .i64 2) (.int .i64 72) (.int .i64 70) (.int .i64 71) (.bool false)))))))))))))
set_option maxRecDepth 1000000 in
theorem treeLinkPoll2_0_2_eq (a : Gw.Offer) (b : Gw.Offer) (j : Nat) : codeT (callT (mkXT noPX oxM) (mkXP noPX) (mkX noPX oxM) D (orcsLinkPoll2_0 a b (.c2 j)) (stsLinkPoll2_0 (.c2 j)) 13) (callN (mkX noPX oxM) D 13) (mkXP noPX) (orcLinkPoll2_0 a b (.c2 j)) (stLinkPoll2_0 (.c2 j)) noLt 0 lpLinkPoll2_0 ((loopLinkPoll2_0 a b).t0 (.c2 j)) [] ((loopLinkPoll2_0 a b).h0 (.c2 j)) (loopLinkPoll2_0 a b).end_ = treeLinkPoll2_0_2 a b j := by kernel_rfl
def treeLinkPoll2_0_3 (a : Gw.Offer) (b : Gw.Offer) (j : Nat) : DT (Ex × Snap) :=
  .ob (binV .lss (.int .i64 (72 + (j : Int))) (.int .i64 200) = some (.bool true)) (
.ob (binV .add (.int .i64 (71 + (j : Int))) (.int .i64 1) = some (.int .i64 (72 + (j : Int)))) (
.ob (binV .geq (.int .i64 (72 + (j : Int))) (.int .i64 200) = some (.bool false)) (
.ob (binV .eql (.int .i64 (70 - (j : Int))) (.int .i64 0) = some (.bool false)) (
.ob (binV .sub (.int .i64 (70 - (j : Int))) (.int .i64 1) = some (.int .i64 (69 - (j : Int)))) (
.ob (binV .gtr (.int .i64 (69 - (j : Int))) (.int .i64 0) = some (.bool true)) (
.ob (binV .add (.int .i64 (72 + (j : Int))) (.int .i64 1) = some (.int .i64 (73 + (j : Int)))) (
.leaf (.normal, SNLinkPoll2_0 a b (.int .i64 71) (.int .i64 2) (.int .i64 (73 + (j : Int))) (.int .i64 (69 - (j : Int))) (.int .i64 (72 + (j : Int))) (.bool false)))))))))
set_option maxRecDepth 1000000 in
theorem treeLinkPoll2_0_3_eq (a : Gw.Offer) (b : Gw.Offer) (j : Nat) : codeT (callT (mkXT noPX oxM) (mkXP noPX) (mkX noPX oxM) D (orcsLinkPoll2_0 a b (.c3 j)) (stsLinkPoll2_0 (.c3 j)) 13) (callN (mkX noPX oxM) D 13) (mkXP noPX) (orcLinkPoll2_0 a b (.c3 j)) (stLinkPoll2_0 (.c3 j)) noLt 0 lpLinkPoll2_0 ((loopLinkPoll2_0 a b).t0 (.c3 j)) [] ((loopLinkPoll2_0 a b).h0 (.c3 j)) (loopLinkPoll2_0 a b).end_ = treeLinkPoll2_0_3 a b j := by kernel_rfl
def treeLinkPoll2_0_4 (a : Gw.Offer) (b : Gw.Offer) (j : Nat) : DT (Ex × Snap) :=
  .ob (((V.beq (.int .i64 1) (.int .i64 1)) && true) = true) (
.ob (minV (.int .i64 (if (7 : Int) < (if (1 : Int) > (dealL (fineO a) (fineO b)).win then 1 else (dealL (fineO a) (fineO b)).win) then 7 else (if (1 : Int) > (dealL (fineO a) (fineO b)).win then 1 else (dealL (fineO a) (fineO b)).win))) [(.int .i64 0)] = some (.int .i64 0)) (
.ob ((0 ≤ (0 : Int) ∧ (0 : Int) ≤ ((0 : Nat) : Int)) ∧ (True)) (
.ob ((9 = 9 ∧ ([.int .i64 0, .int .i64 0, .bool true, .int .i64 2, .int .i64 0, .int .i64 0, .int .i64 0, .bool false, .str []] : List V).length = 1 * 9) ∧ allOne [.int .i64 0, .int .i64 0, .bool true, .int .i64 2, .int .i64 0, .int .i64 0, .int .i64 0, .bool false, .str []] = true ∧ 1 * 80 ≤ 70368744177664) (
.ob (9 = 9 ∧ 0 ≤ (0 : Int) ∧ (0 : Int) < ((1 : Nat) : Int)) (
.ob (9 = 9 ∧ 0 ≤ (0 : Int) ∧ (0 : Int) < ((1 : Nat) : Int)) (
.ob (9 = 9 ∧ 0 ≤ (0 : Int) ∧ (0 : Int) < ((1 : Nat) : Int)) (
.ob (9 = 9 ∧ 0 ≤ (0 : Int) ∧ (0 : Int) < ((1 : Nat) : Int)) (
.ob (9 = 9 ∧ 0 ≤ (0 : Int) ∧ (0 : Int) < ((1 : Nat) : Int)) (
.ob (((V.beq (.agg [.int .i64 0, .int .i64 1]) (.agg [.int .i64 0, .int .i64 1])) && true) = true) (
.ob (True) (
.leaf (.normal, SNLinkPoll2_0 a b (.int .i64 141) (.int .i64 3) (.int .i64 142) (.int .i64 70) (.int .i64 141) (.bool false)))))))))))))
set_option maxRecDepth 1000000 in
theorem treeLinkPoll2_0_4_eq (a : Gw.Offer) (b : Gw.Offer) (j : Nat) : codeT (callT (mkXT noPX oxM) (mkXP noPX) (mkX noPX oxM) D (orcsLinkPoll2_0 a b (.c4 j)) (stsLinkPoll2_0 (.c4 j)) 13) (callN (mkX noPX oxM) D 13) (mkXP noPX) (orcLinkPoll2_0 a b (.c4 j)) (stLinkPoll2_0 (.c4 j)) noLt 0 lpLinkPoll2_0 ((loopLinkPoll2_0 a b).t0 (.c4 j)) [] ((loopLinkPoll2_0 a b).h0 (.c4 j)) (loopLinkPoll2_0 a b).end_ = treeLinkPoll2_0_4 a b j := by kernel_rfl
def treeLinkPoll2_0_5 (a : Gw.Offer) (b : Gw.Offer) (j : Nat) : DT (Ex × Snap) :=
  .ob (binV .lss (.int .i64 (142 + (j : Int))) (.int .i64 200) = some (.bool true)) (
.ob (binV .add (.int .i64 (141 + (j : Int))) (.int .i64 1) = some (.int .i64 (142 + (j : Int)))) (
.ob (binV .geq (.int .i64 (142 + (j : Int))) (.int .i64 200) = some (.bool false)) (
.ob (binV .eql (.int .i64 (70 - (j : Int))) (.int .i64 0) = some (.bool false)) (
.ob (binV .sub (.int .i64 (70 - (j : Int))) (.int .i64 1) = some (.int .i64 (69 - (j : Int)))) (
.ob (binV .gtr (.int .i64 (69 - (j : Int))) (.int .i64 0) = some (.bool true)) (
.ob (binV .add (.int .i64 (142 + (j : Int))) (.int .i64 1) = some (.int .i64 (143 + (j : Int)))) (
.leaf (.normal, SNLinkPoll2_0 a b (.int .i64 141) (.int .i64 3) (.int .i64 (143 + (j : Int))) (.int .i64 (69 - (j : Int))) (.int .i64 (142 + (j : Int))) (.bool false)))))))))
set_option maxRecDepth 1000000 in
theorem treeLinkPoll2_0_5_eq (a : Gw.Offer) (b : Gw.Offer) (j : Nat) : codeT (callT (mkXT noPX oxM) (mkXP noPX) (mkX noPX oxM) D (orcsLinkPoll2_0 a b (.c5 j)) (stsLinkPoll2_0 (.c5 j)) 13) (callN (mkX noPX oxM) D 13) (mkXP noPX) (orcLinkPoll2_0 a b (.c5 j)) (stLinkPoll2_0 (.c5 j)) noLt 0 lpLinkPoll2_0 ((loopLinkPoll2_0 a b).t0 (.c5 j)) [] ((loopLinkPoll2_0 a b).h0 (.c5 j)) (loopLinkPoll2_0 a b).end_ = treeLinkPoll2_0_5 a b j := by kernel_rfl
def treeLinkPoll2_0_6 (a : Gw.Offer) (b : Gw.Offer) (j : Nat) : DT (Ex × Snap) :=
  .leaf ((.exit 0), XLinkPoll2_0 a b)
set_option maxRecDepth 1000000 in
theorem treeLinkPoll2_0_6_eq (a : Gw.Offer) (b : Gw.Offer) (j : Nat) : codeT (callT (mkXT noPX oxM) (mkXP noPX) (mkX noPX oxM) D (orcsLinkPoll2_0 a b (.c6 j)) (stsLinkPoll2_0 (.c6 j)) 13) (callN (mkX noPX oxM) D 13) (mkXP noPX) (orcLinkPoll2_0 a b (.c6 j)) (stLinkPoll2_0 (.c6 j)) noLt 0 lpLinkPoll2_0 ((loopLinkPoll2_0 a b).t0 (.c6 j)) [] ((loopLinkPoll2_0 a b).h0 (.c6 j)) (loopLinkPoll2_0 a b).end_ = treeLinkPoll2_0_6 a b j := by kernel_rfl
def treeLinkPoll2_0L (a : Gw.Offer) (b : Gw.Offer) (i : ILinkPoll2_0) : DT (Ex × Snap) := match i with
  | .c0 j => treeLinkPoll2_0_0 a b j
  | .c1 j => treeLinkPoll2_0_1 a b j
  | .c2 j => treeLinkPoll2_0_2 a b j
  | .c3 j => treeLinkPoll2_0_3 a b j
  | .c4 j => treeLinkPoll2_0_4 a b j
  | .c5 j => treeLinkPoll2_0_5 a b j
  | .c6 j => treeLinkPoll2_0_6 a b j
theorem roundLinkPoll2_0 (a : Gw.Offer) (b : Gw.Offer) (hwa : loL (fineO a).wait = 2) (hwb : loL (fineO b).wait = 0) (i : ILinkPoll2_0) (Pr : Ex × Snap → Prop) (h : ((loopLinkPoll2_0 a b).out i).sat Pr) : (treeLinkPoll2_0L a b i).sat ((loopLinkPoll2_0 a b).next muLinkPoll2_0 i Pr) := by
  match i with
  | .c0 j =>
    have hj : j < 1 := h.1
    have hX := h.2
    obtain rfl : j = 0 := by omega
    exact sat_ob (by simp only [V.beq_refl, Bool.and_true]) (
sat_ob (min0 _) (
sat_ob (by decide) (
sat_ob (by decide) (
sat_ob (by decide) (
sat_ob (by decide) (
sat_ob (by decide) (
sat_ob (by decide) (
sat_ob (by decide) (
sat_ob (by simp only [V.beq_refl, Bool.and_true]) (
sat_ob trivial (
sat_leaf (⟨.c1 0, by kernel_rfl, (by show 200 - (1 + 0) < 200 - (0 + 0); omega), ⟨(show 0 < 69 by decide), hX⟩⟩))))))))))))
  | .c1 j =>
    have hj : j < 69 := h.1
    have hX := h.2
    exact sat_ob (by simp [binV, binI]; omega) (
sat_ob (by show some (V.int .i64 (wrapK .i64 ((1 + (j : Int)) + 1))) = _; rw [wrap_small (by omega), show ((1 + (j : Int)) + 1) = (2 + (j : Int)) by omega]) (
sat_ob (by simp [binV, binI]; omega) (
sat_ob (by simp [binV, binI]; omega) (
sat_ob (by show some (V.int .i64 (wrapK .i64 ((70 - (j : Int)) - 1))) = _; rw [wrap_small (by omega), show ((70 - (j : Int)) - 1) = (69 - (j : Int)) by omega]) (
sat_ob (by simp [binV, binI]; omega) (
sat_ob (by show some (V.int .i64 (wrapK .i64 ((2 + (j : Int)) + 1))) = _; rw [wrap_small (by omega), show ((2 + (j : Int)) + 1) = (3 + (j : Int)) by omega]) (
sat_leaf (if h2 : j + 1 < 69 then ⟨.c1 (j + 1), (by show SNLinkPoll2_0 a b (.int .i64 1) (.int .i64 1) (.int .i64 (3 + (j : Int))) (.int .i64 (69 - (j : Int))) (.int .i64 (2 + (j : Int))) (.bool false) = SNLinkPoll2_0 a b (.int .i64 1) (.int .i64 1) (.int .i64 (2 + ((j + 1 : Nat) : Int))) (.int .i64 (70 - ((j + 1 : Nat) : Int))) (.int .i64 (1 + ((j + 1 : Nat) : Int))) (.bool false); rw [show ((1 + ((j + 1 : Nat) : Int)) : Int) = (2 + (j : Int)) by omega, show ((2 + ((j + 1 : Nat) : Int)) : Int) = (3 + (j : Int)) by omega, show ((70 - ((j + 1 : Nat) : Int)) : Int) = (69 - (j : Int)) by omega]), (by show 200 - (1 + (j + 1)) < 200 - (1 + j); omega), ⟨h2, hX⟩⟩ else by
    obtain rfl : j = 68 := by omega
    exact ⟨.c2 0, by kernel_rfl, (by show 200 - (70 + 0) < 200 - (1 + 68); omega), ⟨(show 0 < 1 by decide), hX⟩⟩))))))))
  | .c2 j =>
    have hj : j < 1 := h.1
    have hX := h.2
    obtain rfl : j = 0 := by omega
    exact sat_ob (by simp only [V.beq_refl, Bool.and_true]) (
sat_ob (min0 _) (
sat_ob (by decide) (
sat_ob (by decide) (
sat_ob (by decide) (
sat_ob (by decide) (
sat_ob (by decide) (
sat_ob (by decide) (
sat_ob (by decide) (
sat_ob (by simp only [V.beq_refl, Bool.and_true]) (
sat_ob trivial (
sat_leaf (⟨.c3 0, by kernel_rfl, (by show 200 - (71 + 0) < 200 - (70 + 0); omega), ⟨(show 0 < 69 by decide), hX⟩⟩))))))))))))
  | .c3 j =>
    have hj : j < 69 := h.1
    have hX := h.2
    exact sat_ob (by simp [binV, binI]; omega) (
sat_ob (by show some (V.int .i64 (wrapK .i64 ((71 + (j : Int)) + 1))) = _; rw [wrap_small (by omega), show ((71 + (j : Int)) + 1) = (72 + (j : Int)) by omega]) (
sat_ob (by simp [binV, binI]; omega) (
sat_ob (by simp [binV, binI]; omega) (
sat_ob (by show some (V.int .i64 (wrapK .i64 ((70 - (j : Int)) - 1))) = _; rw [wrap_small (by omega), show ((70 - (j : Int)) - 1) = (69 - (j : Int)) by omega]) (
sat_ob (by simp [binV, binI]; omega) (
sat_ob (by show some (V.int .i64 (wrapK .i64 ((72 + (j : Int)) + 1))) = _; rw [wrap_small (by omega), show ((72 + (j : Int)) + 1) = (73 + (j : Int)) by omega]) (
sat_leaf (if h2 : j + 1 < 69 then ⟨.c3 (j + 1), (by show SNLinkPoll2_0 a b (.int .i64 71) (.int .i64 2) (.int .i64 (73 + (j : Int))) (.int .i64 (69 - (j : Int))) (.int .i64 (72 + (j : Int))) (.bool false) = SNLinkPoll2_0 a b (.int .i64 71) (.int .i64 2) (.int .i64 (72 + ((j + 1 : Nat) : Int))) (.int .i64 (70 - ((j + 1 : Nat) : Int))) (.int .i64 (71 + ((j + 1 : Nat) : Int))) (.bool false); rw [show ((70 - ((j + 1 : Nat) : Int)) : Int) = (69 - (j : Int)) by omega, show ((71 + ((j + 1 : Nat) : Int)) : Int) = (72 + (j : Int)) by omega, show ((72 + ((j + 1 : Nat) : Int)) : Int) = (73 + (j : Int)) by omega]), (by show 200 - (71 + (j + 1)) < 200 - (71 + j); omega), ⟨h2, hX⟩⟩ else by
    obtain rfl : j = 68 := by omega
    exact ⟨.c4 0, by kernel_rfl, (by show 200 - (140 + 0) < 200 - (71 + 68); omega), ⟨(show 0 < 1 by decide), hX⟩⟩))))))))
  | .c4 j =>
    have hj : j < 1 := h.1
    have hX := h.2
    obtain rfl : j = 0 := by omega
    exact sat_ob (by simp only [V.beq_refl, Bool.and_true]) (
sat_ob (min0 _) (
sat_ob (by decide) (
sat_ob (by decide) (
sat_ob (by decide) (
sat_ob (by decide) (
sat_ob (by decide) (
sat_ob (by decide) (
sat_ob (by decide) (
sat_ob (by simp only [V.beq_refl, Bool.and_true]) (
sat_ob trivial (
sat_leaf (⟨.c5 0, by kernel_rfl, (by show 200 - (141 + 0) < 200 - (140 + 0); omega), ⟨(show 0 < 58 by decide), hX⟩⟩))))))))))))
  | .c5 j =>
    have hj : j < 58 := h.1
    have hX := h.2
    exact sat_ob (by simp [binV, binI]; omega) (
sat_ob (by show some (V.int .i64 (wrapK .i64 ((141 + (j : Int)) + 1))) = _; rw [wrap_small (by omega), show ((141 + (j : Int)) + 1) = (142 + (j : Int)) by omega]) (
sat_ob (by simp [binV, binI]; omega) (
sat_ob (by simp [binV, binI]; omega) (
sat_ob (by show some (V.int .i64 (wrapK .i64 ((70 - (j : Int)) - 1))) = _; rw [wrap_small (by omega), show ((70 - (j : Int)) - 1) = (69 - (j : Int)) by omega]) (
sat_ob (by simp [binV, binI]; omega) (
sat_ob (by show some (V.int .i64 (wrapK .i64 ((142 + (j : Int)) + 1))) = _; rw [wrap_small (by omega), show ((142 + (j : Int)) + 1) = (143 + (j : Int)) by omega]) (
sat_leaf (if h2 : j + 1 < 58 then ⟨.c5 (j + 1), (by show SNLinkPoll2_0 a b (.int .i64 141) (.int .i64 3) (.int .i64 (143 + (j : Int))) (.int .i64 (69 - (j : Int))) (.int .i64 (142 + (j : Int))) (.bool false) = SNLinkPoll2_0 a b (.int .i64 141) (.int .i64 3) (.int .i64 (142 + ((j + 1 : Nat) : Int))) (.int .i64 (70 - ((j + 1 : Nat) : Int))) (.int .i64 (141 + ((j + 1 : Nat) : Int))) (.bool false); rw [show ((141 + ((j + 1 : Nat) : Int)) : Int) = (142 + (j : Int)) by omega, show ((142 + ((j + 1 : Nat) : Int)) : Int) = (143 + (j : Int)) by omega, show ((70 - ((j + 1 : Nat) : Int)) : Int) = (69 - (j : Int)) by omega]), (by show 200 - (141 + (j + 1)) < 200 - (141 + j); omega), ⟨h2, hX⟩⟩ else by
    obtain rfl : j = 57 := by omega
    exact ⟨.c6 0, by kernel_rfl, (by show 200 - (199 + 0) < 200 - (141 + 57); omega), ⟨(show 0 < 1 by decide), hX⟩⟩))))))))
  | .c6 j =>
    have hj : j < 1 := h.1
    have hX := h.2
    obtain rfl : j = 0 := by omega
    exact sat_leaf (hX)
theorem ltLinkPoll2_0_ok (a : Gw.Offer) (b : Gw.Offer) (hwa : loL (fineO a).wait = 2) (hwb : loL (fineO b).wait = 0) (hint : Nat → List Nat) : Lt1 Tryz.prog hint 3 (loopLinkPoll2_0 a b).lt lpLinkPoll2_0 :=
  LoopD.lt1c mixed (show TabX Tryz.prog noPX oxM from tabM) tabD (loopLinkPoll2_0 a b) muLinkPoll2_0 (fun ex => match ex with | .normal => ⟨show 3 ≤ 354 by decide, show 3 ≤ 354 by decide⟩ | .exit _ => ⟨show 3 ≤ 354 by decide, show 3 ≤ 354 by decide⟩ | .ret => ⟨show 3 ≤ 354 by decide, show 3 ≤ 354 by decide⟩) (orcs := orcsLinkPoll2_0 a b) (sts := stsLinkPoll2_0) (orc := orcLinkPoll2_0 a b) (st := stLinkPoll2_0) (tree := treeLinkPoll2_0L a b)
    (fun i => match i with
    | .c0 j => treeLinkPoll2_0_0_eq a b j
    | .c1 j => treeLinkPoll2_0_1_eq a b j
    | .c2 j => treeLinkPoll2_0_2_eq a b j
    | .c3 j => treeLinkPoll2_0_3_eq a b j
    | .c4 j => treeLinkPoll2_0_4_eq a b j
    | .c5 j => treeLinkPoll2_0_5_eq a b j
    | .c6 j => treeLinkPoll2_0_6_eq a b j) (roundLinkPoll2_0 a b hwa hwb)
def oxLinkPoll2_0 (a : Gw.Offer) (b : Gw.Offer) : OTab := (consT 79 (gD dGet pGet (fun n => match n with | 138 => some (.tup [.agg [.int .u32 1, .int .u32 2, .int .i64 0, .int .i64 1, .int .i64 (fineO a).baud, .int .i64 (fineO a).silent, .int .i64 (fineO a).win, .int .i64 (fineO a).size, .int .i64 (fineO a).wait], .bool true]) | 298 => some (.tup [.agg [.int .u32 2, .int .u32 1, .int .i64 0, .int .i64 1, .int .i64 (fineO b).baud, .int .i64 (fineO b).silent, .int .i64 (fineO b).win, .int .i64 (fineO b).size, .int .i64 (fineO b).wait], .bool true]) | _ => none)) (consT 106 (gD dPut pPut noV) (consT 80 (gDT kT0 kT1 kT2 dDeal pDeal (fun n => match n with | 151 => some (.tup [.agg (dv b a 2), .bool true]) | 311 => some (.tup [.agg (dv a b 0), .bool true]) | _ => none)) (consT 76 (gD dOff pMayQ (fun n => match n with | 12 => some (.bool true) | 20 => some (.bool true) | _ => none)) (consT 20 (gD dOff pFine noV) (consO 19 (gTrue kT0 kT1 kT2) noOX))))))
def treeLinkPoll2_0 (a : Gw.Offer) (b : Gw.Offer) : DT V :=
  .ob (dOff [.agg a.vs]) (
.ob (((V.beq (.agg b.vs) (.agg b.vs)) && true) = true) (
.ob (dOff [.agg b.vs]) (
.ob (dOff [.agg (fineO a).vs]) (
.ob (pMayQ [.agg (fineO a).vs] = (.bool true)) (
.ob (((V.beq (.agg (fineO b).vs) (.agg (fineO b).vs)) && true) = true) (
.ob (dOff [.agg (fineO b).vs]) (
.ob (pMayQ [.agg (fineO b).vs] = (.bool true)) (
.ob (True) (
.ob (IntKind.i64 = IntKind.i64 ∧ (250 : Int) ≠ 0) (
.ob (((V.beq (.int .u32 2) (.int .u32 2)) && true) = true) (
.ob (((V.beq (.int .u32 2) (.int .u32 2)) && true) = true) (
.ob (dPut [.agg [.int .u32 1, .int .u32 2, .int .i64 0, .int .i64 1, .int .i64 (fineO a).baud, .int .i64 (fineO a).silent, .int .i64 (fineO a).win, .int .i64 (fineO a).size, .int .i64 (fineO a).wait]]) (
.ob (9 = 9 ∧ 0 ≤ (0 : Int) ∧ (0 : Int) < ((1 : Nat) : Int)) (
.ob (Gw.lenStr (.str (setupStr ⟨1, 2, 0, 1, (fineO a)⟩)) = some (.int .i64 25)) (
.ob (Gw.lenStr (.str (setupStr ⟨1, 2, 0, 1, (fineO a)⟩)) = some (.int .i64 25)) (
.ob (((V.beq (.str (setupStr ⟨1, 2, 0, 1, (fineO a)⟩)) (.str (setupStr ⟨1, 2, 0, 1, (fineO a)⟩))) && ((V.beq (.bool true) (.bool true)) && ((V.beq (.agg [.int .i64 127, .int .i64 255]) (.agg [.int .i64 127, .int .i64 255])) && true))) = true) (
.ob (((V.beq (.int .i64 2) (.int .i64 2)) && true) = true) (
.ob (((V.beq (.agg [.int .i64 127, .int .i64 255, .bool true, .int .i64 3, .int .i64 2, .int .i64 0, .int .i64 0, .bool true, .str (setupStr ⟨1, 2, 0, 1, (fineO a)⟩)]) (.agg [.int .i64 127, .int .i64 255, .bool true, .int .i64 3, .int .i64 2, .int .i64 0, .int .i64 0, .bool true, .str (setupStr ⟨1, 2, 0, 1, (fineO a)⟩)])) && true) = true) (
.ob (((eqV (.agg [.i, .i, .b, .i, .i, .i, .i, .b, .s]) (.agg [.int .i64 127, .int .i64 255, .bool true, .int .i64 3, .int .i64 2, .int .i64 0, .int .i64 0, .bool true, .str (setupStr ⟨1, 2, 0, 1, (fineO a)⟩)]) (.agg [.int .i64 127, .int .i64 255, .bool true, .int .i64 3, .int .i64 2, .int .i64 0, .int .i64 0, .bool true, .str (setupStr ⟨1, 2, 0, 1, (fineO a)⟩)])).map fun b => V.bool (if true then !b else b)) = some (.bool false)) (
.ob (((V.beq (.agg [.int .i64 127, .int .i64 255]) (.agg [.int .i64 127, .int .i64 255])) && true) = true) (
.ob (True) (
.ob (dGet [.str (setupStr ⟨1, 2, 0, 1, (fineO a)⟩)]) (
.ob (pGet [.str (setupStr ⟨1, 2, 0, 1, (fineO a)⟩)] = (.tup [.agg [.int .u32 1, .int .u32 2, .int .i64 0, .int .i64 1, .int .i64 (fineO a).baud, .int .i64 (fineO a).silent, .int .i64 (fineO a).win, .int .i64 (fineO a).size, .int .i64 (fineO a).wait], .bool true])) (
.ob (dDeal [.agg (fineO b).vs, .agg (fineO a).vs]) (
.ob (pDeal [.agg (fineO b).vs, .agg (fineO a).vs] = (.tup [.agg (dv b a 2), .bool true])) (
.ob (((V.beq (.int .i64 (dealL (fineO b) (fineO a)).size) (.int .i64 (dealL (fineO b) (fineO a)).size)) && true) = true) (
.ob (((V.beq (.int .i64 (dealL (fineO b) (fineO a)).size) (.int .i64 (dealL (fineO b) (fineO a)).size)) && true) = true) (
.ob (((V.beq (.agg (dv b a 2)) (.agg (dv b a 2))) && ((V.beq (.agg [.int .i64 0, .int .i64 1]) (.agg [.int .i64 0, .int .i64 1])) && true)) = true) (
.ob (((V.beq (.agg (dv b a 2)) (.agg (dv b a 2))) && ((V.beq (.agg [.int .i64 0, .int .i64 1]) (.agg [.int .i64 0, .int .i64 1])) && true)) = true) (
.ob (((V.beq (.agg (dv b a 2)) (.agg (dv b a 2))) && ((V.beq (.agg [.int .i64 0, .int .i64 1]) (.agg [.int .i64 0, .int .i64 1])) && true)) = true) (
.ob (((V.beq (.agg (dv b a 2)) (.agg (dv b a 2))) && true) = true) (
.ob (((V.beq (.int .i64 2) (.int .i64 2)) && true) = true) (
.ob (((V.beq (.int .i64 2) (.int .i64 2)) && true) = true) (
.ob (((V.beq (.int .i64 2) (.int .i64 2)) && true) = true) (
.ob (dPut [.agg [.int .u32 2, .int .u32 1, .int .i64 0, .int .i64 1, .int .i64 (fineO b).baud, .int .i64 (fineO b).silent, .int .i64 (fineO b).win, .int .i64 (fineO b).size, .int .i64 (fineO b).wait]]) (
.ob (9 = 9 ∧ 0 ≤ (0 : Int) ∧ (0 : Int) < ((1 : Nat) : Int)) (
.ob (Gw.lenStr (.str (setupStr ⟨2, 1, 0, 1, (fineO b)⟩)) = some (.int .i64 25)) (
.ob (Gw.lenStr (.str (setupStr ⟨2, 1, 0, 1, (fineO b)⟩)) = some (.int .i64 25)) (
.ob (((V.beq (.str (setupStr ⟨2, 1, 0, 1, (fineO b)⟩)) (.str (setupStr ⟨2, 1, 0, 1, (fineO b)⟩))) && ((V.beq (.bool false) (.bool false)) && ((V.beq (.agg [.int .i64 127, .int .i64 255]) (.agg [.int .i64 127, .int .i64 255])) && true))) = true) (
.ob (((V.beq (.int .i64 3) (.int .i64 3)) && true) = true) (
.ob (((V.beq (.agg [.int .i64 127, .int .i64 255, .bool false, .int .i64 3, .int .i64 3, .int .i64 0, .int .i64 0, .bool true, .str (setupStr ⟨2, 1, 0, 1, (fineO b)⟩)]) (.agg [.int .i64 127, .int .i64 255, .bool false, .int .i64 3, .int .i64 3, .int .i64 0, .int .i64 0, .bool true, .str (setupStr ⟨2, 1, 0, 1, (fineO b)⟩)])) && true) = true) (
.ob (((eqV (.agg [.i, .i, .b, .i, .i, .i, .i, .b, .s]) (.agg [.int .i64 127, .int .i64 255, .bool false, .int .i64 3, .int .i64 3, .int .i64 0, .int .i64 0, .bool true, .str (setupStr ⟨2, 1, 0, 1, (fineO b)⟩)]) (.agg [.int .i64 127, .int .i64 255, .bool false, .int .i64 3, .int .i64 3, .int .i64 0, .int .i64 0, .bool true, .str (setupStr ⟨2, 1, 0, 1, (fineO b)⟩)])).map fun b => V.bool (if true then !b else b)) = some (.bool false)) (
.ob (((V.beq (.agg [.int .i64 127, .int .i64 255]) (.agg [.int .i64 127, .int .i64 255])) && true) = true) (
.ob (True) (
.ob (dGet [.str (setupStr ⟨2, 1, 0, 1, (fineO b)⟩)]) (
.ob (pGet [.str (setupStr ⟨2, 1, 0, 1, (fineO b)⟩)] = (.tup [.agg [.int .u32 2, .int .u32 1, .int .i64 0, .int .i64 1, .int .i64 (fineO b).baud, .int .i64 (fineO b).silent, .int .i64 (fineO b).win, .int .i64 (fineO b).size, .int .i64 (fineO b).wait], .bool true])) (
.ob (dDeal [.agg (fineO a).vs, .agg (fineO b).vs]) (
.ob (pDeal [.agg (fineO a).vs, .agg (fineO b).vs] = (.tup [.agg (dv a b 0), .bool true])) (
.ob (True) (
.ob (((V.beq (.int .i64 (dealL (fineO a) (fineO b)).size) (.int .i64 (dealL (fineO a) (fineO b)).size)) && true) = true) (
.ob (((V.beq (.int .i64 (dealL (fineO a) (fineO b)).size) (.int .i64 (dealL (fineO a) (fineO b)).size)) && true) = true) (
.ob (((V.beq (.agg (dv a b 0)) (.agg (dv a b 0))) && ((V.beq (.agg [.int .i64 0, .int .i64 1]) (.agg [.int .i64 0, .int .i64 1])) && true)) = true) (
.ob (((V.beq (.agg (dv a b 0)) (.agg (dv a b 0))) && ((V.beq (.agg [.int .i64 0, .int .i64 1]) (.agg [.int .i64 0, .int .i64 1])) && true)) = true) (
.ob (((V.beq (.agg (dv a b 0)) (.agg (dv a b 0))) && ((V.beq (.agg [.int .i64 0, .int .i64 1]) (.agg [.int .i64 0, .int .i64 1])) && true)) = true) (
.ob (((V.beq (.agg (dv a b 0)) (.agg (dv a b 0))) && true) = true) (
.ob (((V.beq (.int .i64 0) (.int .i64 0)) && true) = true) (
.ob (((V.beq (.int .i64 0) (.int .i64 0)) && true) = true) (
.ob (((V.beq (.int .i64 0) (.int .i64 0)) && true) = true) (
.ob ((SNLinkPoll2_0 a b (.int .i64 0) (.int .i64 0) (.int .i64 1) (.int .i64 0) (.int .i64 0) (.bool true) : Snap) = (loopLinkPoll2_0 a b).S (.c0 0)) (
.ob (invLinkPoll2_0 (.c0 0)) (
.ob (IntKind.i64 = IntKind.i64 ∧ (70 : Int) ≠ 0) (
.leaf (.bool true)))))))))))))))))))))))))))))))))))))))))))))))))))))))))))))))
set_option maxRecDepth 1000000 in
theorem treeLinkPoll2_0_eq (a : Gw.Offer) (b : Gw.Offer) : funT (mkXT (noPX) (oxLinkPoll2_0 a b)) (mkXP (noPX)) (mkX (noPX) (oxLinkPoll2_0 a b)) D (fun g => match g with | 113 => (fun k => match k with | 38 => some fun t h => (match h.n with | 93 => (.int .i64 25, h) | 112 => (.int .i64 25, h) | 253 => (.int .i64 25, h) | _ => (.int .i64 25, h)) | _ => none) | 77 => (fun k => match k with | 52 => some fun t h => (match h.n with | 128 => (.bool false, h) | _ => (.bool false, h)) | _ => none) | _ => noOrc) (fun k => match k with | 11 => [14, 94] | 21 => [31, 41, 49, 60, 69, 72, 76] | 22 => [10, 15, 20, 25, 30, 31, 37, 41, 50, 57] | 26 => [15, 22, 31, 52, 58] | 35 => [8, 11, 15, 19, 23] | 39 => [16, 25, 30, 36, 39, 44, 47, 57, 67, 82, 86, 99] | 56 => [10, 33, 40, 44, 49] | 60 => [8, 25, 32] | 62 => [28, 30] | 77 => [8, 15, 26, 37, 41, 46, 52] | 81 => [14, 20, 28] | 82 => [13] | 107 => [10] | 113 => [11, 16, 20, 25, 30, 34, 39] | 114 => [8, 14, 19, 24, 34, 44] | 146 => [6, 9, 20] | 165 => [8, 19, 30, 34, 38] | 166 => [8, 13, 18, 21] | _ => []) 12 noOrc [14, 94] (ltLinkPoll2_0 a b) (dOf 11) [.agg a.vs, .agg b.vs] (tabH kT0 kT1 kT2 3) (fun v _ => v) = treeLinkPoll2_0 a b := by kernel_rfl
theorem satLinkPoll2_0 (a : Gw.Offer) (b : Gw.Offer) (hwa : loL (fineO a).wait = 2) (hwb : loL (fineO b).wait = 0) : (treeLinkPoll2_0 a b).sat fun v => v = .bool true :=
 sat_ob trivial (
sat_ob (by simp only [V.beq_refl, Bool.and_true]) (
sat_ob trivial (
sat_ob trivial (
sat_ob (pMay_fine a) (
sat_ob (by simp only [V.beq_refl, Bool.and_true]) (
sat_ob trivial (
sat_ob (pMay_fine b) (
sat_ob trivial (
sat_ob (by decide) (
sat_ob (by simp only [V.beq_refl, Bool.and_true]) (
sat_ob (by simp only [V.beq_refl, Bool.and_true]) (
sat_ob (okSet 1 2 0 1 a (by decide) (by decide) (by decide) (by decide)) (
sat_ob (by decide) (
sat_ob rfl (
sat_ob rfl (
sat_ob (by simp only [V.beq_refl, Bool.and_true]) (
sat_ob (by simp only [V.beq_refl, Bool.and_true]) (
sat_ob (by simp only [V.beq_refl, Bool.and_true]) (
sat_ob (by simp [eqV, eqCells]) (
sat_ob (by simp only [V.beq_refl, Bool.and_true]) (
sat_ob trivial (
sat_ob ⟨⟨1, 2, 0, 1, (fineO a)⟩, (okSet 1 2 0 1 a (by decide) (by decide) (by decide) (by decide)), rfl⟩ (
sat_ob (get_put ⟨1, 2, 0, 1, (fineO a)⟩ (okSet 1 2 0 1 a (by decide) (by decide) (by decide) (by decide))) (
sat_ob ⟨mayO_fine b, mayO_fine a⟩ (
sat_ob (by show V.tup [.agg [.int .i64 _, .int .i64 _, .int .i64 _, .int .i64 _, .int .i64 (loL (fineO a).wait)], .bool true] = _; rw [hwa]; rfl) (
sat_ob (by simp only [V.beq_refl, Bool.and_true]) (
sat_ob (by simp only [V.beq_refl, Bool.and_true]) (
sat_ob (by simp only [V.beq_refl, Bool.and_true]) (
sat_ob (by simp only [V.beq_refl, Bool.and_true]) (
sat_ob (by simp only [V.beq_refl, Bool.and_true]) (
sat_ob (by simp only [V.beq_refl, Bool.and_true]) (
sat_ob (by simp only [V.beq_refl, Bool.and_true]) (
sat_ob (by simp only [V.beq_refl, Bool.and_true]) (
sat_ob (by simp only [V.beq_refl, Bool.and_true]) (
sat_ob (okSet 2 1 0 1 b (by decide) (by decide) (by decide) (by decide)) (
sat_ob (by decide) (
sat_ob rfl (
sat_ob rfl (
sat_ob (by simp only [V.beq_refl, Bool.and_true]) (
sat_ob (by simp only [V.beq_refl, Bool.and_true]) (
sat_ob (by simp only [V.beq_refl, Bool.and_true]) (
sat_ob (by simp [eqV, eqCells]) (
sat_ob (by simp only [V.beq_refl, Bool.and_true]) (
sat_ob trivial (
sat_ob ⟨⟨2, 1, 0, 1, (fineO b)⟩, (okSet 2 1 0 1 b (by decide) (by decide) (by decide) (by decide)), rfl⟩ (
sat_ob (get_put ⟨2, 1, 0, 1, (fineO b)⟩ (okSet 2 1 0 1 b (by decide) (by decide) (by decide) (by decide))) (
sat_ob ⟨mayO_fine a, mayO_fine b⟩ (
sat_ob (by show V.tup [.agg [.int .i64 _, .int .i64 _, .int .i64 _, .int .i64 _, .int .i64 (loL (fineO b).wait)], .bool true] = _; rw [hwb]; rfl) (
sat_ob trivial (
sat_ob (by simp only [V.beq_refl, Bool.and_true]) (
sat_ob (by simp only [V.beq_refl, Bool.and_true]) (
sat_ob (by simp only [V.beq_refl, Bool.and_true]) (
sat_ob (by simp only [V.beq_refl, Bool.and_true]) (
sat_ob (by simp only [V.beq_refl, Bool.and_true]) (
sat_ob (by simp only [V.beq_refl, Bool.and_true]) (
sat_ob (by simp only [V.beq_refl, Bool.and_true]) (
sat_ob (by simp only [V.beq_refl, Bool.and_true]) (
sat_ob (by simp only [V.beq_refl, Bool.and_true]) (
sat_ob (by kernel_rfl) (
sat_ob (show 0 < 1 by decide) (
sat_ob (by decide) (
sat_leaf (rfl)))))))))))))))))))))))))))))))))))))))))))))))))))))))))))))))
theorem loopsLinkPoll2_0 : loopsIn 0 (dOf 11).body = [(0, lpLinkPoll2_0)] := by kernel_rfl
set_option maxRecDepth 1000000 in
theorem runLinkPoll2_0 (a : Gw.Offer) (b : Gw.Offer) (hwa : loL (fineO a).wait = 2) (hwb : loL (fineO b).wait = 0) : Run Tryz.prog 11 [.agg a.vs, .agg b.vs] (tabH kT0 kT1 kT2 3) fun v _ => v = .bool true := by
  refine run_loops mixed (show TabX Tryz.prog noPX (oxLinkPoll2_0 a b) from ((((((TabX.nil.addO ans_begun).addT (ans_fine noV)).addT (ans_may (fun n => match n with | 12 => some (.bool true) | 20 => some (.bool true) | _ => none))).addT (ans_deal (fun n => match n with | 151 => some (.tup [.agg (dv b a 2), .bool true]) | 311 => some (.tup [.agg (dv a b 0), .bool true]) | _ => none))).addT (ans_put noV)).addT (ans_get (fun n => match n with | 138 => some (.tup [.agg [.int .u32 1, .int .u32 2, .int .i64 0, .int .i64 1, .int .i64 (fineO a).baud, .int .i64 (fineO a).silent, .int .i64 (fineO a).win, .int .i64 (fineO a).size, .int .i64 (fineO a).wait], .bool true]) | 298 => some (.tup [.agg [.int .u32 2, .int .u32 1, .int .i64 0, .int .i64 1, .int .i64 (fineO b).baud, .int .i64 (fineO b).silent, .int .i64 (fineO b).win, .int .i64 (fineO b).size, .int .i64 (fineO b).wait], .bool true]) | _ => none)))) tabD (dIs (by kernel_rfl)) (lt := ltLinkPoll2_0 a b) (fun hint p hp => ?_) (treeLinkPoll2_0_eq a b) (satLinkPoll2_0 a b hwa hwb)
  rw [loopsLinkPoll2_0] at hp
  simp only [List.mem_cons, List.not_mem_nil, or_false] at hp
  subst hp
  exact ltLinkPoll2_0_ok a b hwa hwb hint
inductive ILinkPoll2_1
  | c0 (j : Nat)
  | c1 (j : Nat)
  | c2 (j : Nat)
  | c3 (j : Nat)
  | c4 (j : Nat)
  | c5 (j : Nat)
  | c6 (j : Nat)
  | c7 (j : Nat)
def RWLinkPoll2_1 (a : Gw.Offer) (b : Gw.Offer) (w0 : V) (w1 : V) (w2 : V) (w3 : V) (w4 : V) (w5 : V) (w6 : V) : List (Option Blk) := [some (.cells true (zsV .u8 kT0)), some (.cells true (zsV .u8 kT1)), some (.cells true (zsV .u8 kT2)), some (.cells false a.vs), some (.cells false b.vs), none, some (.cells false (fineO a).vs), some (.cells false (fineO b).vs), none, none, some (.cells false (fineO a).vs), none, none, none, none, none, some (.cells false [.int .u32 1, .int .i64 0, .int .i64 (fineO a).baud, .int .i64 (fineO a).silent, .int .i64 (fineO a).win, .int .i64 (fineO a).size, .int .i64 (fineO a).wait, .int .i64 2, .int .u32 2, .int .i64 0, .int .i64 1, .int .i64 (dealL (fineO a) (fineO b)).baud, .int .i64 200, .int .i64 (dealL (fineO a) (fineO b)).win, .int .i64 (dealL (fineO a) (fineO b)).size, .int .i64 1, .ptr 330 0, .int .i64 1, .int .i64 0, .int .i64 0, .int .i64 0, w3, w4, w5, .bool false, .bool false, .bool false, .nils]), none, some (.cells false (fineO b).vs), none, none, none, none, none, some (.cells false [.int .u32 2, .int .i64 1, .int .i64 (fineO b).baud, .int .i64 (fineO b).silent, .int .i64 (fineO b).win, .int .i64 (fineO b).size, .int .i64 (fineO b).wait, .int .i64 2, .int .u32 1, .int .i64 0, .int .i64 1, .int .i64 (dealL (fineO b) (fineO a)).baud, .int .i64 200, .int .i64 (dealL (fineO b) (fineO a)).win, .int .i64 (dealL (fineO b) (fineO a)).size, .int .i64 2, .ptr 170 0, .int .i64 0, .int .i64 0, .int .i64 0, .int .i64 0, .int .i64 0, .int .i64 0, .int .i64 3, .bool false, .bool false, .bool false, .nils]), none, some (.cells false [.int .i64 2, .int .i64 0, .int .u32 2, .str []]), none, some (.cells false [.int .i64 2, .int .i64 0, .int .u32 2, .str []]), none, none, none, none, some (.cells false [.int .i64 2, .int .i64 0, .int .u32 2, .str []]), none, some (.cells false [.int .i64 0, .int .i64 1]), none, none, none, none, none, none, some (.cells false [.int .i64 127, .int .i64 255, .bool true, .int .i64 3, .int .i64 2, .int .i64 0, .int .i64 0, .bool true, .str (setupStr ⟨1, 2, 0, 1, (fineO a)⟩)]), none, none, some (.cells false [.int .i64 0, .int .i64 1]), some (.cells false [.int .i64 127, .int .i64 255, .bool true, .int .i64 3, .int .i64 2, .int .i64 0, .int .i64 0, .bool true, .str (setupStr ⟨1, 2, 0, 1, (fineO a)⟩)]), some (.cells false [.int .i64 127, .int .i64 255]), some (.cells false [.int .i64 127, .int .i64 255]), some (.cells false [.int .i64 127, .int .i64 255, .bool true, .int .i64 3, .int .i64 2, .int .i64 0, .int .i64 0, .bool true, .str (setupStr ⟨1, 2, 0, 1, (fineO a)⟩)]), none, none, some (.cells false [.int .i64 127, .int .i64 255, .bool true, .int .i64 3, .int .i64 2, .int .i64 0, .int .i64 0, .bool true, .str (setupStr ⟨1, 2, 0, 1, (fineO a)⟩)]), none, some (.cells false [.int .i64 127, .int .i64 255, .bool true, .int .i64 3, .int .i64 2, .int .i64 0, .int .i64 0, .bool true, .str (setupStr ⟨1, 2, 0, 1, (fineO a)⟩)]), none, none, none, none, none, none, some (.cells false [.int .i64 127, .int .i64 255, .bool true, .iface 150 (.agg [.int .i64 2, .bool true]), .str (setupStr ⟨1, 2, 0, 1, (fineO a)⟩)]), none, none, some (.cells false [.int .i64 127, .int .i64 255, .bool true, .int .i64 3, .int .i64 2, .int .i64 0, .int .i64 0, .bool true, .str (setupStr ⟨1, 2, 0, 1, (fineO a)⟩)]), some (.cells false [.int .i64 127, .int .i64 255, .bool true, .iface 150 (.agg [.int .i64 2, .bool true]), .str (setupStr ⟨1, 2, 0, 1, (fineO a)⟩)]), none, none, none, none, none, none, none, none, some (.cells false [.int .i64 127, .int .i64 255, .bool true, .iface 150 (.agg [.int .i64 2, .bool true]), .str (setupStr ⟨1, 2, 0, 1, (fineO a)⟩)]), none, some (.cells false [.int .i64 127, .int .i64 255, .bool true, .iface 150 (.agg [.int .i64 2, .bool true]), .str (setupStr ⟨1, 2, 0, 1, (fineO a)⟩)]), none, none, none, none, none, none, none, some (.cells false [.int .i64 0, .int .i64 0, .bool false]), none, none, none, none, some (.cells false [.int .i64 127, .int .i64 255]), none, some (.cells false [.int .i64 2, .bool true]), none, some (.cells false [.int .i64 127, .int .i64 255, .bool true, .iface 150 (.agg [.int .i64 2, .bool true]), .str (setupStr ⟨1, 2, 0, 1, (fineO a)⟩)]), some (.cells false [.int .i64 127, .int .i64 255, .bool true, .int .i64 3, .int .i64 2, .int .i64 0, .int .i64 0, .bool true, .str (setupStr ⟨1, 2, 0, 1, (fineO a)⟩)]), some (.cells false [.int .i64 127, .int .i64 255, .bool true, .iface 150 (.agg [.int .i64 2, .bool true]), .str (setupStr ⟨1, 2, 0, 1, (fineO a)⟩)]), none, none, none, none, none, none, none, some (.cells false [.int .i64 0, .int .i64 0, .bool false]), none, none, none, none, some (.cells false [.int .i64 127, .int .i64 255]), none, some (.cells false [.int .i64 2, .bool true]), none, none, none, none, none, none, none, none, none, none, none, some (.cells false [.int .i64 127, .int .i64 255, .bool true, .int .i64 3, .int .i64 2, .int .i64 0, .int .i64 0, .bool true, .str (setupStr ⟨1, 2, 0, 1, (fineO a)⟩)]), none, some (.cells false [.int .i64 2, .bool true]), none, some (.cells false [.int .i64 2, .bool true]), none, some (.cells false [.int .i64 127, .int .i64 255]), none, none, none, none, none, none, some (.cells false [.int .u32 1, .int .u32 2, .int .i64 0, .int .i64 1, .int .i64 (fineO a).baud, .int .i64 (fineO a).silent, .int .i64 (fineO a).win, .int .i64 (fineO a).size, .int .i64 (fineO a).wait]), none, none, none, none, none, none, none, none, none, none, none, none, some (.cells false (dv b a 2)), none, none, some (.cells false [.int .u32 1, .int .u32 2, .int .i64 0, .int .i64 1, .int .i64 (fineO a).baud, .int .i64 (fineO a).silent, .int .i64 (fineO a).win, .int .i64 (fineO a).size, .int .i64 (fineO a).wait]), some (.cells false (dv b a 2)), none, some (.cells false [.int .i64 0, .int .i64 1]), some (.cells false (dv b a 2)), none, some (.cells false (dv b a 2)), none, none, none, none, none, none, none, none, none, none, none, none, some (.cells false [.int .i64 2, .int .i64 (if (64 : Int) < (dealL (fineO b) (fineO a)).size then 64 else (dealL (fineO b) (fineO a)).size), .ptr 176 0, .ptr 179 0, .bool false]), none, none, none, none, none, some (.cells false [.int .i64 (if (7 : Int) < (if (1 : Int) > (dealL (fineO b) (fineO a)).win then 1 else (dealL (fineO b) (fineO a)).win) then 7 else (if (1 : Int) > (dealL (fineO b) (fineO a)).win then 1 else (dealL (fineO b) (fineO a)).win)), .nils, .int .i64 0, .int .i64 0]), none, none, some (.cells false [.int .i64 0, .bool false]), none, none, none, none, none, none, none, some (.cells false [.int .i64 2, .int .u32 1, .str [], .nils]), none, some (.cells false [.int .i64 0, .int .i64 1]), some (.cells false [.int .i64 127, .int .i64 255, .bool false, .int .i64 3, .int .i64 3, .int .i64 0, .int .i64 0, .bool true, .str (setupStr ⟨2, 1, 0, 1, (fineO b)⟩)]), some (.cells false [.int .i64 127, .int .i64 255]), some (.cells false [.int .i64 127, .int .i64 255]), some (.cells false [.int .i64 127, .int .i64 255, .bool false, .int .i64 3, .int .i64 3, .int .i64 0, .int .i64 0, .bool true, .str (setupStr ⟨2, 1, 0, 1, (fineO b)⟩)]), some (.cells false [.int .i64 127, .int .i64 255, .bool false, .int .i64 3, .int .i64 3, .int .i64 0, .int .i64 0, .bool true, .str (setupStr ⟨2, 1, 0, 1, (fineO b)⟩)]), none, none, none, some (.cells false [.int .i64 127, .int .i64 255, .bool false, .int .i64 3, .int .i64 3, .int .i64 0, .int .i64 0, .bool true, .str (setupStr ⟨2, 1, 0, 1, (fineO b)⟩)]), none, none, none, none, none, none, none, none, none, none, none, none, none, some (.cells false [.int .i64 127, .int .i64 255, .bool false, .int .i64 3, .int .i64 3, .int .i64 0, .int .i64 0, .bool true, .str (setupStr ⟨2, 1, 0, 1, (fineO b)⟩)]), none, some (.cells false [.int .i64 127, .int .i64 255, .bool false, .int .i64 3, .int .i64 3, .int .i64 0, .int .i64 0, .bool true, .str (setupStr ⟨2, 1, 0, 1, (fineO b)⟩)]), none, none, none, none, none, none, some (.cells false [.int .i64 127, .int .i64 255, .bool false, .iface 150 (.agg [.int .i64 3, .bool true]), .str (setupStr ⟨2, 1, 0, 1, (fineO b)⟩)]), none, none, some (.cells false [.int .i64 127, .int .i64 255, .bool false, .int .i64 3, .int .i64 3, .int .i64 0, .int .i64 0, .bool true, .str (setupStr ⟨2, 1, 0, 1, (fineO b)⟩)]), some (.cells false [.int .i64 127, .int .i64 255, .bool false, .iface 150 (.agg [.int .i64 3, .bool true]), .str (setupStr ⟨2, 1, 0, 1, (fineO b)⟩)]), none, none, none, none, none, none, none, none, some (.cells false [.int .i64 127, .int .i64 255, .bool false, .iface 150 (.agg [.int .i64 3, .bool true]), .str (setupStr ⟨2, 1, 0, 1, (fineO b)⟩)]), none, some (.cells false [.int .i64 127, .int .i64 255, .bool false, .iface 150 (.agg [.int .i64 3, .bool true]), .str (setupStr ⟨2, 1, 0, 1, (fineO b)⟩)]), none, none, none, none, none, none, none, some (.cells false [.int .i64 0, .int .i64 0, .bool false]), none, none, none, none, some (.cells false [.int .i64 127, .int .i64 255]), none, some (.cells false [.int .i64 3, .bool true]), none, some (.cells false [.int .i64 127, .int .i64 255, .bool false, .iface 150 (.agg [.int .i64 3, .bool true]), .str (setupStr ⟨2, 1, 0, 1, (fineO b)⟩)]), some (.cells false [.int .i64 127, .int .i64 255, .bool false, .int .i64 3, .int .i64 3, .int .i64 0, .int .i64 0, .bool true, .str (setupStr ⟨2, 1, 0, 1, (fineO b)⟩)]), some (.cells false [.int .i64 127, .int .i64 255, .bool false, .iface 150 (.agg [.int .i64 3, .bool true]), .str (setupStr ⟨2, 1, 0, 1, (fineO b)⟩)]), none, none, none, none, none, none, none, some (.cells false [.int .i64 0, .int .i64 0, .bool false]), none, none, none, none, some (.cells false [.int .i64 127, .int .i64 255]), none, some (.cells false [.int .i64 3, .bool true]), none, none, none, none, none, none, none, none, none, none, none, some (.cells false [.int .i64 127, .int .i64 255, .bool false, .int .i64 3, .int .i64 3, .int .i64 0, .int .i64 0, .bool true, .str (setupStr ⟨2, 1, 0, 1, (fineO b)⟩)]), none, some (.cells false [.int .i64 3, .bool true]), none, some (.cells false [.int .i64 3, .bool true]), none, some (.cells false [.int .i64 127, .int .i64 255]), none, none, none, none, none, none, some (.cells false [.int .u32 2, .int .u32 1, .int .i64 0, .int .i64 1, .int .i64 (fineO b).baud, .int .i64 (fineO b).silent, .int .i64 (fineO b).win, .int .i64 (fineO b).size, .int .i64 (fineO b).wait]), none, none, none, none, none, none, none, none, none, none, none, none, some (.cells false (dv a b 1)), none, none, some (.cells false [.int .u32 2, .int .u32 1, .int .i64 0, .int .i64 1, .int .i64 (fineO b).baud, .int .i64 (fineO b).silent, .int .i64 (fineO b).win, .int .i64 (fineO b).size, .int .i64 (fineO b).wait]), some (.cells false (dv a b 1)), none, some (.cells false [.int .i64 0, .int .i64 1]), some (.cells false (dv a b 1)), none, some (.cells false (dv a b 1)), none, none, none, none, none, none, none, none, none, none, none, none, some (.cells false [.int .i64 1, .int .i64 (if (64 : Int) < (dealL (fineO a) (fineO b)).size then 64 else (dealL (fineO a) (fineO b)).size), .ptr 336 0, .ptr 339 0, w6]), none, none, none, none, none, some (.cells false [.int .i64 (if (7 : Int) < (if (1 : Int) > (dealL (fineO a) (fineO b)).win then 1 else (dealL (fineO a) (fineO b)).win) then 7 else (if (1 : Int) > (dealL (fineO a) (fineO b)).win then 1 else (dealL (fineO a) (fineO b)).win)), .nils, .int .i64 0, .int .i64 0]), none, none, some (.cells false [.int .i64 0, .bool false]), none, none, none, none, none, none, none, some (.cells false [.int .i64 2, .int .u32 2, .str [], .nils]), none, none, none, some (.cells false (dv a b 1)), none, some (.cells false (dv a b 1))]
def SNLinkPoll2_1 (a : Gw.Offer) (b : Gw.Offer) (w0 : V) (w1 : V) (w2 : V) (w3 : V) (w4 : V) (w5 : V) (w6 : V) : Snap := ([.agg a.vs, .agg b.vs, .ptr 3 0, .ptr 4 0, .bool true, .ptr 16 0, .ptr 351 0, w0, w1, w2, .bool true, .bool true, .bool false, .tup [.ptr 16 0, .ptr 24 0], .agg a.vs, .agg (fineO a).vs, .agg b.vs, .agg (fineO b).vs, .tup [.ptr 16 0, .ptr 24 0], .ptr 16 0, .ptr 24 0, .ptr 16 0, .bool false, .ptr 16 0, .agg (dv a b 1)], RWLinkPoll2_1 a b w0 w1 w2 w3 w4 w5 w6)
def SSLinkPoll2_1 (a : Gw.Offer) (b : Gw.Offer) (i : ILinkPoll2_1) : Snap := match i with
  | .c0 j => SNLinkPoll2_1 a b (.int .i64 0) (.int .i64 0) (.int .i64 1) (.int .i64 0) (.int .i64 1) (.int .i64 0) (.bool true)
  | .c1 j => SNLinkPoll2_1 a b (.int .i64 0) (.int .i64 0) (.int .i64 2) (.int .i64 0) (.int .i64 0) (.int .i64 1) (.bool true)
  | .c2 j => SNLinkPoll2_1 a b (.int .i64 2) (.int .i64 1) (.int .i64 (3 + (j : Int))) (.int .i64 (70 - (j : Int))) (.int .i64 0) (.int .i64 (2 + (j : Int))) (.bool false)
  | .c3 j => SNLinkPoll2_1 a b (.int .i64 2) (.int .i64 1) (.int .i64 72) (.int .i64 1) (.int .i64 0) (.int .i64 71) (.bool false)
  | .c4 j => SNLinkPoll2_1 a b (.int .i64 72) (.int .i64 2) (.int .i64 (73 + (j : Int))) (.int .i64 (70 - (j : Int))) (.int .i64 0) (.int .i64 (72 + (j : Int))) (.bool false)
  | .c5 j => SNLinkPoll2_1 a b (.int .i64 72) (.int .i64 2) (.int .i64 142) (.int .i64 1) (.int .i64 0) (.int .i64 141) (.bool false)
  | .c6 j => SNLinkPoll2_1 a b (.int .i64 142) (.int .i64 3) (.int .i64 (143 + (j : Int))) (.int .i64 (70 - (j : Int))) (.int .i64 0) (.int .i64 (142 + (j : Int))) (.bool false)
  | .c7 j => SNLinkPoll2_1 a b (.int .i64 142) (.int .i64 3) (.int .i64 200) (.int .i64 13) (.int .i64 0) (.int .i64 199) (.bool false)
def XLinkPoll2_1 (a : Gw.Offer) (b : Gw.Offer) : Snap := ([.agg a.vs, .agg b.vs, .ptr 3 0, .ptr 4 0, .bool true, .ptr 16 0, .ptr 351 0, .int .i64 3, .bool true, .bool true, .bool false, .tup [.ptr 16 0, .ptr 24 0], .agg a.vs, .agg (fineO a).vs, .agg b.vs, .agg (fineO b).vs, .tup [.ptr 16 0, .ptr 24 0], .ptr 16 0, .ptr 24 0, .ptr 16 0, .bool false, .ptr 16 0, .agg (dv a b 1)], RWLinkPoll2_1 a b (.int .i64 0) (.int .i64 0) (.int .i64 1) (.int .i64 13) (.int .i64 0) (.int .i64 199) (.bool false))
def invLinkPoll2_1 (i : ILinkPoll2_1) : Prop := match i with
  | .c0 j => j < 1
  | .c1 j => j < 1
  | .c2 j => j < 69
  | .c3 j => j < 1
  | .c4 j => j < 69
  | .c5 j => j < 1
  | .c6 j => j < 57
  | .c7 j => j < 1
def muLinkPoll2_1 (i : ILinkPoll2_1) : Nat := match i with
  | .c0 j => 200 - (0 + j)
  | .c1 j => 200 - (1 + j)
  | .c2 j => 200 - (2 + j)
  | .c3 j => 200 - (71 + j)
  | .c4 j => 200 - (72 + j)
  | .c5 j => 200 - (141 + j)
  | .c6 j => 200 - (142 + j)
  | .c7 j => 200 - (199 + j)
def loopLinkPoll2_1 (a : Gw.Offer) (b : Gw.Offer) : LoopD ILinkPoll2_1 where
  nt := 95
  fr := fun ex => match ex with | .normal => ⟨[0, 1, 2, 3, 5, 6, 8, 9, 10, 11, 14, 15, 16, 17, 18, 19, 20, 21, 22, 23, 24, 25, 26, 27, 28], 354, []⟩ | .exit _ => ⟨[0, 1, 2, 3, 5, 6, 8, 10, 14, 15, 16, 17, 18, 19, 20, 21, 22, 23, 24, 25, 26, 27, 28], 354, []⟩ | .ret => ⟨[], 354, []⟩
  S := SSLinkPoll2_1 a b
  out := fun i => .ob (invLinkPoll2_1 i) (.leaf ((.exit 0), XLinkPoll2_1 a b))
  pick := fun _ => .c0 0
def ltLinkPoll2_1 (a : Gw.Offer) (b : Gw.Offer) : Lt := fun k => match k with | 0 => (loopLinkPoll2_1 a b).lt | _ => fun _ _ => .fail
def lpLinkPoll2_1 : DC := (((loopsIn 0 (dOf 11).body)[0]?).getD (0, .skip)).2
def orcLinkPoll2_1 (a : Gw.Offer) (b : Gw.Offer) (i : ILinkPoll2_1) : Orc := match i with
  | .c0 j => noOrc
  | .c1 j => noOrc
  | .c2 j => (fun k => match k with | 32 => some fun t h => (.bool true, h) | 34 => some fun t h => (.int .i64 (4 + (j : Int)), h) | _ => none)
  | .c3 j => noOrc
  | .c4 j => (fun k => match k with | 32 => some fun t h => (.bool true, h) | 34 => some fun t h => (.int .i64 (74 + (j : Int)), h) | _ => none)
  | .c5 j => noOrc
  | .c6 j => (fun k => match k with | 32 => some fun t h => (.bool true, h) | 34 => some fun t h => (.int .i64 (144 + (j : Int)), h) | _ => none)
  | .c7 j => noOrc
def orcsLinkPoll2_1 (a : Gw.Offer) (b : Gw.Offer) (i : ILinkPoll2_1) : Nat → Orc := match i with
  | .c0 j => (fun _ => noOrc)
  | .c1 j => (fun g => match g with | 147 => (fun k => match k with | 18 => some fun t h => (.int .i64 0, h) | _ => none) | _ => noOrc)
  | .c2 j => (fun g => match g with | 60 => (fun k => match k with | 13 => some fun t h => (.int .i64 (3 + (j : Int)), h) | 25 => some fun t h => (.bool false, h) | 32 => some fun t h => (.bool false, h) | 37 => some fun t h => (.int .i64 (69 - (j : Int)), h) | 44 => some fun t h => (.bool true, h) | _ => none) | _ => noOrc)
  | .c3 j => (fun g => match g with | 147 => (fun k => match k with | 18 => some fun t h => (.int .i64 0, h) | _ => none) | _ => noOrc)
  | .c4 j => (fun g => match g with | 60 => (fun k => match k with | 13 => some fun t h => (.int .i64 (73 + (j : Int)), h) | 25 => some fun t h => (.bool false, h) | 32 => some fun t h => (.bool false, h) | 37 => some fun t h => (.int .i64 (69 - (j : Int)), h) | 44 => some fun t h => (.bool true, h) | _ => none) | _ => noOrc)
  | .c5 j => (fun g => match g with | 147 => (fun k => match k with | 18 => some fun t h => (.int .i64 0, h) | _ => none) | _ => noOrc)
  | .c6 j => (fun g => match g with | 60 => (fun k => match k with | 13 => some fun t h => (.int .i64 (143 + (j : Int)), h) | 25 => some fun t h => (.bool false, h) | 32 => some fun t h => (.bool false, h) | 37 => some fun t h => (.int .i64 (69 - (j : Int)), h) | 44 => some fun t h => (.bool true, h) | _ => none) | _ => noOrc)
  | .c7 j => (fun _ => noOrc)
def stsLinkPoll2_1 (i : ILinkPoll2_1) : Nat → List Nat := match i with
  | .c0 j => (fun k => match k with | 11 => [32, 42, 45] | 26 => [15, 22] | 60 => [8, 25, 32] | _ => [])
  | .c1 j => (fun k => match k with | 11 => [32, 42, 45, 48, 53, 60, 70, 74] | 26 => [15, 22, 31, 52, 74, 80, 86, 96] | 60 => [8, 25, 32] | 63 => [9] | 65 => [7, 20, 34] | 108 => [11, 17, 34, 60] | 109 => [13] | 147 => [30] | 152 => [9] | _ => [])
  | .c2 j => (fun k => match k with | 11 => [32, 42, 45] | 26 => [15, 22, 31, 52, 74, 80] | 60 => [8, 25, 32, 44] | 63 => [9] | _ => [])
  | .c3 j => (fun k => match k with | 11 => [32, 42, 45, 48, 53, 60, 70, 74, 79] | 26 => [15, 22, 31, 52, 74, 80, 86, 96] | 60 => [8, 25, 32, 44, 49, 55, 68, 73, 78] | 63 => [9] | 65 => [7, 20, 34] | 105 => [9, 16] | 108 => [11, 17, 34, 60] | 109 => [13] | 147 => [30] | 152 => [9] | _ => [])
  | .c4 j => (fun k => match k with | 11 => [32, 42, 45] | 26 => [15, 22, 31, 52, 74, 80] | 60 => [8, 25, 32, 44] | 63 => [9] | _ => [])
  | .c5 j => (fun k => match k with | 11 => [32, 42, 45, 48, 53, 60, 70, 74, 79] | 26 => [15, 22, 31, 52, 74, 80, 86, 96] | 60 => [8, 25, 32, 44, 49, 55, 68, 73, 78] | 63 => [9] | 65 => [7, 20, 34] | 105 => [9, 16] | 108 => [11, 17, 34, 60] | 109 => [13] | 147 => [30] | 152 => [9] | _ => [])
  | .c6 j => (fun k => match k with | 11 => [32, 42, 45] | 26 => [15, 22, 31, 52, 74, 80] | 60 => [8, 25, 32, 44] | 63 => [9] | _ => [])
  | .c7 j => (fun k => match k with | 11 => [32] | _ => [])
def stLinkPoll2_1 (i : ILinkPoll2_1) : List Nat := match i with
  | .c0 j => [32, 42, 45]
  | .c1 j => [32, 42, 45, 48, 53, 60, 70, 74]
  | .c2 j => [32, 42, 45]
  | .c3 j => [32, 42, 45, 48, 53, 60, 70, 74, 79]
  | .c4 j => [32, 42, 45]
  | .c5 j => [32, 42, 45, 48, 53, 60, 70, 74, 79]
  | .c6 j => [32, 42, 45]
  | .c7 j => [32]
def treeLinkPoll2_1_0 (a : Gw.Offer) (b : Gw.Offer) (j : Nat) : DT (Ex × Snap) :=
  .leaf (.normal, SNLinkPoll2_1 a b (.int .i64 0) (.int .i64 0) (.int .i64 2) (.int .i64 0) (.int .i64 0) (.int .i64 1) (.bool true))
set_option maxRecDepth 1000000 in
theorem treeLinkPoll2_1_0_eq (a : Gw.Offer) (b : Gw.Offer) (j : Nat) : codeT (callT (mkXT noPX oxM) (mkXP noPX) (mkX noPX oxM) D (orcsLinkPoll2_1 a b (.c0 j)) (stsLinkPoll2_1 (.c0 j)) 13) (callN (mkX noPX oxM) D 13) (mkXP noPX) (orcLinkPoll2_1 a b (.c0 j)) (stLinkPoll2_1 (.c0 j)) noLt 0 lpLinkPoll2_1 ((loopLinkPoll2_1 a b).t0 (.c0 j)) [] ((loopLinkPoll2_1 a b).h0 (.c0 j)) (loopLinkPoll2_1 a b).end_ = treeLinkPoll2_1_0 a b j := by kernel_rfl
def treeLinkPoll2_1_1 (a : Gw.Offer) (b : Gw.Offer) (j : Nat) : DT (Ex × Snap) :=
  .ob (((V.beq (.int .i64 1) (.int .i64 1)) && true) = true) (
.ob (minV (.int .i64 (if (7 : Int) < (if (1 : Int) > (dealL (fineO a) (fineO b)).win then 1 else (dealL (fineO a) (fineO b)).win) then 7 else (if (1 : Int) > (dealL (fineO a) (fineO b)).win then 1 else (dealL (fineO a) (fineO b)).win))) [(.int .i64 0)] = some (.int .i64 0)) (
.ob ((0 ≤ (0 : Int) ∧ (0 : Int) ≤ ((0 : Nat) : Int)) ∧ (True)) (
.ob ((9 = 9 ∧ ([.int .i64 0, .int .i64 0, .bool true, .int .i64 2, .int .i64 0, .int .i64 0, .int .i64 0, .bool false, .str []] : List V).length = 1 * 9) ∧ allOne [.int .i64 0, .int .i64 0, .bool true, .int .i64 2, .int .i64 0, .int .i64 0, .int .i64 0, .bool false, .str []] = true ∧ 1 * 80 ≤ 70368744177664) (
.ob (9 = 9 ∧ 0 ≤ (0 : Int) ∧ (0 : Int) < ((1 : Nat) : Int)) (
.ob (9 = 9 ∧ 0 ≤ (0 : Int) ∧ (0 : Int) < ((1 : Nat) : Int)) (
.ob (9 = 9 ∧ 0 ≤ (0 : Int) ∧ (0 : Int) < ((1 : Nat) : Int)) (
.ob (9 = 9 ∧ 0 ≤ (0 : Int) ∧ (0 : Int) < ((1 : Nat) : Int)) (
.ob (9 = 9 ∧ 0 ≤ (0 : Int) ∧ (0 : Int) < ((1 : Nat) : Int)) (
.ob (((V.beq (.agg [.int .i64 0, .int .i64 1]) (.agg [.int .i64 0, .int .i64 1])) && true) = true) (
.ob (True) (
.leaf (.normal, SNLinkPoll2_1 a b (.int .i64 2) (.int .i64 1) (.int .i64 3) (.int .i64 70) (.int .i64 0) (.int .i64 2) (.bool false)))))))))))))
set_option maxRecDepth 1000000 in
theorem treeLinkPoll2_1_1_eq (a : Gw.Offer) (b : Gw.Offer) (j : Nat) : codeT (callT (mkXT noPX oxM) (mkXP noPX) (mkX noPX oxM) D (orcsLinkPoll2_1 a b (.c1 j)) (stsLinkPoll2_1 (.c1 j)) 13) (callN (mkX noPX oxM) D 13) (mkXP noPX) (orcLinkPoll2_1 a b (.c1 j)) (stLinkPoll2_1 (.c1 j)) noLt 0 lpLinkPoll2_1 ((loopLinkPoll2_1 a b).t0 (.c1 j)) [] ((loopLinkPoll2_1 a b).h0 (.c1 j)) (loopLinkPoll2_1 a b).end_ = treeLinkPoll2_1_1 a b j := by kernel_rfl
def treeLinkPoll2_1_2 (a : Gw.Offer) (b : Gw.Offer) (j : Nat) : DT (Ex × Snap) :=
  .ob (binV .lss (.int .i64 (3 + (j : Int))) (.int .i64 200) = some (.bool true)) (
.ob (binV .add (.int .i64 (2 + (j : Int))) (.int .i64 1) = some (.int .i64 (3 + (j : Int)))) (
.ob (binV .geq (.int .i64 (3 + (j : Int))) (.int .i64 200) = some (.bool false)) (
.ob (binV .eql (.int .i64 (70 - (j : Int))) (.int .i64 0) = some (.bool false)) (
.ob (binV .sub (.int .i64 (70 - (j : Int))) (.int .i64 1) = some (.int .i64 (69 - (j : Int)))) (
.ob (binV .gtr (.int .i64 (69 - (j : Int))) (.int .i64 0) = some (.bool true)) (
.ob (binV .add (.int .i64 (3 + (j : Int))) (.int .i64 1) = some (.int .i64 (4 + (j : Int)))) (
.leaf (.normal, SNLinkPoll2_1 a b (.int .i64 2) (.int .i64 1) (.int .i64 (4 + (j : Int))) (.int .i64 (69 - (j : Int))) (.int .i64 0) (.int .i64 (3 + (j : Int))) (.bool false)))))))))
set_option maxRecDepth 1000000 in
theorem treeLinkPoll2_1_2_eq (a : Gw.Offer) (b : Gw.Offer) (j : Nat) : codeT (callT (mkXT noPX oxM) (mkXP noPX) (mkX noPX oxM) D (orcsLinkPoll2_1 a b (.c2 j)) (stsLinkPoll2_1 (.c2 j)) 13) (callN (mkX noPX oxM) D 13) (mkXP noPX) (orcLinkPoll2_1 a b (.c2 j)) (stLinkPoll2_1 (.c2 j)) noLt 0 lpLinkPoll2_1 ((loopLinkPoll2_1 a b).t0 (.c2 j)) [] ((loopLinkPoll2_1 a b).h0 (.c2 j)) (loopLinkPoll2_1 a b).end_ = treeLinkPoll2_1_2 a b j := by kernel_rfl
def treeLinkPoll2_1_3 (a : Gw.Offer) (b : Gw.Offer) (j : Nat) : DT (Ex × Snap) :=
  .ob (((V.beq (.int .i64 1) (.int .i64 1)) && true) = true) (
.ob (minV (.int .i64 (if (7 : Int) < (if (1 : Int) > (dealL (fineO a) (fineO b)).win then 1 else (dealL (fineO a) (fineO b)).win) then 7 else (if (1 : Int) > (dealL (fineO a) (fineO b)).win then 1 else (dealL (fineO a) (fineO b)).win))) [(.int .i64 0)] = some (.int .i64 0)) (
.ob ((0 ≤ (0 : Int) ∧ (0 : Int) ≤ ((0 : Nat) : Int)) ∧ (True)) (
.ob ((9 = 9 ∧ ([.int .i64 0, .int .i64 0, .bool true, .int .i64 2, .int .i64 0, .int .i64 0, .int .i64 0, .bool false, .str []] : List V).length = 1 * 9) ∧ allOne [.int .i64 0, .int .i64 0, .bool true, .int .i64 2, .int .i64 0, .int .i64 0, .int .i64 0, .bool false, .str []] = true ∧ 1 * 80 ≤ 70368744177664) (
.ob (9 = 9 ∧ 0 ≤ (0 : Int) ∧ (0 : Int) < ((1 : Nat) : Int)) (
.ob (9 = 9 ∧ 0 ≤ (0 : Int) ∧ (0 : Int) < ((1 : Nat) : Int)) (
.ob (9 = 9 ∧ 0 ≤ (0 : Int) ∧ (0 : Int) < ((1 : Nat) : Int)) (
.ob (9 = 9 ∧ 0 ≤ (0 : Int) ∧ (0 : Int) < ((1 : Nat) : Int)) (
.ob (9 = 9 ∧ 0 ≤ (0 : Int) ∧ (0 : Int) < ((1 : Nat) : Int)) (
.ob (((V.beq (.agg [.int .i64 0, .int .i64 1]) (.agg [.int .i64 0, .int .i64 1])) && true) = true) (
.ob (True) (
.leaf (.normal, SNLinkPoll2_1 a b (.int .i64 72) (.int .i64 2) (.int .i64 73) (.int .i64 70) (.int .i64 0) (.int .i64 72) (.bool false)))))))))))))
set_option maxRecDepth 1000000 in
theorem treeLinkPoll2_1_3_eq (a : Gw.Offer) (b : Gw.Offer) (j : Nat) : codeT (callT (mkXT noPX oxM) (mkXP noPX) (mkX noPX oxM) D (orcsLinkPoll2_1 a b (.c3 j)) (stsLinkPoll2_1 (.c3 j)) 13) (callN (mkX noPX oxM) D 13) (mkXP noPX) (orcLinkPoll2_1 a b (.c3 j)) (stLinkPoll2_1 (.c3 j)) noLt 0 lpLinkPoll2_1 ((loopLinkPoll2_1 a b).t0 (.c3 j)) [] ((loopLinkPoll2_1 a b).h0 (.c3 j)) (loopLinkPoll2_1 a b).end_ = treeLinkPoll2_1_3 a b j := by kernel_rfl
def treeLinkPoll2_1_4 (a : Gw.Offer) (b : Gw.Offer) (j : Nat) : DT (Ex × Snap) :=
  .ob (binV .lss (.int .i64 (73 + (j : Int))) (.int .i64 200) = some (.bool true)) (
.ob (binV .add (.int .i64 (72 + (j : Int))) (.int .i64 1) = some (.int .i64 (73 + (j : Int)))) (
.ob (binV .geq (.int .i64 (73 + (j : Int))) (.int .i64 200) = some (.bool false)) (
.ob (binV .eql (.int .i64 (70 - (j : Int))) (.int .i64 0) = some (.bool false)) (
.ob (binV .sub (.int .i64 (70 - (j : Int))) (.int .i64 1) = some (.int .i64 (69 - (j : Int)))) (
.ob (binV .gtr (.int .i64 (69 - (j : Int))) (.int .i64 0) = some (.bool true)) (
.ob (binV .add (.int .i64 (73 + (j : Int))) (.int .i64 1) = some (.int .i64 (74 + (j : Int)))) (
.leaf (.normal, SNLinkPoll2_1 a b (.int .i64 72) (.int .i64 2) (.int .i64 (74 + (j : Int))) (.int .i64 (69 - (j : Int))) (.int .i64 0) (.int .i64 (73 + (j : Int))) (.bool false)))))))))
set_option maxRecDepth 1000000 in
theorem treeLinkPoll2_1_4_eq (a : Gw.Offer) (b : Gw.Offer) (j : Nat) : codeT (callT (mkXT noPX oxM) (mkXP noPX) (mkX noPX oxM) D (orcsLinkPoll2_1 a b (.c4 j)) (stsLinkPoll2_1 (.c4 j)) 13) (callN (mkX noPX oxM) D 13) (mkXP noPX) (orcLinkPoll2_1 a b (.c4 j)) (stLinkPoll2_1 (.c4 j)) noLt 0 lpLinkPoll2_1 ((loopLinkPoll2_1 a b).t0 (.c4 j)) [] ((loopLinkPoll2_1 a b).h0 (.c4 j)) (loopLinkPoll2_1 a b).end_ = treeLinkPoll2_1_4 a b j := by kernel_rfl
def treeLinkPoll2_1_5 (a : Gw.Offer) (b : Gw.Offer) (j : Nat) : DT (Ex × Snap) :=
  .ob (((V.beq (.int .i64 1) (.int .i64 1)) && true) = true) (
.ob (minV (.int .i64 (if (7 : Int) < (if (1 : Int) > (dealL (fineO a) (fineO b)).win then 1 else (dealL (fineO a) (fineO b)).win) then 7 else (if (1 : Int) > (dealL (fineO a) (fineO b)).win then 1 else (dealL (fineO a) (fineO b)).win))) [(.int .i64 0)] = some (.int .i64 0)) (
.ob ((0 ≤ (0 : Int) ∧ (0 : Int) ≤ ((0 : Nat) : Int)) ∧ (True)) (
.ob ((9 = 9 ∧ ([.int .i64 0, .int .i64 0, .bool true, .int .i64 2, .int .i64 0, .int .i64 0, .int .i64 0, .bool false, .str []] : List V).length = 1 * 9) ∧ allOne [.int .i64 0, .int .i64 0, .bool true, .int .i64 2, .int .i64 0, .int .i64 0, .int .i64 0, .bool false, .str []] = true ∧ 1 * 80 ≤ 70368744177664) (
.ob (9 = 9 ∧ 0 ≤ (0 : Int) ∧ (0 : Int) < ((1 : Nat) : Int)) (
.ob (9 = 9 ∧ 0 ≤ (0 : Int) ∧ (0 : Int) < ((1 : Nat) : Int)) (
.ob (9 = 9 ∧ 0 ≤ (0 : Int) ∧ (0 : Int) < ((1 : Nat) : Int)) (
.ob (9 = 9 ∧ 0 ≤ (0 : Int) ∧ (0 : Int) < ((1 : Nat) : Int)) (
.ob (9 = 9 ∧ 0 ≤ (0 : Int) ∧ (0 : Int) < ((1 : Nat) : Int)) (
.ob (((V.beq (.agg [.int .i64 0, .int .i64 1]) (.agg [.int .i64 0, .int .i64 1])) && true) = true) (
.ob (True) (
.leaf (.normal, SNLinkPoll2_1 a b (.int .i64 142) (.int .i64 3) (.int .i64 143) (.int .i64 70) (.int .i64 0) (.int .i64 142) (.bool false)))))))))))))
set_option maxRecDepth 1000000 in
theorem treeLinkPoll2_1_5_eq (a : Gw.Offer) (b : Gw.Offer) (j : Nat) : codeT (callT (mkXT noPX oxM) (mkXP noPX) (mkX noPX oxM) D (orcsLinkPoll2_1 a b (.c5 j)) (stsLinkPoll2_1 (.c5 j)) 13) (callN (mkX noPX oxM) D 13) (mkXP noPX) (orcLinkPoll2_1 a b (.c5 j)) (stLinkPoll2_1 (.c5 j)) noLt 0 lpLinkPoll2_1 ((loopLinkPoll2_1 a b).t0 (.c5 j)) [] ((loopLinkPoll2_1 a b).h0 (.c5 j)) (loopLinkPoll2_1 a b).end_ = treeLinkPoll2_1_5 a b j := by kernel_rfl
def treeLinkPoll2_1_6 (a : Gw.Offer) (b : Gw.Offer) (j : Nat) : DT (Ex × Snap) :=
  .ob (binV .lss (.int .i64 (143 + (j : Int))) (.int .i64 200) = some (.bool true)) (
.ob (binV .add (.int .i64 (142 + (j : Int))) (.int .i64 1) = some (.int .i64 (143 + (j : Int)))) (
.ob (binV .geq (.int .i64 (143 + (j : Int))) (.int .i64 200) = some (.bool false)) (
.ob (binV .eql (.int .i64 (70 - (j : Int))) (.int .i64 0) = some (.bool false)) (
.ob (binV .sub (.int .i64 (70 - (j : Int))) (.int .i64 1) = some (.int .i64 (69 - (j : Int)))) (
.ob (binV .gtr (.int .i64 (69 - (j : Int))) (.int .i64 0) = some (.bool true)) (
.ob (binV .add (.int .i64 (143 + (j : Int))) (.int .i64 1) = some (.int .i64 (144 + (j : Int)))) (
.leaf (.normal, SNLinkPoll2_1 a b (.int .i64 142) (.int .i64 3) (.int .i64 (144 + (j : Int))) (.int .i64 (69 - (j : Int))) (.int .i64 0) (.int .i64 (143 + (j : Int))) (.bool false)))))))))
set_option maxRecDepth 1000000 in
theorem treeLinkPoll2_1_6_eq (a : Gw.Offer) (b : Gw.Offer) (j : Nat) : codeT (callT (mkXT noPX oxM) (mkXP noPX) (mkX noPX oxM) D (orcsLinkPoll2_1 a b (.c6 j)) (stsLinkPoll2_1 (.c6 j)) 13) (callN (mkX noPX oxM) D 13) (mkXP noPX) (orcLinkPoll2_1 a b (.c6 j)) (stLinkPoll2_1 (.c6 j)) noLt 0 lpLinkPoll2_1 ((loopLinkPoll2_1 a b).t0 (.c6 j)) [] ((loopLinkPoll2_1 a b).h0 (.c6 j)) (loopLinkPoll2_1 a b).end_ = treeLinkPoll2_1_6 a b j := by kernel_rfl
def treeLinkPoll2_1_7 (a : Gw.Offer) (b : Gw.Offer) (j : Nat) : DT (Ex × Snap) :=
  .leaf ((.exit 0), XLinkPoll2_1 a b)
set_option maxRecDepth 1000000 in
theorem treeLinkPoll2_1_7_eq (a : Gw.Offer) (b : Gw.Offer) (j : Nat) : codeT (callT (mkXT noPX oxM) (mkXP noPX) (mkX noPX oxM) D (orcsLinkPoll2_1 a b (.c7 j)) (stsLinkPoll2_1 (.c7 j)) 13) (callN (mkX noPX oxM) D 13) (mkXP noPX) (orcLinkPoll2_1 a b (.c7 j)) (stLinkPoll2_1 (.c7 j)) noLt 0 lpLinkPoll2_1 ((loopLinkPoll2_1 a b).t0 (.c7 j)) [] ((loopLinkPoll2_1 a b).h0 (.c7 j)) (loopLinkPoll2_1 a b).end_ = treeLinkPoll2_1_7 a b j := by kernel_rfl
def treeLinkPoll2_1L (a : Gw.Offer) (b : Gw.Offer) (i : ILinkPoll2_1) : DT (Ex × Snap) := match i with
  | .c0 j => treeLinkPoll2_1_0 a b j
  | .c1 j => treeLinkPoll2_1_1 a b j
  | .c2 j => treeLinkPoll2_1_2 a b j
  | .c3 j => treeLinkPoll2_1_3 a b j
  | .c4 j => treeLinkPoll2_1_4 a b j
  | .c5 j => treeLinkPoll2_1_5 a b j
  | .c6 j => treeLinkPoll2_1_6 a b j
  | .c7 j => treeLinkPoll2_1_7 a b j
theorem roundLinkPoll2_1 (a : Gw.Offer) (b : Gw.Offer) (hwa : loL (fineO a).wait = 2) (hwb : loL (fineO b).wait = 1) (i : ILinkPoll2_1) (Pr : Ex × Snap → Prop) (h : ((loopLinkPoll2_1 a b).out i).sat Pr) : (treeLinkPoll2_1L a b i).sat ((loopLinkPoll2_1 a b).next muLinkPoll2_1 i Pr) := by
  match i with
  | .c0 j =>
    have hj : j < 1 := h.1
    have hX := h.2
    obtain rfl : j = 0 := by omega
    exact sat_leaf (⟨.c1 0, by kernel_rfl, (by show 200 - (1 + 0) < 200 - (0 + 0); omega), ⟨(show 0 < 1 by decide), hX⟩⟩)
  | .c1 j =>
    have hj : j < 1 := h.1
    have hX := h.2
    obtain rfl : j = 0 := by omega
    exact sat_ob (by simp only [V.beq_refl, Bool.and_true]) (
sat_ob (min0 _) (
sat_ob (by decide) (
sat_ob (by decide) (
sat_ob (by decide) (
sat_ob (by decide) (
sat_ob (by decide) (
sat_ob (by decide) (
sat_ob (by decide) (
sat_ob (by simp only [V.beq_refl, Bool.and_true]) (
sat_ob trivial (
sat_leaf (⟨.c2 0, by kernel_rfl, (by show 200 - (2 + 0) < 200 - (1 + 0); omega), ⟨(show 0 < 69 by decide), hX⟩⟩))))))))))))
  | .c2 j =>
    have hj : j < 69 := h.1
    have hX := h.2
    exact sat_ob (by simp [binV, binI]; omega) (
sat_ob (by show some (V.int .i64 (wrapK .i64 ((2 + (j : Int)) + 1))) = _; rw [wrap_small (by omega), show ((2 + (j : Int)) + 1) = (3 + (j : Int)) by omega]) (
sat_ob (by simp [binV, binI]; omega) (
sat_ob (by simp [binV, binI]; omega) (
sat_ob (by show some (V.int .i64 (wrapK .i64 ((70 - (j : Int)) - 1))) = _; rw [wrap_small (by omega), show ((70 - (j : Int)) - 1) = (69 - (j : Int)) by omega]) (
sat_ob (by simp [binV, binI]; omega) (
sat_ob (by show some (V.int .i64 (wrapK .i64 ((3 + (j : Int)) + 1))) = _; rw [wrap_small (by omega), show ((3 + (j : Int)) + 1) = (4 + (j : Int)) by omega]) (
sat_leaf (if h2 : j + 1 < 69 then ⟨.c2 (j + 1), (by show SNLinkPoll2_1 a b (.int .i64 2) (.int .i64 1) (.int .i64 (4 + (j : Int))) (.int .i64 (69 - (j : Int))) (.int .i64 0) (.int .i64 (3 + (j : Int))) (.bool false) = SNLinkPoll2_1 a b (.int .i64 2) (.int .i64 1) (.int .i64 (3 + ((j + 1 : Nat) : Int))) (.int .i64 (70 - ((j + 1 : Nat) : Int))) (.int .i64 0) (.int .i64 (2 + ((j + 1 : Nat) : Int))) (.bool false); rw [show ((2 + ((j + 1 : Nat) : Int)) : Int) = (3 + (j : Int)) by omega, show ((3 + ((j + 1 : Nat) : Int)) : Int) = (4 + (j : Int)) by omega, show ((70 - ((j + 1 : Nat) : Int)) : Int) = (69 - (j : Int)) by omega]), (by show 200 - (2 + (j + 1)) < 200 - (2 + j); omega), ⟨h2, hX⟩⟩ else by
    obtain rfl : j = 68 := by omega
    exact ⟨.c3 0, by kernel_rfl, (by show 200 - (71 + 0) < 200 - (2 + 68); omega), ⟨(show 0 < 1 by decide), hX⟩⟩))))))))
  | .c3 j =>
    have hj : j < 1 := h.1
    have hX := h.2
    obtain rfl : j = 0 := by omega
    exact sat_ob (by simp only [V.beq_refl, Bool.and_true]) (
sat_ob (min0 _) (
sat_ob (by decide) (
sat_ob (by decide) (
sat_ob (by decide) (
sat_ob (by decide) (
sat_ob (by decide) (
sat_ob (by decide) (
sat_ob (by decide) (
sat_ob (by simp only [V.beq_refl, Bool.and_true]) (
sat_ob trivial (
sat_leaf (⟨.c4 0, by kernel_rfl, (by show 200 - (72 + 0) < 200 - (71 + 0); omega), ⟨(show 0 < 69 by decide), hX⟩⟩))))))))))))
  | .c4 j =>
    have hj : j < 69 := h.1
    have hX := h.2
    exact sat_ob (by simp [binV, binI]; omega) (
sat_ob (by show some (V.int .i64 (wrapK .i64 ((72 + (j : Int)) + 1))) = _; rw [wrap_small (by omega), show ((72 + (j : Int)) + 1) = (73 + (j : Int)) by omega]) (
sat_ob (by simp [binV, binI]; omega) (
sat_ob (by simp [binV, binI]; omega) (
sat_ob (by show some (V.int .i64 (wrapK .i64 ((70 - (j : Int)) - 1))) = _; rw [wrap_small (by omega), show ((70 - (j : Int)) - 1) = (69 - (j : Int)) by omega]) (
sat_ob (by simp [binV, binI]; omega) (
sat_ob (by show some (V.int .i64 (wrapK .i64 ((73 + (j : Int)) + 1))) = _; rw [wrap_small (by omega), show ((73 + (j : Int)) + 1) = (74 + (j : Int)) by omega]) (
sat_leaf (if h2 : j + 1 < 69 then ⟨.c4 (j + 1), (by show SNLinkPoll2_1 a b (.int .i64 72) (.int .i64 2) (.int .i64 (74 + (j : Int))) (.int .i64 (69 - (j : Int))) (.int .i64 0) (.int .i64 (73 + (j : Int))) (.bool false) = SNLinkPoll2_1 a b (.int .i64 72) (.int .i64 2) (.int .i64 (73 + ((j + 1 : Nat) : Int))) (.int .i64 (70 - ((j + 1 : Nat) : Int))) (.int .i64 0) (.int .i64 (72 + ((j + 1 : Nat) : Int))) (.bool false); rw [show ((70 - ((j + 1 : Nat) : Int)) : Int) = (69 - (j : Int)) by omega, show ((72 + ((j + 1 : Nat) : Int)) : Int) = (73 + (j : Int)) by omega, show ((73 + ((j + 1 : Nat) : Int)) : Int) = (74 + (j : Int)) by omega]), (by show 200 - (72 + (j + 1)) < 200 - (72 + j); omega), ⟨h2, hX⟩⟩ else by
    obtain rfl : j = 68 := by omega
    exact ⟨.c5 0, by kernel_rfl, (by show 200 - (141 + 0) < 200 - (72 + 68); omega), ⟨(show 0 < 1 by decide), hX⟩⟩))))))))
  | .c5 j =>
    have hj : j < 1 := h.1
    have hX := h.2
    obtain rfl : j = 0 := by omega
    exact sat_ob (by simp only [V.beq_refl, Bool.and_true]) (
sat_ob (min0 _) (
sat_ob (by decide) (
sat_ob (by decide) (
sat_ob (by decide) (
sat_ob (by decide) (
sat_ob (by decide) (
sat_ob (by decide) (
sat_ob (by decide) (
sat_ob (by simp only [V.beq_refl, Bool.and_true]) (
sat_ob trivial (
sat_leaf (⟨.c6 0, by kernel_rfl, (by show 200 - (142 + 0) < 200 - (141 + 0); omega), ⟨(show 0 < 57 by decide), hX⟩⟩))))))))))))
  | .c6 j =>
    have hj : j < 57 := h.1
    have hX := h.2
    exact sat_ob (by simp [binV, binI]; omega) (
sat_ob (by show some (V.int .i64 (wrapK .i64 ((142 + (j : Int)) + 1))) = _; rw [wrap_small (by omega), show ((142 + (j : Int)) + 1) = (143 + (j : Int)) by omega]) (
sat_ob (by simp [binV, binI]; omega) (
sat_ob (by simp [binV, binI]; omega) (
sat_ob (by show some (V.int .i64 (wrapK .i64 ((70 - (j : Int)) - 1))) = _; rw [wrap_small (by omega), show ((70 - (j : Int)) - 1) = (69 - (j : Int)) by omega]) (
sat_ob (by simp [binV, binI]; omega) (
sat_ob (by show some (V.int .i64 (wrapK .i64 ((143 + (j : Int)) + 1))) = _; rw [wrap_small (by omega), show ((143 + (j : Int)) + 1) = (144 + (j : Int)) by omega]) (
sat_leaf (if h2 : j + 1 < 57 then ⟨.c6 (j + 1), (by show SNLinkPoll2_1 a b (.int .i64 142) (.int .i64 3) (.int .i64 (144 + (j : Int))) (.int .i64 (69 - (j : Int))) (.int .i64 0) (.int .i64 (143 + (j : Int))) (.bool false) = SNLinkPoll2_1 a b (.int .i64 142) (.int .i64 3) (.int .i64 (143 + ((j + 1 : Nat) : Int))) (.int .i64 (70 - ((j + 1 : Nat) : Int))) (.int .i64 0) (.int .i64 (142 + ((j + 1 : Nat) : Int))) (.bool false); rw [show ((142 + ((j + 1 : Nat) : Int)) : Int) = (143 + (j : Int)) by omega, show ((143 + ((j + 1 : Nat) : Int)) : Int) = (144 + (j : Int)) by omega, show ((70 - ((j + 1 : Nat) : Int)) : Int) = (69 - (j : Int)) by omega]), (by show 200 - (142 + (j + 1)) < 200 - (142 + j); omega), ⟨h2, hX⟩⟩ else by
    obtain rfl : j = 56 := by omega
    exact ⟨.c7 0, by kernel_rfl, (by show 200 - (199 + 0) < 200 - (142 + 56); omega), ⟨(show 0 < 1 by decide), hX⟩⟩))))))))
  | .c7 j =>
    have hj : j < 1 := h.1
    have hX := h.2
    obtain rfl : j = 0 := by omega
    exact sat_leaf (hX)
theorem ltLinkPoll2_1_ok (a : Gw.Offer) (b : Gw.Offer) (hwa : loL (fineO a).wait = 2) (hwb : loL (fineO b).wait = 1) (hint : Nat → List Nat) : Lt1 Tryz.prog hint 3 (loopLinkPoll2_1 a b).lt lpLinkPoll2_1 :=
  LoopD.lt1c mixed (show TabX Tryz.prog noPX oxM from tabM) tabD (loopLinkPoll2_1 a b) muLinkPoll2_1 (fun ex => match ex with | .normal => ⟨show 3 ≤ 354 by decide, show 3 ≤ 354 by decide⟩ | .exit _ => ⟨show 3 ≤ 354 by decide, show 3 ≤ 354 by decide⟩ | .ret => ⟨show 3 ≤ 354 by decide, show 3 ≤ 354 by decide⟩) (orcs := orcsLinkPoll2_1 a b) (sts := stsLinkPoll2_1) (orc := orcLinkPoll2_1 a b) (st := stLinkPoll2_1) (tree := treeLinkPoll2_1L a b)
    (fun i => match i with
    | .c0 j => treeLinkPoll2_1_0_eq a b j
    | .c1 j => treeLinkPoll2_1_1_eq a b j
    | .c2 j => treeLinkPoll2_1_2_eq a b j
    | .c3 j => treeLinkPoll2_1_3_eq a b j
    | .c4 j => treeLinkPoll2_1_4_eq a b j
    | .c5 j => treeLinkPoll2_1_5_eq a b j
    | .c6 j => treeLinkPoll2_1_6_eq a b j
    | .c7 j => treeLinkPoll2_1_7_eq a b j) (roundLinkPoll2_1 a b hwa hwb)
def oxLinkPoll2_1 (a : Gw.Offer) (b : Gw.Offer) : OTab := (consT 79 (gD dGet pGet (fun n => match n with | 138 => some (.tup [.agg [.int .u32 1, .int .u32 2, .int .i64 0, .int .i64 1, .int .i64 (fineO a).baud, .int .i64 (fineO a).silent, .int .i64 (fineO a).win, .int .i64 (fineO a).size, .int .i64 (fineO a).wait], .bool true]) | 298 => some (.tup [.agg [.int .u32 2, .int .u32 1, .int .i64 0, .int .i64 1, .int .i64 (fineO b).baud, .int .i64 (fineO b).silent, .int .i64 (fineO b).win, .int .i64 (fineO b).size, .int .i64 (fineO b).wait], .bool true]) | _ => none)) (consT 106 (gD dPut pPut noV) (consT 80 (gDT kT0 kT1 kT2 dDeal pDeal (fun n => match n with | 151 => some (.tup [.agg (dv b a 2), .bool true]) | 311 => some (.tup [.agg (dv a b 1), .bool true]) | _ => none)) (consT 76 (gD dOff pMayQ (fun n => match n with | 12 => some (.bool true) | 20 => some (.bool true) | _ => none)) (consT 20 (gD dOff pFine noV) (consO 19 (gTrue kT0 kT1 kT2) noOX))))))
def treeLinkPoll2_1 (a : Gw.Offer) (b : Gw.Offer) : DT V :=
  .ob (dOff [.agg a.vs]) (
.ob (((V.beq (.agg b.vs) (.agg b.vs)) && true) = true) (
.ob (dOff [.agg b.vs]) (
.ob (dOff [.agg (fineO a).vs]) (
.ob (pMayQ [.agg (fineO a).vs] = (.bool true)) (
.ob (((V.beq (.agg (fineO b).vs) (.agg (fineO b).vs)) && true) = true) (
.ob (dOff [.agg (fineO b).vs]) (
.ob (pMayQ [.agg (fineO b).vs] = (.bool true)) (
.ob (True) (
.ob (IntKind.i64 = IntKind.i64 ∧ (250 : Int) ≠ 0) (
.ob (((V.beq (.int .u32 2) (.int .u32 2)) && true) = true) (
.ob (((V.beq (.int .u32 2) (.int .u32 2)) && true) = true) (
.ob (dPut [.agg [.int .u32 1, .int .u32 2, .int .i64 0, .int .i64 1, .int .i64 (fineO a).baud, .int .i64 (fineO a).silent, .int .i64 (fineO a).win, .int .i64 (fineO a).size, .int .i64 (fineO a).wait]]) (
.ob (9 = 9 ∧ 0 ≤ (0 : Int) ∧ (0 : Int) < ((1 : Nat) : Int)) (
.ob (Gw.lenStr (.str (setupStr ⟨1, 2, 0, 1, (fineO a)⟩)) = some (.int .i64 25)) (
.ob (Gw.lenStr (.str (setupStr ⟨1, 2, 0, 1, (fineO a)⟩)) = some (.int .i64 25)) (
.ob (((V.beq (.str (setupStr ⟨1, 2, 0, 1, (fineO a)⟩)) (.str (setupStr ⟨1, 2, 0, 1, (fineO a)⟩))) && ((V.beq (.bool true) (.bool true)) && ((V.beq (.agg [.int .i64 127, .int .i64 255]) (.agg [.int .i64 127, .int .i64 255])) && true))) = true) (
.ob (((V.beq (.int .i64 2) (.int .i64 2)) && true) = true) (
.ob (((V.beq (.agg [.int .i64 127, .int .i64 255, .bool true, .int .i64 3, .int .i64 2, .int .i64 0, .int .i64 0, .bool true, .str (setupStr ⟨1, 2, 0, 1, (fineO a)⟩)]) (.agg [.int .i64 127, .int .i64 255, .bool true, .int .i64 3, .int .i64 2, .int .i64 0, .int .i64 0, .bool true, .str (setupStr ⟨1, 2, 0, 1, (fineO a)⟩)])) && true) = true) (
.ob (((eqV (.agg [.i, .i, .b, .i, .i, .i, .i, .b, .s]) (.agg [.int .i64 127, .int .i64 255, .bool true, .int .i64 3, .int .i64 2, .int .i64 0, .int .i64 0, .bool true, .str (setupStr ⟨1, 2, 0, 1, (fineO a)⟩)]) (.agg [.int .i64 127, .int .i64 255, .bool true, .int .i64 3, .int .i64 2, .int .i64 0, .int .i64 0, .bool true, .str (setupStr ⟨1, 2, 0, 1, (fineO a)⟩)])).map fun b => V.bool (if true then !b else b)) = some (.bool false)) (
.ob (((V.beq (.agg [.int .i64 127, .int .i64 255]) (.agg [.int .i64 127, .int .i64 255])) && true) = true) (
.ob (True) (
.ob (dGet [.str (setupStr ⟨1, 2, 0, 1, (fineO a)⟩)]) (
.ob (pGet [.str (setupStr ⟨1, 2, 0, 1, (fineO a)⟩)] = (.tup [.agg [.int .u32 1, .int .u32 2, .int .i64 0, .int .i64 1, .int .i64 (fineO a).baud, .int .i64 (fineO a).silent, .int .i64 (fineO a).win, .int .i64 (fineO a).size, .int .i64 (fineO a).wait], .bool true])) (
.ob (dDeal [.agg (fineO b).vs, .agg (fineO a).vs]) (
.ob (pDeal [.agg (fineO b).vs, .agg (fineO a).vs] = (.tup [.agg (dv b a 2), .bool true])) (
.ob (((V.beq (.int .i64 (dealL (fineO b) (fineO a)).size) (.int .i64 (dealL (fineO b) (fineO a)).size)) && true) = true) (
.ob (((V.beq (.int .i64 (dealL (fineO b) (fineO a)).size) (.int .i64 (dealL (fineO b) (fineO a)).size)) && true) = true) (
.ob (((V.beq (.agg (dv b a 2)) (.agg (dv b a 2))) && ((V.beq (.agg [.int .i64 0, .int .i64 1]) (.agg [.int .i64 0, .int .i64 1])) && true)) = true) (
.ob (((V.beq (.agg (dv b a 2)) (.agg (dv b a 2))) && ((V.beq (.agg [.int .i64 0, .int .i64 1]) (.agg [.int .i64 0, .int .i64 1])) && true)) = true) (
.ob (((V.beq (.agg (dv b a 2)) (.agg (dv b a 2))) && ((V.beq (.agg [.int .i64 0, .int .i64 1]) (.agg [.int .i64 0, .int .i64 1])) && true)) = true) (
.ob (((V.beq (.agg (dv b a 2)) (.agg (dv b a 2))) && true) = true) (
.ob (((V.beq (.int .i64 2) (.int .i64 2)) && true) = true) (
.ob (((V.beq (.int .i64 2) (.int .i64 2)) && true) = true) (
.ob (((V.beq (.int .i64 2) (.int .i64 2)) && true) = true) (
.ob (dPut [.agg [.int .u32 2, .int .u32 1, .int .i64 0, .int .i64 1, .int .i64 (fineO b).baud, .int .i64 (fineO b).silent, .int .i64 (fineO b).win, .int .i64 (fineO b).size, .int .i64 (fineO b).wait]]) (
.ob (9 = 9 ∧ 0 ≤ (0 : Int) ∧ (0 : Int) < ((1 : Nat) : Int)) (
.ob (Gw.lenStr (.str (setupStr ⟨2, 1, 0, 1, (fineO b)⟩)) = some (.int .i64 25)) (
.ob (Gw.lenStr (.str (setupStr ⟨2, 1, 0, 1, (fineO b)⟩)) = some (.int .i64 25)) (
.ob (((V.beq (.str (setupStr ⟨2, 1, 0, 1, (fineO b)⟩)) (.str (setupStr ⟨2, 1, 0, 1, (fineO b)⟩))) && ((V.beq (.bool false) (.bool false)) && ((V.beq (.agg [.int .i64 127, .int .i64 255]) (.agg [.int .i64 127, .int .i64 255])) && true))) = true) (
.ob (((V.beq (.int .i64 3) (.int .i64 3)) && true) = true) (
.ob (((V.beq (.agg [.int .i64 127, .int .i64 255, .bool false, .int .i64 3, .int .i64 3, .int .i64 0, .int .i64 0, .bool true, .str (setupStr ⟨2, 1, 0, 1, (fineO b)⟩)]) (.agg [.int .i64 127, .int .i64 255, .bool false, .int .i64 3, .int .i64 3, .int .i64 0, .int .i64 0, .bool true, .str (setupStr ⟨2, 1, 0, 1, (fineO b)⟩)])) && true) = true) (
.ob (((eqV (.agg [.i, .i, .b, .i, .i, .i, .i, .b, .s]) (.agg [.int .i64 127, .int .i64 255, .bool false, .int .i64 3, .int .i64 3, .int .i64 0, .int .i64 0, .bool true, .str (setupStr ⟨2, 1, 0, 1, (fineO b)⟩)]) (.agg [.int .i64 127, .int .i64 255, .bool false, .int .i64 3, .int .i64 3, .int .i64 0, .int .i64 0, .bool true, .str (setupStr ⟨2, 1, 0, 1, (fineO b)⟩)])).map fun b => V.bool (if true then !b else b)) = some (.bool false)) (
.ob (((V.beq (.agg [.int .i64 127, .int .i64 255]) (.agg [.int .i64 127, .int .i64 255])) && true) = true) (
.ob (True) (
.ob (dGet [.str (setupStr ⟨2, 1, 0, 1, (fineO b)⟩)]) (
.ob (pGet [.str (setupStr ⟨2, 1, 0, 1, (fineO b)⟩)] = (.tup [.agg [.int .u32 2, .int .u32 1, .int .i64 0, .int .i64 1, .int .i64 (fineO b).baud, .int .i64 (fineO b).silent, .int .i64 (fineO b).win, .int .i64 (fineO b).size, .int .i64 (fineO b).wait], .bool true])) (
.ob (dDeal [.agg (fineO a).vs, .agg (fineO b).vs]) (
.ob (pDeal [.agg (fineO a).vs, .agg (fineO b).vs] = (.tup [.agg (dv a b 1), .bool true])) (
.ob (True) (
.ob (((V.beq (.int .i64 (dealL (fineO a) (fineO b)).size) (.int .i64 (dealL (fineO a) (fineO b)).size)) && true) = true) (
.ob (((V.beq (.int .i64 (dealL (fineO a) (fineO b)).size) (.int .i64 (dealL (fineO a) (fineO b)).size)) && true) = true) (
.ob (((V.beq (.agg (dv a b 1)) (.agg (dv a b 1))) && ((V.beq (.agg [.int .i64 0, .int .i64 1]) (.agg [.int .i64 0, .int .i64 1])) && true)) = true) (
.ob (((V.beq (.agg (dv a b 1)) (.agg (dv a b 1))) && ((V.beq (.agg [.int .i64 0, .int .i64 1]) (.agg [.int .i64 0, .int .i64 1])) && true)) = true) (
.ob (((V.beq (.agg (dv a b 1)) (.agg (dv a b 1))) && ((V.beq (.agg [.int .i64 0, .int .i64 1]) (.agg [.int .i64 0, .int .i64 1])) && true)) = true) (
.ob (((V.beq (.agg (dv a b 1)) (.agg (dv a b 1))) && true) = true) (
.ob (((V.beq (.int .i64 1) (.int .i64 1)) && true) = true) (
.ob (((V.beq (.int .i64 1) (.int .i64 1)) && true) = true) (
.ob (((V.beq (.int .i64 1) (.int .i64 1)) && true) = true) (
.ob ((SNLinkPoll2_1 a b (.int .i64 0) (.int .i64 0) (.int .i64 1) (.int .i64 0) (.int .i64 1) (.int .i64 0) (.bool true) : Snap) = (loopLinkPoll2_1 a b).S (.c0 0)) (
.ob (invLinkPoll2_1 (.c0 0)) (
.ob (IntKind.i64 = IntKind.i64 ∧ (70 : Int) ≠ 0) (
.leaf (.bool true)))))))))))))))))))))))))))))))))))))))))))))))))))))))))))))))
set_option maxRecDepth 1000000 in
theorem treeLinkPoll2_1_eq (a : Gw.Offer) (b : Gw.Offer) : funT (mkXT (noPX) (oxLinkPoll2_1 a b)) (mkXP (noPX)) (mkX (noPX) (oxLinkPoll2_1 a b)) D (fun g => match g with | 113 => (fun k => match k with | 38 => some fun t h => (match h.n with | 93 => (.int .i64 25, h) | 112 => (.int .i64 25, h) | 253 => (.int .i64 25, h) | _ => (.int .i64 25, h)) | _ => none) | 77 => (fun k => match k with | 52 => some fun t h => (match h.n with | 128 => (.bool false, h) | _ => (.bool false, h)) | _ => none) | _ => noOrc) (fun k => match k with | 11 => [14, 94] | 21 => [31, 41, 49, 60, 69, 72, 76] | 22 => [10, 15, 20, 25, 30, 31, 37, 41, 50, 57] | 26 => [15, 22, 31, 52, 58] | 35 => [8, 11, 15, 19, 23] | 39 => [16, 25, 30, 36, 39, 44, 47, 57, 67, 82, 86, 99] | 56 => [10, 33, 40, 44, 49] | 60 => [8, 25, 32] | 62 => [28, 30] | 77 => [8, 15, 26, 37, 41, 46, 52] | 81 => [14, 20, 28] | 82 => [13] | 107 => [10] | 113 => [11, 16, 20, 25, 30, 34, 39] | 114 => [8, 14, 19, 24, 34, 44] | 146 => [6, 9, 20] | 165 => [8, 19, 30, 34, 38] | 166 => [8, 13, 18, 21] | _ => []) 12 noOrc [14, 94] (ltLinkPoll2_1 a b) (dOf 11) [.agg a.vs, .agg b.vs] (tabH kT0 kT1 kT2 3) (fun v _ => v) = treeLinkPoll2_1 a b := by kernel_rfl
theorem satLinkPoll2_1 (a : Gw.Offer) (b : Gw.Offer) (hwa : loL (fineO a).wait = 2) (hwb : loL (fineO b).wait = 1) : (treeLinkPoll2_1 a b).sat fun v => v = .bool true :=
 sat_ob trivial (
sat_ob (by simp only [V.beq_refl, Bool.and_true]) (
sat_ob trivial (
sat_ob trivial (
sat_ob (pMay_fine a) (
sat_ob (by simp only [V.beq_refl, Bool.and_true]) (
sat_ob trivial (
sat_ob (pMay_fine b) (
sat_ob trivial (
sat_ob (by decide) (
sat_ob (by simp only [V.beq_refl, Bool.and_true]) (
sat_ob (by simp only [V.beq_refl, Bool.and_true]) (
sat_ob (okSet 1 2 0 1 a (by decide) (by decide) (by decide) (by decide)) (
sat_ob (by decide) (
sat_ob rfl (
sat_ob rfl (
sat_ob (by simp only [V.beq_refl, Bool.and_true]) (
sat_ob (by simp only [V.beq_refl, Bool.and_true]) (
sat_ob (by simp only [V.beq_refl, Bool.and_true]) (
sat_ob (by simp [eqV, eqCells]) (
sat_ob (by simp only [V.beq_refl, Bool.and_true]) (
sat_ob trivial (
sat_ob ⟨⟨1, 2, 0, 1, (fineO a)⟩, (okSet 1 2 0 1 a (by decide) (by decide) (by decide) (by decide)), rfl⟩ (
sat_ob (get_put ⟨1, 2, 0, 1, (fineO a)⟩ (okSet 1 2 0 1 a (by decide) (by decide) (by decide) (by decide))) (
sat_ob ⟨mayO_fine b, mayO_fine a⟩ (
sat_ob (by show V.tup [.agg [.int .i64 _, .int .i64 _, .int .i64 _, .int .i64 _, .int .i64 (loL (fineO a).wait)], .bool true] = _; rw [hwa]; rfl) (
sat_ob (by simp only [V.beq_refl, Bool.and_true]) (
sat_ob (by simp only [V.beq_refl, Bool.and_true]) (
sat_ob (by simp only [V.beq_refl, Bool.and_true]) (
sat_ob (by simp only [V.beq_refl, Bool.and_true]) (
sat_ob (by simp only [V.beq_refl, Bool.and_true]) (
sat_ob (by simp only [V.beq_refl, Bool.and_true]) (
sat_ob (by simp only [V.beq_refl, Bool.and_true]) (
sat_ob (by simp only [V.beq_refl, Bool.and_true]) (
sat_ob (by simp only [V.beq_refl, Bool.and_true]) (
sat_ob (okSet 2 1 0 1 b (by decide) (by decide) (by decide) (by decide)) (
sat_ob (by decide) (
sat_ob rfl (
sat_ob rfl (
sat_ob (by simp only [V.beq_refl, Bool.and_true]) (
sat_ob (by simp only [V.beq_refl, Bool.and_true]) (
sat_ob (by simp only [V.beq_refl, Bool.and_true]) (
sat_ob (by simp [eqV, eqCells]) (
sat_ob (by simp only [V.beq_refl, Bool.and_true]) (
sat_ob trivial (
sat_ob ⟨⟨2, 1, 0, 1, (fineO b)⟩, (okSet 2 1 0 1 b (by decide) (by decide) (by decide) (by decide)), rfl⟩ (
sat_ob (get_put ⟨2, 1, 0, 1, (fineO b)⟩ (okSet 2 1 0 1 b (by decide) (by decide) (by decide) (by decide))) (
sat_ob ⟨mayO_fine a, mayO_fine b⟩ (
sat_ob (by show V.tup [.agg [.int .i64 _, .int .i64 _, .int .i64 _, .int .i64 _, .int .i64 (loL (fineO b).wait)], .bool true] = _; rw [hwb]; rfl) (
sat_ob trivial (
sat_ob (by simp only [V.beq_refl, Bool.and_true]) (
sat_ob (by simp only [V.beq_refl, Bool.and_true]) (
sat_ob (by simp only [V.beq_refl, Bool.and_true]) (
sat_ob (by simp only [V.beq_refl, Bool.and_true]) (
sat_ob (by simp only [V.beq_refl, Bool.and_true]) (
sat_ob (by simp only [V.beq_refl, Bool.and_true]) (
sat_ob (by simp only [V.beq_refl, Bool.and_true]) (
sat_ob (by simp only [V.beq_refl, Bool.and_true]) (
sat_ob (by simp only [V.beq_refl, Bool.and_true]) (
sat_ob (by kernel_rfl) (
sat_ob (show 0 < 1 by decide) (
sat_ob (by decide) (
sat_leaf (rfl)))))))))))))))))))))))))))))))))))))))))))))))))))))))))))))))
theorem loopsLinkPoll2_1 : loopsIn 0 (dOf 11).body = [(0, lpLinkPoll2_1)] := by kernel_rfl
set_option maxRecDepth 1000000 in
theorem runLinkPoll2_1 (a : Gw.Offer) (b : Gw.Offer) (hwa : loL (fineO a).wait = 2) (hwb : loL (fineO b).wait = 1) : Run Tryz.prog 11 [.agg a.vs, .agg b.vs] (tabH kT0 kT1 kT2 3) fun v _ => v = .bool true := by
  refine run_loops mixed (show TabX Tryz.prog noPX (oxLinkPoll2_1 a b) from ((((((TabX.nil.addO ans_begun).addT (ans_fine noV)).addT (ans_may (fun n => match n with | 12 => some (.bool true) | 20 => some (.bool true) | _ => none))).addT (ans_deal (fun n => match n with | 151 => some (.tup [.agg (dv b a 2), .bool true]) | 311 => some (.tup [.agg (dv a b 1), .bool true]) | _ => none))).addT (ans_put noV)).addT (ans_get (fun n => match n with | 138 => some (.tup [.agg [.int .u32 1, .int .u32 2, .int .i64 0, .int .i64 1, .int .i64 (fineO a).baud, .int .i64 (fineO a).silent, .int .i64 (fineO a).win, .int .i64 (fineO a).size, .int .i64 (fineO a).wait], .bool true]) | 298 => some (.tup [.agg [.int .u32 2, .int .u32 1, .int .i64 0, .int .i64 1, .int .i64 (fineO b).baud, .int .i64 (fineO b).silent, .int .i64 (fineO b).win, .int .i64 (fineO b).size, .int .i64 (fineO b).wait], .bool true]) | _ => none)))) tabD (dIs (by kernel_rfl)) (lt := ltLinkPoll2_1 a b) (fun hint p hp => ?_) (treeLinkPoll2_1_eq a b) (satLinkPoll2_1 a b hwa hwb)
  rw [loopsLinkPoll2_1] at hp
  simp only [List.mem_cons, List.not_mem_nil, or_false] at hp
  subst hp
  exact ltLinkPoll2_1_ok a b hwa hwb hint
inductive ILinkPoll2_2
  | c0 (j : Nat)
  | c1 (j : Nat)
  | c2 (j : Nat)
  | c3 (j : Nat)
  | c4 (j : Nat)
  | c5 (j : Nat)
  | c6 (j : Nat)
  | c7 (j : Nat)
  | c8 (j : Nat)
def RWLinkPoll2_2 (a : Gw.Offer) (b : Gw.Offer) (w0 : V) (w1 : V) (w2 : V) (w3 : V) (w4 : V) (w5 : V) (w6 : V) : List (Option Blk) := [some (.cells true (zsV .u8 kT0)), some (.cells true (zsV .u8 kT1)), some (.cells true (zsV .u8 kT2)), some (.cells false a.vs), some (.cells false b.vs), none, some (.cells false (fineO a).vs), some (.cells false (fineO b).vs), none, none, some (.cells false (fineO a).vs), none, none, none, none, none, some (.cells false [.int .u32 1, .int .i64 0, .int .i64 (fineO a).baud, .int .i64 (fineO a).silent, .int .i64 (fineO a).win, .int .i64 (fineO a).size, .int .i64 (fineO a).wait, .int .i64 2, .int .u32 2, .int .i64 0, .int .i64 1, .int .i64 (dealL (fineO a) (fineO b)).baud, .int .i64 200, .int .i64 (dealL (fineO a) (fineO b)).win, .int .i64 (dealL (fineO a) (fineO b)).size, .int .i64 2, .ptr 330 0, .int .i64 1, .int .i64 0, .int .i64 0, .int .i64 0, w3, w4, w5, .bool false, .bool false, .bool false, .nils]), none, some (.cells false (fineO b).vs), none, none, none, none, none, some (.cells false [.int .u32 2, .int .i64 1, .int .i64 (fineO b).baud, .int .i64 (fineO b).silent, .int .i64 (fineO b).win, .int .i64 (fineO b).size, .int .i64 (fineO b).wait, .int .i64 2, .int .u32 1, .int .i64 0, .int .i64 1, .int .i64 (dealL (fineO b) (fineO a)).baud, .int .i64 200, .int .i64 (dealL (fineO b) (fineO a)).win, .int .i64 (dealL (fineO b) (fineO a)).size, .int .i64 2, .ptr 170 0, .int .i64 0, .int .i64 0, .int .i64 0, .int .i64 0, .int .i64 0, .int .i64 0, .int .i64 3, .bool false, .bool false, .bool false, .nils]), none, some (.cells false [.int .i64 2, .int .i64 0, .int .u32 2, .str []]), none, some (.cells false [.int .i64 2, .int .i64 0, .int .u32 2, .str []]), none, none, none, none, some (.cells false [.int .i64 2, .int .i64 0, .int .u32 2, .str []]), none, some (.cells false [.int .i64 0, .int .i64 1]), none, none, none, none, none, none, some (.cells false [.int .i64 127, .int .i64 255, .bool true, .int .i64 3, .int .i64 2, .int .i64 0, .int .i64 0, .bool true, .str (setupStr ⟨1, 2, 0, 1, (fineO a)⟩)]), none, none, some (.cells false [.int .i64 0, .int .i64 1]), some (.cells false [.int .i64 127, .int .i64 255, .bool true, .int .i64 3, .int .i64 2, .int .i64 0, .int .i64 0, .bool true, .str (setupStr ⟨1, 2, 0, 1, (fineO a)⟩)]), some (.cells false [.int .i64 127, .int .i64 255]), some (.cells false [.int .i64 127, .int .i64 255]), some (.cells false [.int .i64 127, .int .i64 255, .bool true, .int .i64 3, .int .i64 2, .int .i64 0, .int .i64 0, .bool true, .str (setupStr ⟨1, 2, 0, 1, (fineO a)⟩)]), none, none, some (.cells false [.int .i64 127, .int .i64 255, .bool true, .int .i64 3, .int .i64 2, .int .i64 0, .int .i64 0, .bool true, .str (setupStr ⟨1, 2, 0, 1, (fineO a)⟩)]), none, some (.cells false [.int .i64 127, .int .i64 255, .bool true, .int .i64 3, .int .i64 2, .int .i64 0, .int .i64 0, .bool true, .str (setupStr ⟨1, 2, 0, 1, (fineO a)⟩)]), none, none, none, none, none, none, some (.cells false [.int .i64 127, .int .i64 255, .bool true, .iface 150 (.agg [.int .i64 2, .bool true]), .str (setupStr ⟨1, 2, 0, 1, (fineO a)⟩)]), none, none, some (.cells false [.int .i64 127, .int .i64 255, .bool true, .int .i64 3, .int .i64 2, .int .i64 0, .int .i64 0, .bool true, .str (setupStr ⟨1, 2, 0, 1, (fineO a)⟩)]), some (.cells false [.int .i64 127, .int .i64 255, .bool true, .iface 150 (.agg [.int .i64 2, .bool true]), .str (setupStr ⟨1, 2, 0, 1, (fineO a)⟩)]), none, none, none, none, none, none, none, none, some (.cells false [.int .i64 127, .int .i64 255, .bool true, .iface 150 (.agg [.int .i64 2, .bool true]), .str (setupStr ⟨1, 2, 0, 1, (fineO a)⟩)]), none, some (.cells false [.int .i64 127, .int .i64 255, .bool true, .iface 150 (.agg [.int .i64 2, .bool true]), .str (setupStr ⟨1, 2, 0, 1, (fineO a)⟩)]), none, none, none, none, none, none, none, some (.cells false [.int .i64 0, .int .i64 0, .bool false]), none, none, none, none, some (.cells false [.int .i64 127, .int .i64 255]), none, some (.cells false [.int .i64 2, .bool true]), none, some (.cells false [.int .i64 127, .int .i64 255, .bool true, .iface 150 (.agg [.int .i64 2, .bool true]), .str (setupStr ⟨1, 2, 0, 1, (fineO a)⟩)]), some (.cells false [.int .i64 127, .int .i64 255, .bool true, .int .i64 3, .int .i64 2, .int .i64 0, .int .i64 0, .bool true, .str (setupStr ⟨1, 2, 0, 1, (fineO a)⟩)]), some (.cells false [.int .i64 127, .int .i64 255, .bool true, .iface 150 (.agg [.int .i64 2, .bool true]), .str (setupStr ⟨1, 2, 0, 1, (fineO a)⟩)]), none, none, none, none, none, none, none, some (.cells false [.int .i64 0, .int .i64 0, .bool false]), none, none, none, none, some (.cells false [.int .i64 127, .int .i64 255]), none, some (.cells false [.int .i64 2, .bool true]), none, none, none, none, none, none, none, none, none, none, none, some (.cells false [.int .i64 127, .int .i64 255, .bool true, .int .i64 3, .int .i64 2, .int .i64 0, .int .i64 0, .bool true, .str (setupStr ⟨1, 2, 0, 1, (fineO a)⟩)]), none, some (.cells false [.int .i64 2, .bool true]), none, some (.cells false [.int .i64 2, .bool true]), none, some (.cells false [.int .i64 127, .int .i64 255]), none, none, none, none, none, none, some (.cells false [.int .u32 1, .int .u32 2, .int .i64 0, .int .i64 1, .int .i64 (fineO a).baud, .int .i64 (fineO a).silent, .int .i64 (fineO a).win, .int .i64 (fineO a).size, .int .i64 (fineO a).wait]), none, none, none, none, none, none, none, none, none, none, none, none, some (.cells false (dv b a 2)), none, none, some (.cells false [.int .u32 1, .int .u32 2, .int .i64 0, .int .i64 1, .int .i64 (fineO a).baud, .int .i64 (fineO a).silent, .int .i64 (fineO a).win, .int .i64 (fineO a).size, .int .i64 (fineO a).wait]), some (.cells false (dv b a 2)), none, some (.cells false [.int .i64 0, .int .i64 1]), some (.cells false (dv b a 2)), none, some (.cells false (dv b a 2)), none, none, none, none, none, none, none, none, none, none, none, none, some (.cells false [.int .i64 2, .int .i64 (if (64 : Int) < (dealL (fineO b) (fineO a)).size then 64 else (dealL (fineO b) (fineO a)).size), .ptr 176 0, .ptr 179 0, .bool false]), none, none, none, none, none, some (.cells false [.int .i64 (if (7 : Int) < (if (1 : Int) > (dealL (fineO b) (fineO a)).win then 1 else (dealL (fineO b) (fineO a)).win) then 7 else (if (1 : Int) > (dealL (fineO b) (fineO a)).win then 1 else (dealL (fineO b) (fineO a)).win)), .nils, .int .i64 0, .int .i64 0]), none, none, some (.cells false [.int .i64 0, .bool false]), none, none, none, none, none, none, none, some (.cells false [.int .i64 2, .int .u32 1, .str [], .nils]), none, some (.cells false [.int .i64 0, .int .i64 1]), some (.cells false [.int .i64 127, .int .i64 255, .bool false, .int .i64 3, .int .i64 3, .int .i64 0, .int .i64 0, .bool true, .str (setupStr ⟨2, 1, 0, 1, (fineO b)⟩)]), some (.cells false [.int .i64 127, .int .i64 255]), some (.cells false [.int .i64 127, .int .i64 255]), some (.cells false [.int .i64 127, .int .i64 255, .bool false, .int .i64 3, .int .i64 3, .int .i64 0, .int .i64 0, .bool true, .str (setupStr ⟨2, 1, 0, 1, (fineO b)⟩)]), some (.cells false [.int .i64 127, .int .i64 255, .bool false, .int .i64 3, .int .i64 3, .int .i64 0, .int .i64 0, .bool true, .str (setupStr ⟨2, 1, 0, 1, (fineO b)⟩)]), none, none, none, some (.cells false [.int .i64 127, .int .i64 255, .bool false, .int .i64 3, .int .i64 3, .int .i64 0, .int .i64 0, .bool true, .str (setupStr ⟨2, 1, 0, 1, (fineO b)⟩)]), none, none, none, none, none, none, none, none, none, none, none, none, none, some (.cells false [.int .i64 127, .int .i64 255, .bool false, .int .i64 3, .int .i64 3, .int .i64 0, .int .i64 0, .bool true, .str (setupStr ⟨2, 1, 0, 1, (fineO b)⟩)]), none, some (.cells false [.int .i64 127, .int .i64 255, .bool false, .int .i64 3, .int .i64 3, .int .i64 0, .int .i64 0, .bool true, .str (setupStr ⟨2, 1, 0, 1, (fineO b)⟩)]), none, none, none, none, none, none, some (.cells false [.int .i64 127, .int .i64 255, .bool false, .iface 150 (.agg [.int .i64 3, .bool true]), .str (setupStr ⟨2, 1, 0, 1, (fineO b)⟩)]), none, none, some (.cells false [.int .i64 127, .int .i64 255, .bool false, .int .i64 3, .int .i64 3, .int .i64 0, .int .i64 0, .bool true, .str (setupStr ⟨2, 1, 0, 1, (fineO b)⟩)]), some (.cells false [.int .i64 127, .int .i64 255, .bool false, .iface 150 (.agg [.int .i64 3, .bool true]), .str (setupStr ⟨2, 1, 0, 1, (fineO b)⟩)]), none, none, none, none, none, none, none, none, some (.cells false [.int .i64 127, .int .i64 255, .bool false, .iface 150 (.agg [.int .i64 3, .bool true]), .str (setupStr ⟨2, 1, 0, 1, (fineO b)⟩)]), none, some (.cells false [.int .i64 127, .int .i64 255, .bool false, .iface 150 (.agg [.int .i64 3, .bool true]), .str (setupStr ⟨2, 1, 0, 1, (fineO b)⟩)]), none, none, none, none, none, none, none, some (.cells false [.int .i64 0, .int .i64 0, .bool false]), none, none, none, none, some (.cells false [.int .i64 127, .int .i64 255]), none, some (.cells false [.int .i64 3, .bool true]), none, some (.cells false [.int .i64 127, .int .i64 255, .bool false, .iface 150 (.agg [.int .i64 3, .bool true]), .str (setupStr ⟨2, 1, 0, 1, (fineO b)⟩)]), some (.cells false [.int .i64 127, .int .i64 255, .bool false, .int .i64 3, .int .i64 3, .int .i64 0, .int .i64 0, .bool true, .str (setupStr ⟨2, 1, 0, 1, (fineO b)⟩)]), some (.cells false [.int .i64 127, .int .i64 255, .bool false, .iface 150 (.agg [.int .i64 3, .bool true]), .str (setupStr ⟨2, 1, 0, 1, (fineO b)⟩)]), none, none, none, none, none, none, none, some (.cells false [.int .i64 0, .int .i64 0, .bool false]), none, none, none, none, some (.cells false [.int .i64 127, .int .i64 255]), none, some (.cells false [.int .i64 3, .bool true]), none, none, none, none, none, none, none, none, none, none, none, some (.cells false [.int .i64 127, .int .i64 255, .bool false, .int .i64 3, .int .i64 3, .int .i64 0, .int .i64 0, .bool true, .str (setupStr ⟨2, 1, 0, 1, (fineO b)⟩)]), none, some (.cells false [.int .i64 3, .bool true]), none, some (.cells false [.int .i64 3, .bool true]), none, some (.cells false [.int .i64 127, .int .i64 255]), none, none, none, none, none, none, some (.cells false [.int .u32 2, .int .u32 1, .int .i64 0, .int .i64 1, .int .i64 (fineO b).baud, .int .i64 (fineO b).silent, .int .i64 (fineO b).win, .int .i64 (fineO b).size, .int .i64 (fineO b).wait]), none, none, none, none, none, none, none, none, none, none, none, none, some (.cells false (dv a b 2)), none, none, some (.cells false [.int .u32 2, .int .u32 1, .int .i64 0, .int .i64 1, .int .i64 (fineO b).baud, .int .i64 (fineO b).silent, .int .i64 (fineO b).win, .int .i64 (fineO b).size, .int .i64 (fineO b).wait]), some (.cells false (dv a b 2)), none, some (.cells false [.int .i64 0, .int .i64 1]), some (.cells false (dv a b 2)), none, some (.cells false (dv a b 2)), none, none, none, none, none, none, none, none, none, none, none, none, some (.cells false [.int .i64 1, .int .i64 (if (64 : Int) < (dealL (fineO a) (fineO b)).size then 64 else (dealL (fineO a) (fineO b)).size), .ptr 336 0, .ptr 339 0, w6]), none, none, none, none, none, some (.cells false [.int .i64 (if (7 : Int) < (if (1 : Int) > (dealL (fineO a) (fineO b)).win then 1 else (dealL (fineO a) (fineO b)).win) then 7 else (if (1 : Int) > (dealL (fineO a) (fineO b)).win then 1 else (dealL (fineO a) (fineO b)).win)), .nils, .int .i64 0, .int .i64 0]), none, none, some (.cells false [.int .i64 0, .bool false]), none, none, none, none, none, none, none, some (.cells false [.int .i64 2, .int .u32 2, .str [], .nils]), none, none, none, some (.cells false (dv a b 2)), none, some (.cells false (dv a b 2))]
def SNLinkPoll2_2 (a : Gw.Offer) (b : Gw.Offer) (w0 : V) (w1 : V) (w2 : V) (w3 : V) (w4 : V) (w5 : V) (w6 : V) : Snap := ([.agg a.vs, .agg b.vs, .ptr 3 0, .ptr 4 0, .bool true, .ptr 16 0, .ptr 351 0, w0, w1, w2, .bool true, .bool true, .bool false, .tup [.ptr 16 0, .ptr 24 0], .agg a.vs, .agg (fineO a).vs, .agg b.vs, .agg (fineO b).vs, .tup [.ptr 16 0, .ptr 24 0], .ptr 16 0, .ptr 24 0, .ptr 16 0, .bool false, .ptr 16 0, .agg (dv a b 2)], RWLinkPoll2_2 a b w0 w1 w2 w3 w4 w5 w6)
def SSLinkPoll2_2 (a : Gw.Offer) (b : Gw.Offer) (i : ILinkPoll2_2) : Snap := match i with
  | .c0 j => SNLinkPoll2_2 a b (.int .i64 0) (.int .i64 0) (.int .i64 1) (.int .i64 0) (.int .i64 2) (.int .i64 0) (.bool true)
  | .c1 j => SNLinkPoll2_2 a b (.int .i64 0) (.int .i64 0) (.int .i64 2) (.int .i64 0) (.int .i64 1) (.int .i64 1) (.bool true)
  | .c2 j => SNLinkPoll2_2 a b (.int .i64 0) (.int .i64 0) (.int .i64 3) (.int .i64 0) (.int .i64 0) (.int .i64 2) (.bool true)
  | .c3 j => SNLinkPoll2_2 a b (.int .i64 3) (.int .i64 1) (.int .i64 (4 + (j : Int))) (.int .i64 (70 - (j : Int))) (.int .i64 0) (.int .i64 (3 + (j : Int))) (.bool false)
  | .c4 j => SNLinkPoll2_2 a b (.int .i64 3) (.int .i64 1) (.int .i64 73) (.int .i64 1) (.int .i64 0) (.int .i64 72) (.bool false)
  | .c5 j => SNLinkPoll2_2 a b (.int .i64 73) (.int .i64 2) (.int .i64 (74 + (j : Int))) (.int .i64 (70 - (j : Int))) (.int .i64 0) (.int .i64 (73 + (j : Int))) (.bool false)
  | .c6 j => SNLinkPoll2_2 a b (.int .i64 73) (.int .i64 2) (.int .i64 143) (.int .i64 1) (.int .i64 0) (.int .i64 142) (.bool false)
  | .c7 j => SNLinkPoll2_2 a b (.int .i64 143) (.int .i64 3) (.int .i64 (144 + (j : Int))) (.int .i64 (70 - (j : Int))) (.int .i64 0) (.int .i64 (143 + (j : Int))) (.bool false)
  | .c8 j => SNLinkPoll2_2 a b (.int .i64 143) (.int .i64 3) (.int .i64 200) (.int .i64 14) (.int .i64 0) (.int .i64 199) (.bool false)
def XLinkPoll2_2 (a : Gw.Offer) (b : Gw.Offer) : Snap := ([.agg a.vs, .agg b.vs, .ptr 3 0, .ptr 4 0, .bool true, .ptr 16 0, .ptr 351 0, .int .i64 3, .bool true, .bool true, .bool false, .tup [.ptr 16 0, .ptr 24 0], .agg a.vs, .agg (fineO a).vs, .agg b.vs, .agg (fineO b).vs, .tup [.ptr 16 0, .ptr 24 0], .ptr 16 0, .ptr 24 0, .ptr 16 0, .bool false, .ptr 16 0, .agg (dv a b 2)], RWLinkPoll2_2 a b (.int .i64 0) (.int .i64 0) (.int .i64 1) (.int .i64 14) (.int .i64 0) (.int .i64 199) (.bool false))
def invLinkPoll2_2 (i : ILinkPoll2_2) : Prop := match i with
  | .c0 j => j < 1
  | .c1 j => j < 1
  | .c2 j => j < 1
  | .c3 j => j < 69
  | .c4 j => j < 1
  | .c5 j => j < 69
  | .c6 j => j < 1
  | .c7 j => j < 56
  | .c8 j => j < 1
def muLinkPoll2_2 (i : ILinkPoll2_2) : Nat := match i with
  | .c0 j => 200 - (0 + j)
  | .c1 j => 200 - (1 + j)
  | .c2 j => 200 - (2 + j)
  | .c3 j => 200 - (3 + j)
  | .c4 j => 200 - (72 + j)
  | .c5 j => 200 - (73 + j)
  | .c6 j => 200 - (142 + j)
  | .c7 j => 200 - (143 + j)
  | .c8 j => 200 - (199 + j)
def loopLinkPoll2_2 (a : Gw.Offer) (b : Gw.Offer) : LoopD ILinkPoll2_2 where
  nt := 95
  fr := fun ex => match ex with | .normal => ⟨[0, 1, 2, 3, 5, 6, 8, 9, 10, 11, 14, 15, 16, 17, 18, 19, 20, 21, 22, 23, 24, 25, 26, 27, 28], 354, []⟩ | .exit _ => ⟨[0, 1, 2, 3, 5, 6, 8, 10, 14, 15, 16, 17, 18, 19, 20, 21, 22, 23, 24, 25, 26, 27, 28], 354, []⟩ | .ret => ⟨[], 354, []⟩
  S := SSLinkPoll2_2 a b
  out := fun i => .ob (invLinkPoll2_2 i) (.leaf ((.exit 0), XLinkPoll2_2 a b))
  pick := fun _ => .c0 0
def ltLinkPoll2_2 (a : Gw.Offer) (b : Gw.Offer) : Lt := fun k => match k with | 0 => (loopLinkPoll2_2 a b).lt | _ => fun _ _ => .fail
def lpLinkPoll2_2 : DC := (((loopsIn 0 (dOf 11).body)[0]?).getD (0, .skip)).2
def orcLinkPoll2_2 (a : Gw.Offer) (b : Gw.Offer) (i : ILinkPoll2_2) : Orc := match i with
  | .c0 j => noOrc
  | .c1 j => noOrc
  | .c2 j => noOrc
  | .c3 j => (fun k => match k with | 32 => some fun t h => (.bool true, h) | 34 => some fun t h => (.int .i64 (5 + (j : Int)), h) | _ => none)
  | .c4 j => noOrc
  | .c5 j => (fun k => match k with | 32 => some fun t h => (.bool true, h) | 34 => some fun t h => (.int .i64 (75 + (j : Int)), h) | _ => none)
  | .c6 j => noOrc
  | .c7 j => (fun k => match k with | 32 => some fun t h => (.bool true, h) | 34 => some fun t h => (.int .i64 (145 + (j : Int)), h) | _ => none)
  | .c8 j => noOrc
def orcsLinkPoll2_2 (a : Gw.Offer) (b : Gw.Offer) (i : ILinkPoll2_2) : Nat → Orc := match i with
  | .c0 j => (fun _ => noOrc)
  | .c1 j => (fun _ => noOrc)
  | .c2 j => (fun g => match g with | 147 => (fun k => match k with | 18 => some fun t h => (.int .i64 0, h) | _ => none) | _ => noOrc)
  | .c3 j => (fun g => match g with | 60 => (fun k => match k with | 13 => some fun t h => (.int .i64 (4 + (j : Int)), h) | 25 => some fun t h => (.bool false, h) | 32 => some fun t h => (.bool false, h) | 37 => some fun t h => (.int .i64 (69 - (j : Int)), h) | 44 => some fun t h => (.bool true, h) | _ => none) | _ => noOrc)
  | .c4 j => (fun g => match g with | 147 => (fun k => match k with | 18 => some fun t h => (.int .i64 0, h) | _ => none) | _ => noOrc)
  | .c5 j => (fun g => match g with | 60 => (fun k => match k with | 13 => some fun t h => (.int .i64 (74 + (j : Int)), h) | 25 => some fun t h => (.bool false, h) | 32 => some fun t h => (.bool false, h) | 37 => some fun t h => (.int .i64 (69 - (j : Int)), h) | 44 => some fun t h => (.bool true, h) | _ => none) | _ => noOrc)
  | .c6 j => (fun g => match g with | 147 => (fun k => match k with | 18 => some fun t h => (.int .i64 0, h) | _ => none) | _ => noOrc)
  | .c7 j => (fun g => match g with | 60 => (fun k => match k with | 13 => some fun t h => (.int .i64 (144 + (j : Int)), h) | 25 => some fun t h => (.bool false, h) | 32 => some fun t h => (.bool false, h) | 37 => some fun t h => (.int .i64 (69 - (j : Int)), h) | 44 => some fun t h => (.bool true, h) | _ => none) | _ => noOrc)
  | .c8 j => (fun _ => noOrc)
def stsLinkPoll2_2 (i : ILinkPoll2_2) : Nat → List Nat := match i with
  | .c0 j => (fun k => match k with | 11 => [32, 42, 45] | 26 => [15, 22] | 60 => [8, 25, 32] | _ => [])
  | .c1 j => (fun k => match k with | 11 => [32, 42, 45] | 26 => [15, 22] | 60 => [8, 25, 32] | _ => [])
  | .c2 j => (fun k => match k with | 11 => [32, 42, 45, 48, 53, 60, 70, 74] | 26 => [15, 22, 31, 52, 74, 80, 86, 96] | 60 => [8, 25, 32] | 63 => [9] | 65 => [7, 20, 34] | 108 => [11, 17, 34, 60] | 109 => [13] | 147 => [30] | 152 => [9] | _ => [])
  | .c3 j => (fun k => match k with | 11 => [32, 42, 45] | 26 => [15, 22, 31, 52, 74, 80] | 60 => [8, 25, 32, 44] | 63 => [9] | _ => [])
  | .c4 j => (fun k => match k with | 11 => [32, 42, 45, 48, 53, 60, 70, 74, 79] | 26 => [15, 22, 31, 52, 74, 80, 86, 96] | 60 => [8, 25, 32, 44, 49, 55, 68, 73, 78] | 63 => [9] | 65 => [7, 20, 34] | 105 => [9, 16] | 108 => [11, 17, 34, 60] | 109 => [13] | 147 => [30] | 152 => [9] | _ => [])
  | .c5 j => (fun k => match k with | 11 => [32, 42, 45] | 26 => [15, 22, 31, 52, 74, 80] | 60 => [8, 25, 32, 44] | 63 => [9] | _ => [])
  | .c6 j => (fun k => match k with | 11 => [32, 42, 45, 48, 53, 60, 70, 74, 79] | 26 => [15, 22, 31, 52, 74, 80, 86, 96] | 60 => [8, 25, 32, 44, 49, 55, 68, 73, 78] | 63 => [9] | 65 => [7, 20, 34] | 105 => [9, 16] | 108 => [11, 17, 34, 60] | 109 => [13] | 147 => [30] | 152 => [9] | _ => [])
  | .c7 j => (fun k => match k with | 11 => [32, 42, 45] | 26 => [15, 22, 31, 52, 74, 80] | 60 => [8, 25, 32, 44] | 63 => [9] | _ => [])
  | .c8 j => (fun k => match k with | 11 => [32] | _ => [])
def stLinkPoll2_2 (i : ILinkPoll2_2) : List Nat := match i with
  | .c0 j => [32, 42, 45]
  | .c1 j => [32, 42, 45]
  | .c2 j => [32, 42, 45, 48, 53, 60, 70, 74]
  | .c3 j => [32, 42, 45]
  | .c4 j => [32, 42, 45, 48, 53, 60, 70, 74, 79]
  | .c5 j => [32, 42, 45]
  | .c6 j => [32, 42, 45, 48, 53, 60, 70, 74, 79]
  | .c7 j => [32, 42, 45]
  | .c8 j => [32]
def treeLinkPoll2_2_0 (a : Gw.Offer) (b : Gw.Offer) (j : Nat) : DT (Ex × Snap) :=
  .leaf (.normal, SNLinkPoll2_2 a b (.int .i64 0) (.int .i64 0) (.int .i64 2) (.int .i64 0) (.int .i64 1) (.int .i64 1) (.bool true))
set_option maxRecDepth 1000000 in
theorem treeLinkPoll2_2_0_eq (a : Gw.Offer) (b : Gw.Offer) (j : Nat) : codeT (callT (mkXT noPX oxM) (mkXP noPX) (mkX noPX oxM) D (orcsLinkPoll2_2 a b (.c0 j)) (stsLinkPoll2_2 (.c0 j)) 13) (callN (mkX noPX oxM) D 13) (mkXP noPX) (orcLinkPoll2_2 a b (.c0 j)) (stLinkPoll2_2 (.c0 j)) noLt 0 lpLinkPoll2_2 ((loopLinkPoll2_2 a b).t0 (.c0 j)) [] ((loopLinkPoll2_2 a b).h0 (.c0 j)) (loopLinkPoll2_2 a b).end_ = treeLinkPoll2_2_0 a b j := by kernel_rfl
def treeLinkPoll2_2_1 (a : Gw.Offer) (b : Gw.Offer) (j : Nat) : DT (Ex × Snap) :=
  .leaf (.normal, SNLinkPoll2_2 a b (.int .i64 0) (.int .i64 0) (.int .i64 3) (.int .i64 0) (.int .i64 0) (.int .i64 2) (.bool true))
set_option maxRecDepth 1000000 in
theorem treeLinkPoll2_2_1_eq (a : Gw.Offer) (b : Gw.Offer) (j : Nat) : codeT (callT (mkXT noPX oxM) (mkXP noPX) (mkX noPX oxM) D (orcsLinkPoll2_2 a b (.c1 j)) (stsLinkPoll2_2 (.c1 j)) 13) (callN (mkX noPX oxM) D 13) (mkXP noPX) (orcLinkPoll2_2 a b (.c1 j)) (stLinkPoll2_2 (.c1 j)) noLt 0 lpLinkPoll2_2 ((loopLinkPoll2_2 a b).t0 (.c1 j)) [] ((loopLinkPoll2_2 a b).h0 (.c1 j)) (loopLinkPoll2_2 a b).end_ = treeLinkPoll2_2_1 a b j := by kernel_rfl
def treeLinkPoll2_2_2 (a : Gw.Offer) (b : Gw.Offer) (j : Nat) : DT (Ex × Snap) :=
  .ob (((V.beq (.int .i64 1) (.int .i64 1)) && true) = true) (
.ob (minV (.int .i64 (if (7 : Int) < (if (1 : Int) > (dealL (fineO a) (fineO b)).win then 1 else (dealL (fineO a) (fineO b)).win) then 7 else (if (1 : Int) > (dealL (fineO a) (fineO b)).win then 1 else (dealL (fineO a) (fineO b)).win))) [(.int .i64 0)] = some (.int .i64 0)) (
.ob ((0 ≤ (0 : Int) ∧ (0 : Int) ≤ ((0 : Nat) : Int)) ∧ (True)) (
.ob ((9 = 9 ∧ ([.int .i64 0, .int .i64 0, .bool true, .int .i64 2, .int .i64 0, .int .i64 0, .int .i64 0, .bool false, .str []] : List V).length = 1 * 9) ∧ allOne [.int .i64 0, .int .i64 0, .bool true, .int .i64 2, .int .i64 0, .int .i64 0, .int .i64 0, .bool false, .str []] = true ∧ 1 * 80 ≤ 70368744177664) (
.ob (9 = 9 ∧ 0 ≤ (0 : Int) ∧ (0 : Int) < ((1 : Nat) : Int)) (
.ob (9 = 9 ∧ 0 ≤ (0 : Int) ∧ (0 : Int) < ((1 : Nat) : Int)) (
.ob (9 = 9 ∧ 0 ≤ (0 : Int) ∧ (0 : Int) < ((1 : Nat) : Int)) (
.ob (9 = 9 ∧ 0 ≤ (0 : Int) ∧ (0 : Int) < ((1 : Nat) : Int)) (
.ob (9 = 9 ∧ 0 ≤ (0 : Int) ∧ (0 : Int) < ((1 : Nat) : Int)) (
.ob (((V.beq (.agg [.int .i64 0, .int .i64 1]) (.agg [.int .i64 0, .int .i64 1])) && true) = true) (
.ob (True) (
.leaf (.normal, SNLinkPoll2_2 a b (.int .i64 3) (.int .i64 1) (.int .i64 4) (.int .i64 70) (.int .i64 0) (.int .i64 3) (.bool false)))))))))))))
set_option maxRecDepth 1000000 in
theorem treeLinkPoll2_2_2_eq (a : Gw.Offer) (b : Gw.Offer) (j : Nat) : codeT (callT (mkXT noPX oxM) (mkXP noPX) (mkX noPX oxM) D (orcsLinkPoll2_2 a b (.c2 j)) (stsLinkPoll2_2 (.c2 j)) 13) (callN (mkX noPX oxM) D 13) (mkXP noPX) (orcLinkPoll2_2 a b (.c2 j)) (stLinkPoll2_2 (.c2 j)) noLt 0 lpLinkPoll2_2 ((loopLinkPoll2_2 a b).t0 (.c2 j)) [] ((loopLinkPoll2_2 a b).h0 (.c2 j)) (loopLinkPoll2_2 a b).end_ = treeLinkPoll2_2_2 a b j := by kernel_rfl
def treeLinkPoll2_2_3 (a : Gw.Offer) (b : Gw.Offer) (j : Nat) : DT (Ex × Snap) :=
  .ob (binV .lss (.int .i64 (4 + (j : Int))) (.int .i64 200) = some (.bool true)) (
.ob (binV .add (.int .i64 (3 + (j : Int))) (.int .i64 1) = some (.int .i64 (4 + (j : Int)))) (
.ob (binV .geq (.int .i64 (4 + (j : Int))) (.int .i64 200) = some (.bool false)) (
.ob (binV .eql (.int .i64 (70 - (j : Int))) (.int .i64 0) = some (.bool false)) (
.ob (binV .sub (.int .i64 (70 - (j : Int))) (.int .i64 1) = some (.int .i64 (69 - (j : Int)))) (
.ob (binV .gtr (.int .i64 (69 - (j : Int))) (.int .i64 0) = some (.bool true)) (
.ob (binV .add (.int .i64 (4 + (j : Int))) (.int .i64 1) = some (.int .i64 (5 + (j : Int)))) (
.leaf (.normal, SNLinkPoll2_2 a b (.int .i64 3) (.int .i64 1) (.int .i64 (5 + (j : Int))) (.int .i64 (69 - (j : Int))) (.int .i64 0) (.int .i64 (4 + (j : Int))) (.bool false)))))))))
set_option maxRecDepth 1000000 in
theorem treeLinkPoll2_2_3_eq (a : Gw.Offer) (b : Gw.Offer) (j : Nat) : codeT (callT (mkXT noPX oxM) (mkXP noPX) (mkX noPX oxM) D (orcsLinkPoll2_2 a b (.c3 j)) (stsLinkPoll2_2 (.c3 j)) 13) (callN (mkX noPX oxM) D 13) (mkXP noPX) (orcLinkPoll2_2 a b (.c3 j)) (stLinkPoll2_2 (.c3 j)) noLt 0 lpLinkPoll2_2 ((loopLinkPoll2_2 a b).t0 (.c3 j)) [] ((loopLinkPoll2_2 a b).h0 (.c3 j)) (loopLinkPoll2_2 a b).end_ = treeLinkPoll2_2_3 a b j := by kernel_rfl
def treeLinkPoll2_2_4 (a : Gw.Offer) (b : Gw.Offer) (j : Nat) : DT (Ex × Snap) :=
  .ob (((V.beq (.int .i64 1) (.int .i64 1)) && true) = true) (
.ob (minV (.int .i64 (if (7 : Int) < (if (1 : Int) > (dealL (fineO a) (fineO b)).win then 1 else (dealL (fineO a) (fineO b)).win) then 7 else (if (1 : Int) > (dealL (fineO a) (fineO b)).win then 1 else (dealL (fineO a) (fineO b)).win))) [(.int .i64 0)] = some (.int .i64 0)) (
.ob ((0 ≤ (0 : Int) ∧ (0 : Int) ≤ ((0 : Nat) : Int)) ∧ (True)) (
.ob ((9 = 9 ∧ ([.int .i64 0, .int .i64 0, .bool true, .int .i64 2, .int .i64 0, .int .i64 0, .int .i64 0, .bool false, .str []] : List V).length = 1 * 9) ∧ allOne [.int .i64 0, .int .i64 0, .bool true, .int .i64 2, .int .i64 0, .int .i64 0, .int .i64 0, .bool false, .str []] = true ∧ 1 * 80 ≤ 70368744177664) (
.ob (9 = 9 ∧ 0 ≤ (0 : Int) ∧ (0 : Int) < ((1 : Nat) : Int)) (
.ob (9 = 9 ∧ 0 ≤ (0 : Int) ∧ (0 : Int) < ((1 : Nat) : Int)) (
.ob (9 = 9 ∧ 0 ≤ (0 : Int) ∧ (0 : Int) < ((1 : Nat) : Int)) (
.ob (9 = 9 ∧ 0 ≤ (0 : Int) ∧ (0 : Int) < ((1 : Nat) : Int)) (
.ob (9 = 9 ∧ 0 ≤ (0 : Int) ∧ (0 : Int) < ((1 : Nat) : Int)) (
.ob (((V.beq (.agg [.int .i64 0, .int .i64 1]) (.agg [.int .i64 0, .int .i64 1])) && true) = true) (
.ob (True) (
.leaf (.normal, SNLinkPoll2_2 a b (.int .i64 73) (.int .i64 2) (.int .i64 74) (.int .i64 70) (.int .i64 0) (.int .i64 73) (.bool false)))))))))))))
set_option maxRecDepth 1000000 in
theorem treeLinkPoll2_2_4_eq (a : Gw.Offer) (b : Gw.Offer) (j : Nat) : codeT (callT (mkXT noPX oxM) (mkXP noPX) (mkX noPX oxM) D (orcsLinkPoll2_2 a b (.c4 j)) (stsLinkPoll2_2 (.c4 j)) 13) (callN (mkX noPX oxM) D 13) (mkXP noPX) (orcLinkPoll2_2 a b (.c4 j)) (stLinkPoll2_2 (.c4 j)) noLt 0 lpLinkPoll2_2 ((loopLinkPoll2_2 a b).t0 (.c4 j)) [] ((loopLinkPoll2_2 a b).h0 (.c4 j)) (loopLinkPoll2_2 a b).end_ = treeLinkPoll2_2_4 a b j := by kernel_rfl
def treeLinkPoll2_2_5 (a : Gw.Offer) (b : Gw.Offer) (j : Nat) : DT (Ex × Snap) :=
  .ob (binV .lss (.int .i64 (74 + (j : Int))) (.int .i64 200) = some (.bool true)) (
.ob (binV .add (.int .i64 (73 + (j : Int))) (.int .i64 1) = some (.int .i64 (74 + (j : Int)))) (
.ob (binV .geq (.int .i64 (74 + (j : Int))) (.int .i64 200) = some (.bool false)) (
.ob (binV .eql (.int .i64 (70 - (j : Int))) (.int .i64 0) = some (.bool false)) (
.ob (binV .sub (.int .i64 (70 - (j : Int))) (.int .i64 1) = some (.int .i64 (69 - (j : Int)))) (
.ob (binV .gtr (.int .i64 (69 - (j : Int))) (.int .i64 0) = some (.bool true)) (
.ob (binV .add (.int .i64 (74 + (j : Int))) (.int .i64 1) = some (.int .i64 (75 + (j : Int)))) (
.leaf (.normal, SNLinkPoll2_2 a b (.int .i64 73) (.int .i64 2) (.int .i64 (75 + (j : Int))) (.int .i64 (69 - (j : Int))) (.int .i64 0) (.int .i64 (74 + (j : Int))) (.bool false)))))))))
set_option maxRecDepth 1000000 in
theorem treeLinkPoll2_2_5_eq (a : Gw.Offer) (b : Gw.Offer) (j : Nat) : codeT (callT (mkXT noPX oxM) (mkXP noPX) (mkX noPX oxM) D (orcsLinkPoll2_2 a b (.c5 j)) (stsLinkPoll2_2 (.c5 j)) 13) (callN (mkX noPX oxM) D 13) (mkXP noPX) (orcLinkPoll2_2 a b (.c5 j)) (stLinkPoll2_2 (.c5 j)) noLt 0 lpLinkPoll2_2 ((loopLinkPoll2_2 a b).t0 (.c5 j)) [] ((loopLinkPoll2_2 a b).h0 (.c5 j)) (loopLinkPoll2_2 a b).end_ = treeLinkPoll2_2_5 a b j := by kernel_rfl
def treeLinkPoll2_2_6 (a : Gw.Offer) (b : Gw.Offer) (j : Nat) : DT (Ex × Snap) :=
  .ob (((V.beq (.int .i64 1) (.int .i64 1)) && true) = true) (
.ob (minV (.int .i64 (if (7 : Int) < (if (1 : Int) > (dealL (fineO a) (fineO b)).win then 1 else (dealL (fineO a) (fineO b)).win) then 7 else (if (1 : Int) > (dealL (fineO a) (fineO b)).win then 1 else (dealL (fineO a) (fineO b)).win))) [(.int .i64 0)] = some (.int .i64 0)) (
.ob ((0 ≤ (0 : Int) ∧ (0 : Int) ≤ ((0 : Nat) : Int)) ∧ (True)) (
.ob ((9 = 9 ∧ ([.int .i64 0, .int .i64 0, .bool true, .int .i64 2, .int .i64 0, .int .i64 0, .int .i64 0, .bool false, .str []] : List V).length = 1 * 9) ∧ allOne [.int .i64 0, .int .i64 0, .bool true, .int .i64 2, .int .i64 0, .int .i64 0, .int .i64 0, .bool false, .str []] = true ∧ 1 * 80 ≤ 70368744177664) (
.ob (9 = 9 ∧ 0 ≤ (0 : Int) ∧ (0 : Int) < ((1 : Nat) : Int)) (
.ob (9 = 9 ∧ 0 ≤ (0 : Int) ∧ (0 : Int) < ((1 : Nat) : Int)) (
.ob (9 = 9 ∧ 0 ≤ (0 : Int) ∧ (0 : Int) < ((1 : Nat) : Int)) (
.ob (9 = 9 ∧ 0 ≤ (0 : Int) ∧ (0 : Int) < ((1 : Nat) : Int)) (
.ob (9 = 9 ∧ 0 ≤ (0 : Int) ∧ (0 : Int) < ((1 : Nat) : Int)) (
.ob (((V.beq (.agg [.int .i64 0, .int .i64 1]) (.agg [.int .i64 0, .int .i64 1])) && true) = true) (
.ob (True) (
.leaf (.normal, SNLinkPoll2_2 a b (.int .i64 143) (.int .i64 3) (.int .i64 144) (.int .i64 70) (.int .i64 0) (.int .i64 143) (.bool false)))))))))))))
set_option maxRecDepth 1000000 in
theorem treeLinkPoll2_2_6_eq (a : Gw.Offer) (b : Gw.Offer) (j : Nat) : codeT (callT (mkXT noPX oxM) (mkXP noPX) (mkX noPX oxM) D (orcsLinkPoll2_2 a b (.c6 j)) (stsLinkPoll2_2 (.c6 j)) 13) (callN (mkX noPX oxM) D 13) (mkXP noPX) (orcLinkPoll2_2 a b (.c6 j)) (stLinkPoll2_2 (.c6 j)) noLt 0 lpLinkPoll2_2 ((loopLinkPoll2_2 a b).t0 (.c6 j)) [] ((loopLinkPoll2_2 a b).h0 (.c6 j)) (loopLinkPoll2_2 a b).end_ = treeLinkPoll2_2_6 a b j := by kernel_rfl
def treeLinkPoll2_2_7 (a : Gw.Offer) (b : Gw.Offer) (j : Nat) : DT (Ex × Snap) :=
  .ob (binV .lss (.int .i64 (144 + (j : Int))) (.int .i64 200) = some (.bool true)) (
.ob (binV .add (.int .i64 (143 + (j : Int))) (.int .i64 1) = some (.int .i64 (144 + (j : Int)))) (
.ob (binV .geq (.int .i64 (144 + (j : Int))) (.int .i64 200) = some (.bool false)) (
.ob (binV .eql (.int .i64 (70 - (j : Int))) (.int .i64 0) = some (.bool false)) (
.ob (binV .sub (.int .i64 (70 - (j : Int))) (.int .i64 1) = some (.int .i64 (69 - (j : Int)))) (
.ob (binV .gtr (.int .i64 (69 - (j : Int))) (.int .i64 0) = some (.bool true)) (
.ob (binV .add (.int .i64 (144 + (j : Int))) (.int .i64 1) = some (.int .i64 (145 + (j : Int)))) (
.leaf (.normal, SNLinkPoll2_2 a b (.int .i64 143) (.int .i64 3) (.int .i64 (145 + (j : Int))) (.int .i64 (69 - (j : Int))) (.int .i64 0) (.int .i64 (144 + (j : Int))) (.bool false)))))))))
set_option maxRecDepth 1000000 in
theorem treeLinkPoll2_2_7_eq (a : Gw.Offer) (b : Gw.Offer) (j : Nat) : codeT (callT (mkXT noPX oxM) (mkXP noPX) (mkX noPX oxM) D (orcsLinkPoll2_2 a b (.c7 j)) (stsLinkPoll2_2 (.c7 j)) 13) (callN (mkX noPX oxM) D 13) (mkXP noPX) (orcLinkPoll2_2 a b (.c7 j)) (stLinkPoll2_2 (.c7 j)) noLt 0 lpLinkPoll2_2 ((loopLinkPoll2_2 a b).t0 (.c7 j)) [] ((loopLinkPoll2_2 a b).h0 (.c7 j)) (loopLinkPoll2_2 a b).end_ = treeLinkPoll2_2_7 a b j := by kernel_rfl
def treeLinkPoll2_2_8 (a : Gw.Offer) (b : Gw.Offer) (j : Nat) : DT (Ex × Snap) :=
  .leaf ((.exit 0), XLinkPoll2_2 a b)
set_option maxRecDepth 1000000 in
theorem treeLinkPoll2_2_8_eq (a : Gw.Offer) (b : Gw.Offer) (j : Nat) : codeT (callT (mkXT noPX oxM) (mkXP noPX) (mkX noPX oxM) D (orcsLinkPoll2_2 a b (.c8 j)) (stsLinkPoll2_2 (.c8 j)) 13) (callN (mkX noPX oxM) D 13) (mkXP noPX) (orcLinkPoll2_2 a b (.c8 j)) (stLinkPoll2_2 (.c8 j)) noLt 0 lpLinkPoll2_2 ((loopLinkPoll2_2 a b).t0 (.c8 j)) [] ((loopLinkPoll2_2 a b).h0 (.c8 j)) (loopLinkPoll2_2 a b).end_ = treeLinkPoll2_2_8 a b j := by kernel_rfl
def treeLinkPoll2_2L (a : Gw.Offer) (b : Gw.Offer) (i : ILinkPoll2_2) : DT (Ex × Snap) := match i with
  | .c0 j => treeLinkPoll2_2_0 a b j
  | .c1 j => treeLinkPoll2_2_1 a b j
  | .c2 j => treeLinkPoll2_2_2 a b j
  | .c3 j => treeLinkPoll2_2_3 a b j
  | .c4 j => treeLinkPoll2_2_4 a b j
  | .c5 j => treeLinkPoll2_2_5 a b j
  | .c6 j => treeLinkPoll2_2_6 a b j
  | .c7 j => treeLinkPoll2_2_7 a b j
  | .c8 j => treeLinkPoll2_2_8 a b j
theorem roundLinkPoll2_2 (a : Gw.Offer) (b : Gw.Offer) (hwa : loL (fineO a).wait = 2) (hwb : loL (fineO b).wait = 2) (i : ILinkPoll2_2) (Pr : Ex × Snap → Prop) (h : ((loopLinkPoll2_2 a b).out i).sat Pr) : (treeLinkPoll2_2L a b i).sat ((loopLinkPoll2_2 a b).next muLinkPoll2_2 i Pr) := by
  match i with
  | .c0 j =>
    have hj : j < 1 := h.1
    have hX := h.2
    obtain rfl : j = 0 := by omega
    exact sat_leaf (⟨.c1 0, by kernel_rfl, (by show 200 - (1 + 0) < 200 - (0 + 0); omega), ⟨(show 0 < 1 by decide), hX⟩⟩)
  | .c1 j =>
    have hj : j < 1 := h.1
    have hX := h.2
    obtain rfl : j = 0 := by omega
    exact sat_leaf (⟨.c2 0, by kernel_rfl, (by show 200 - (2 + 0) < 200 - (1 + 0); omega), ⟨(show 0 < 1 by decide), hX⟩⟩)
  | .c2 j =>
    have hj : j < 1 := h.1
    have hX := h.2
    obtain rfl : j = 0 := by omega
    exact sat_ob (by simp only [V.beq_refl, Bool.and_true]) (
sat_ob (min0 _) (
sat_ob (by decide) (
sat_ob (by decide) (
sat_ob (by decide) (
sat_ob (by decide) (
sat_ob (by decide) (
sat_ob (by decide) (
sat_ob (by decide) (
sat_ob (by simp only [V.beq_refl, Bool.and_true]) (
sat_ob trivial (
sat_leaf (⟨.c3 0, by kernel_rfl, (by show 200 - (3 + 0) < 200 - (2 + 0); omega), ⟨(show 0 < 69 by decide), hX⟩⟩))))))))))))
  | .c3 j =>
    have hj : j < 69 := h.1
    have hX := h.2
    exact sat_ob (by simp [binV, binI]; omega) (
sat_ob (by show some (V.int .i64 (wrapK .i64 ((3 + (j : Int)) + 1))) = _; rw [wrap_small (by omega), show ((3 + (j : Int)) + 1) = (4 + (j : Int)) by omega]) (
sat_ob (by simp [binV, binI]; omega) (
sat_ob (by simp [binV, binI]; omega) (
sat_ob (by show some (V.int .i64 (wrapK .i64 ((70 - (j : Int)) - 1))) = _; rw [wrap_small (by omega), show ((70 - (j : Int)) - 1) = (69 - (j : Int)) by omega]) (
sat_ob (by simp [binV, binI]; omega) (
sat_ob (by show some (V.int .i64 (wrapK .i64 ((4 + (j : Int)) + 1))) = _; rw [wrap_small (by omega), show ((4 + (j : Int)) + 1) = (5 + (j : Int)) by omega]) (
sat_leaf (if h2 : j + 1 < 69 then ⟨.c3 (j + 1), (by show SNLinkPoll2_2 a b (.int .i64 3) (.int .i64 1) (.int .i64 (5 + (j : Int))) (.int .i64 (69 - (j : Int))) (.int .i64 0) (.int .i64 (4 + (j : Int))) (.bool false) = SNLinkPoll2_2 a b (.int .i64 3) (.int .i64 1) (.int .i64 (4 + ((j + 1 : Nat) : Int))) (.int .i64 (70 - ((j + 1 : Nat) : Int))) (.int .i64 0) (.int .i64 (3 + ((j + 1 : Nat) : Int))) (.bool false); rw [show ((3 + ((j + 1 : Nat) : Int)) : Int) = (4 + (j : Int)) by omega, show ((4 + ((j + 1 : Nat) : Int)) : Int) = (5 + (j : Int)) by omega, show ((70 - ((j + 1 : Nat) : Int)) : Int) = (69 - (j : Int)) by omega]), (by show 200 - (3 + (j + 1)) < 200 - (3 + j); omega), ⟨h2, hX⟩⟩ else by
    obtain rfl : j = 68 := by omega
    exact ⟨.c4 0, by kernel_rfl, (by show 200 - (72 + 0) < 200 - (3 + 68); omega), ⟨(show 0 < 1 by decide), hX⟩⟩))))))))
  | .c4 j =>
    have hj : j < 1 := h.1
    have hX := h.2
    obtain rfl : j = 0 := by omega
    exact sat_ob (by simp only [V.beq_refl, Bool.and_true]) (
sat_ob (min0 _) (
sat_ob (by decide) (
sat_ob (by decide) (
sat_ob (by decide) (
sat_ob (by decide) (
sat_ob (by decide) (
sat_ob (by decide) (
sat_ob (by decide) (
sat_ob (by simp only [V.beq_refl, Bool.and_true]) (
sat_ob trivial (
sat_leaf (⟨.c5 0, by kernel_rfl, (by show 200 - (73 + 0) < 200 - (72 + 0); omega), ⟨(show 0 < 69 by decide), hX⟩⟩))))))))))))
  | .c5 j =>
    have hj : j < 69 := h.1
    have hX := h.2
    exact sat_ob (by simp [binV, binI]; omega) (
sat_ob (by show some (V.int .i64 (wrapK .i64 ((73 + (j : Int)) + 1))) = _; rw [wrap_small (by omega), show ((73 + (j : Int)) + 1) = (74 + (j : Int)) by omega]) (
sat_ob (by simp [binV, binI]; omega) (
sat_ob (by simp [binV, binI]; omega) (
sat_ob (by show some (V.int .i64 (wrapK .i64 ((70 - (j : Int)) - 1))) = _; rw [wrap_small (by omega), show ((70 - (j : Int)) - 1) = (69 - (j : Int)) by omega]) (
sat_ob (by simp [binV, binI]; omega) (
sat_ob (by show some (V.int .i64 (wrapK .i64 ((74 + (j : Int)) + 1))) = _; rw [wrap_small (by omega), show ((74 + (j : Int)) + 1) = (75 + (j : Int)) by omega]) (
sat_leaf (if h2 : j + 1 < 69 then ⟨.c5 (j + 1), (by show SNLinkPoll2_2 a b (.int .i64 73) (.int .i64 2) (.int .i64 (75 + (j : Int))) (.int .i64 (69 - (j : Int))) (.int .i64 0) (.int .i64 (74 + (j : Int))) (.bool false) = SNLinkPoll2_2 a b (.int .i64 73) (.int .i64 2) (.int .i64 (74 + ((j + 1 : Nat) : Int))) (.int .i64 (70 - ((j + 1 : Nat) : Int))) (.int .i64 0) (.int .i64 (73 + ((j + 1 : Nat) : Int))) (.bool false); rw [show ((70 - ((j + 1 : Nat) : Int)) : Int) = (69 - (j : Int)) by omega, show ((73 + ((j + 1 : Nat) : Int)) : Int) = (74 + (j : Int)) by omega, show ((74 + ((j + 1 : Nat) : Int)) : Int) = (75 + (j : Int)) by omega]), (by show 200 - (73 + (j + 1)) < 200 - (73 + j); omega), ⟨h2, hX⟩⟩ else by
    obtain rfl : j = 68 := by omega
    exact ⟨.c6 0, by kernel_rfl, (by show 200 - (142 + 0) < 200 - (73 + 68); omega), ⟨(show 0 < 1 by decide), hX⟩⟩))))))))
  | .c6 j =>
    have hj : j < 1 := h.1
    have hX := h.2
    obtain rfl : j = 0 := by omega
    exact sat_ob (by simp only [V.beq_refl, Bool.and_true]) (
sat_ob (min0 _) (
sat_ob (by decide) (
sat_ob (by decide) (
sat_ob (by decide) (
sat_ob (by decide) (
sat_ob (by decide) (
sat_ob (by decide) (
sat_ob (by decide) (
sat_ob (by simp only [V.beq_refl, Bool.and_true]) (
sat_ob trivial (
sat_leaf (⟨.c7 0, by kernel_rfl, (by show 200 - (143 + 0) < 200 - (142 + 0); omega), ⟨(show 0 < 56 by decide), hX⟩⟩))))))))))))
  | .c7 j =>
    have hj : j < 56 := h.1
    have hX := h.2
    exact sat_ob (by simp [binV, binI]; omega) (
sat_ob (by show some (V.int .i64 (wrapK .i64 ((143 + (j : Int)) + 1))) = _; rw [wrap_small (by omega), show ((143 + (j : Int)) + 1) = (144 + (j : Int)) by omega]) (
sat_ob (by simp [binV, binI]; omega) (
sat_ob (by simp [binV, binI]; omega) (
sat_ob (by show some (V.int .i64 (wrapK .i64 ((70 - (j : Int)) - 1))) = _; rw [wrap_small (by omega), show ((70 - (j : Int)) - 1) = (69 - (j : Int)) by omega]) (
sat_ob (by simp [binV, binI]; omega) (
sat_ob (by show some (V.int .i64 (wrapK .i64 ((144 + (j : Int)) + 1))) = _; rw [wrap_small (by omega), show ((144 + (j : Int)) + 1) = (145 + (j : Int)) by omega]) (
sat_leaf (if h2 : j + 1 < 56 then ⟨.c7 (j + 1), (by show SNLinkPoll2_2 a b (.int .i64 143) (.int .i64 3) (.int .i64 (145 + (j : Int))) (.int .i64 (69 - (j : Int))) (.int .i64 0) (.int .i64 (144 + (j : Int))) (.bool false) = SNLinkPoll2_2 a b (.int .i64 143) (.int .i64 3) (.int .i64 (144 + ((j + 1 : Nat) : Int))) (.int .i64 (70 - ((j + 1 : Nat) : Int))) (.int .i64 0) (.int .i64 (143 + ((j + 1 : Nat) : Int))) (.bool false); rw [show ((143 + ((j + 1 : Nat) : Int)) : Int) = (144 + (j : Int)) by omega, show ((144 + ((j + 1 : Nat) : Int)) : Int) = (145 + (j : Int)) by omega, show ((70 - ((j + 1 : Nat) : Int)) : Int) = (69 - (j : Int)) by omega]), (by show 200 - (143 + (j + 1)) < 200 - (143 + j); omega), ⟨h2, hX⟩⟩ else by
    obtain rfl : j = 55 := by omega
    exact ⟨.c8 0, by kernel_rfl, (by show 200 - (199 + 0) < 200 - (143 + 55); omega), ⟨(show 0 < 1 by decide), hX⟩⟩))))))))
  | .c8 j =>
    have hj : j < 1 := h.1
    have hX := h.2
    obtain rfl : j = 0 := by omega
    exact sat_leaf (hX)
theorem ltLinkPoll2_2_ok (a : Gw.Offer) (b : Gw.Offer) (hwa : loL (fineO a).wait = 2) (hwb : loL (fineO b).wait = 2) (hint : Nat → List Nat) : Lt1 Tryz.prog hint 3 (loopLinkPoll2_2 a b).lt lpLinkPoll2_2 :=
  LoopD.lt1c mixed (show TabX Tryz.prog noPX oxM from tabM) tabD (loopLinkPoll2_2 a b) muLinkPoll2_2 (fun ex => match ex with | .normal => ⟨show 3 ≤ 354 by decide, show 3 ≤ 354 by decide⟩ | .exit _ => ⟨show 3 ≤ 354 by decide, show 3 ≤ 354 by decide⟩ | .ret => ⟨show 3 ≤ 354 by decide, show 3 ≤ 354 by decide⟩) (orcs := orcsLinkPoll2_2 a b) (sts := stsLinkPoll2_2) (orc := orcLinkPoll2_2 a b) (st := stLinkPoll2_2) (tree := treeLinkPoll2_2L a b)
    (fun i => match i with
    | .c0 j => treeLinkPoll2_2_0_eq a b j
    | .c1 j => treeLinkPoll2_2_1_eq a b j
    | .c2 j => treeLinkPoll2_2_2_eq a b j
    | .c3 j => treeLinkPoll2_2_3_eq a b j
    | .c4 j => treeLinkPoll2_2_4_eq a b j
    | .c5 j => treeLinkPoll2_2_5_eq a b j
    | .c6 j => treeLinkPoll2_2_6_eq a b j
    | .c7 j => treeLinkPoll2_2_7_eq a b j
    | .c8 j => treeLinkPoll2_2_8_eq a b j) (roundLinkPoll2_2 a b hwa hwb)
def oxLinkPoll2_2 (a : Gw.Offer) (b : Gw.Offer) : OTab := (consT 79 (gD dGet pGet (fun n => match n with | 138 => some (.tup [.agg [.int .u32 1, .int .u32 2, .int .i64 0, .int .i64 1, .int .i64 (fineO a).baud, .int .i64 (fineO a).silent, .int .i64 (fineO a).win, .int .i64 (fineO a).size, .int .i64 (fineO a).wait], .bool true]) | 298 => some (.tup [.agg [.int .u32 2, .int .u32 1, .int .i64 0, .int .i64 1, .int .i64 (fineO b).baud, .int .i64 (fineO b).silent, .int .i64 (fineO b).win, .int .i64 (fineO b).size, .int .i64 (fineO b).wait], .bool true]) | _ => none)) (consT 106 (gD dPut pPut noV) (consT 80 (gDT kT0 kT1 kT2 dDeal pDeal (fun n => match n with | 151 => some (.tup [.agg (dv b a 2), .bool true]) | 311 => some (.tup [.agg (dv a b 2), .bool true]) | _ => none)) (consT 76 (gD dOff pMayQ (fun n => match n with | 12 => some (.bool true) | 20 => some (.bool true) | _ => none)) (consT 20 (gD dOff pFine noV) (consO 19 (gTrue kT0 kT1 kT2) noOX))))))
def treeLinkPoll2_2 (a : Gw.Offer) (b : Gw.Offer) : DT V :=
  .ob (dOff [.agg a.vs]) (
.ob (((V.beq (.agg b.vs) (.agg b.vs)) && true) = true) (
.ob (dOff [.agg b.vs]) (
.ob (dOff [.agg (fineO a).vs]) (
.ob (pMayQ [.agg (fineO a).vs] = (.bool true)) (
.ob (((V.beq (.agg (fineO b).vs) (.agg (fineO b).vs)) && true) = true) (
.ob (dOff [.agg (fineO b).vs]) (
.ob (pMayQ [.agg (fineO b).vs] = (.bool true)) (
.ob (True) (
.ob (IntKind.i64 = IntKind.i64 ∧ (250 : Int) ≠ 0) (
.ob (((V.beq (.int .u32 2) (.int .u32 2)) && true) = true) (
.ob (((V.beq (.int .u32 2) (.int .u32 2)) && true) = true) (
.ob (dPut [.agg [.int .u32 1, .int .u32 2, .int .i64 0, .int .i64 1, .int .i64 (fineO a).baud, .int .i64 (fineO a).silent, .int .i64 (fineO a).win, .int .i64 (fineO a).size, .int .i64 (fineO a).wait]]) (
.ob (9 = 9 ∧ 0 ≤ (0 : Int) ∧ (0 : Int) < ((1 : Nat) : Int)) (
.ob (Gw.lenStr (.str (setupStr ⟨1, 2, 0, 1, (fineO a)⟩)) = some (.int .i64 25)) (
.ob (Gw.lenStr (.str (setupStr ⟨1, 2, 0, 1, (fineO a)⟩)) = some (.int .i64 25)) (
.ob (((V.beq (.str (setupStr ⟨1, 2, 0, 1, (fineO a)⟩)) (.str (setupStr ⟨1, 2, 0, 1, (fineO a)⟩))) && ((V.beq (.bool true) (.bool true)) && ((V.beq (.agg [.int .i64 127, .int .i64 255]) (.agg [.int .i64 127, .int .i64 255])) && true))) = true) (
.ob (((V.beq (.int .i64 2) (.int .i64 2)) && true) = true) (
.ob (((V.beq (.agg [.int .i64 127, .int .i64 255, .bool true, .int .i64 3, .int .i64 2, .int .i64 0, .int .i64 0, .bool true, .str (setupStr ⟨1, 2, 0, 1, (fineO a)⟩)]) (.agg [.int .i64 127, .int .i64 255, .bool true, .int .i64 3, .int .i64 2, .int .i64 0, .int .i64 0, .bool true, .str (setupStr ⟨1, 2, 0, 1, (fineO a)⟩)])) && true) = true) (
.ob (((eqV (.agg [.i, .i, .b, .i, .i, .i, .i, .b, .s]) (.agg [.int .i64 127, .int .i64 255, .bool true, .int .i64 3, .int .i64 2, .int .i64 0, .int .i64 0, .bool true, .str (setupStr ⟨1, 2, 0, 1, (fineO a)⟩)]) (.agg [.int .i64 127, .int .i64 255, .bool true, .int .i64 3, .int .i64 2, .int .i64 0, .int .i64 0, .bool true, .str (setupStr ⟨1, 2, 0, 1, (fineO a)⟩)])).map fun b => V.bool (if true then !b else b)) = some (.bool false)) (
.ob (((V.beq (.agg [.int .i64 127, .int .i64 255]) (.agg [.int .i64 127, .int .i64 255])) && true) = true) (
.ob (True) (
.ob (dGet [.str (setupStr ⟨1, 2, 0, 1, (fineO a)⟩)]) (
.ob (pGet [.str (setupStr ⟨1, 2, 0, 1, (fineO a)⟩)] = (.tup [.agg [.int .u32 1, .int .u32 2, .int .i64 0, .int .i64 1, .int .i64 (fineO a).baud, .int .i64 (fineO a).silent, .int .i64 (fineO a).win, .int .i64 (fineO a).size, .int .i64 (fineO a).wait], .bool true])) (
.ob (dDeal [.agg (fineO b).vs, .agg (fineO a).vs]) (
.ob (pDeal [.agg (fineO b).vs, .agg (fineO a).vs] = (.tup [.agg (dv b a 2), .bool true])) (
.ob (((V.beq (.int .i64 (dealL (fineO b) (fineO a)).size) (.int .i64 (dealL (fineO b) (fineO a)).size)) && true) = true) (
.ob (((V.beq (.int .i64 (dealL (fineO b) (fineO a)).size) (.int .i64 (dealL (fineO b) (fineO a)).size)) && true) = true) (
.ob (((V.beq (.agg (dv b a 2)) (.agg (dv b a 2))) && ((V.beq (.agg [.int .i64 0, .int .i64 1]) (.agg [.int .i64 0, .int .i64 1])) && true)) = true) (
.ob (((V.beq (.agg (dv b a 2)) (.agg (dv b a 2))) && ((V.beq (.agg [.int .i64 0, .int .i64 1]) (.agg [.int .i64 0, .int .i64 1])) && true)) = true) (
.ob (((V.beq (.agg (dv b a 2)) (.agg (dv b a 2))) && ((V.beq (.agg [.int .i64 0, .int .i64 1]) (.agg [.int .i64 0, .int .i64 1])) && true)) = true) (
.ob (((V.beq (.agg (dv b a 2)) (.agg (dv b a 2))) && true) = true) (
.ob (((V.beq (.int .i64 2) (.int .i64 2)) && true) = true) (
.ob (((V.beq (.int .i64 2) (.int .i64 2)) && true) = true) (
.ob (((V.beq (.int .i64 2) (.int .i64 2)) && true) = true) (
.ob (dPut [.agg [.int .u32 2, .int .u32 1, .int .i64 0, .int .i64 1, .int .i64 (fineO b).baud, .int .i64 (fineO b).silent, .int .i64 (fineO b).win, .int .i64 (fineO b).size, .int .i64 (fineO b).wait]]) (
.ob (9 = 9 ∧ 0 ≤ (0 : Int) ∧ (0 : Int) < ((1 : Nat) : Int)) (
.ob (Gw.lenStr (.str (setupStr ⟨2, 1, 0, 1, (fineO b)⟩)) = some (.int .i64 25)) (
.ob (Gw.lenStr (.str (setupStr ⟨2, 1, 0, 1, (fineO b)⟩)) = some (.int .i64 25)) (
.ob (((V.beq (.str (setupStr ⟨2, 1, 0, 1, (fineO b)⟩)) (.str (setupStr ⟨2, 1, 0, 1, (fineO b)⟩))) && ((V.beq (.bool false) (.bool false)) && ((V.beq (.agg [.int .i64 127, .int .i64 255]) (.agg [.int .i64 127, .int .i64 255])) && true))) = true) (
.ob (((V.beq (.int .i64 3) (.int .i64 3)) && true) = true) (
.ob (((V.beq (.agg [.int .i64 127, .int .i64 255, .bool false, .int .i64 3, .int .i64 3, .int .i64 0, .int .i64 0, .bool true, .str (setupStr ⟨2, 1, 0, 1, (fineO b)⟩)]) (.agg [.int .i64 127, .int .i64 255, .bool false, .int .i64 3, .int .i64 3, .int .i64 0, .int .i64 0, .bool true, .str (setupStr ⟨2, 1, 0, 1, (fineO b)⟩)])) && true) = true) (
.ob (((eqV (.agg [.i, .i, .b, .i, .i, .i, .i, .b, .s]) (.agg [.int .i64 127, .int .i64 255, .bool false, .int .i64 3, .int .i64 3, .int .i64 0, .int .i64 0, .bool true, .str (setupStr ⟨2, 1, 0, 1, (fineO b)⟩)]) (.agg [.int .i64 127, .int .i64 255, .bool false, .int .i64 3, .int .i64 3, .int .i64 0, .int .i64 0, .bool true, .str (setupStr ⟨2, 1, 0, 1, (fineO b)⟩)])).map fun b => V.bool (if true then !b else b)) = some (.bool false)) (
.ob (((V.beq (.agg [.int .i64 127, .int .i64 255]) (.agg [.int .i64 127, .int .i64 255])) && true) = true) (
.ob (True) (
.ob (dGet [.str (setupStr ⟨2, 1, 0, 1, (fineO b)⟩)]) (
.ob (pGet [.str (setupStr ⟨2, 1, 0, 1, (fineO b)⟩)] = (.tup [.agg [.int .u32 2, .int .u32 1, .int .i64 0, .int .i64 1, .int .i64 (fineO b).baud, .int .i64 (fineO b).silent, .int .i64 (fineO b).win, .int .i64 (fineO b).size, .int .i64 (fineO b).wait], .bool true])) (
.ob (dDeal [.agg (fineO a).vs, .agg (fineO b).vs]) (
.ob (pDeal [.agg (fineO a).vs, .agg (fineO b).vs] = (.tup [.agg (dv a b 2), .bool true])) (
.ob (True) (
.ob (((V.beq (.int .i64 (dealL (fineO a) (fineO b)).size) (.int .i64 (dealL (fineO a) (fineO b)).size)) && true) = true) (
.ob (((V.beq (.int .i64 (dealL (fineO a) (fineO b)).size) (.int .i64 (dealL (fineO a) (fineO b)).size)) && true) = true) (
.ob (((V.beq (.agg (dv a b 2)) (.agg (dv a b 2))) && ((V.beq (.agg [.int .i64 0, .int .i64 1]) (.agg [.int .i64 0, .int .i64 1])) && true)) = true) (
.ob (((V.beq (.agg (dv a b 2)) (.agg (dv a b 2))) && ((V.beq (.agg [.int .i64 0, .int .i64 1]) (.agg [.int .i64 0, .int .i64 1])) && true)) = true) (
.ob (((V.beq (.agg (dv a b 2)) (.agg (dv a b 2))) && ((V.beq (.agg [.int .i64 0, .int .i64 1]) (.agg [.int .i64 0, .int .i64 1])) && true)) = true) (
.ob (((V.beq (.agg (dv a b 2)) (.agg (dv a b 2))) && true) = true) (
.ob (((V.beq (.int .i64 2) (.int .i64 2)) && true) = true) (
.ob (((V.beq (.int .i64 2) (.int .i64 2)) && true) = true) (
.ob (((V.beq (.int .i64 2) (.int .i64 2)) && true) = true) (
.ob ((SNLinkPoll2_2 a b (.int .i64 0) (.int .i64 0) (.int .i64 1) (.int .i64 0) (.int .i64 2) (.int .i64 0) (.bool true) : Snap) = (loopLinkPoll2_2 a b).S (.c0 0)) (
.ob (invLinkPoll2_2 (.c0 0)) (
.ob (IntKind.i64 = IntKind.i64 ∧ (70 : Int) ≠ 0) (
.leaf (.bool true)))))))))))))))))))))))))))))))))))))))))))))))))))))))))))))))
set_option maxRecDepth 1000000 in
theorem treeLinkPoll2_2_eq (a : Gw.Offer) (b : Gw.Offer) : funT (mkXT (noPX) (oxLinkPoll2_2 a b)) (mkXP (noPX)) (mkX (noPX) (oxLinkPoll2_2 a b)) D (fun g => match g with | 113 => (fun k => match k with | 38 => some fun t h => (match h.n with | 93 => (.int .i64 25, h) | 112 => (.int .i64 25, h) | 253 => (.int .i64 25, h) | _ => (.int .i64 25, h)) | _ => none) | 77 => (fun k => match k with | 52 => some fun t h => (match h.n with | 128 => (.bool false, h) | _ => (.bool false, h)) | _ => none) | _ => noOrc) (fun k => match k with | 11 => [14, 94] | 21 => [31, 41, 49, 60, 69, 72, 76] | 22 => [10, 15, 20, 25, 30, 31, 37, 41, 50, 57] | 26 => [15, 22, 31, 52, 58] | 35 => [8, 11, 15, 19, 23] | 39 => [16, 25, 30, 36, 39, 44, 47, 57, 67, 82, 86, 99] | 56 => [10, 33, 40, 44, 49] | 60 => [8, 25, 32] | 62 => [28, 30] | 77 => [8, 15, 26, 37, 41, 46, 52] | 81 => [14, 20, 28] | 82 => [13] | 107 => [10] | 113 => [11, 16, 20, 25, 30, 34, 39] | 114 => [8, 14, 19, 24, 34, 44] | 146 => [6, 9, 20] | 165 => [8, 19, 30, 34, 38] | 166 => [8, 13, 18, 21] | _ => []) 12 noOrc [14, 94] (ltLinkPoll2_2 a b) (dOf 11) [.agg a.vs, .agg b.vs] (tabH kT0 kT1 kT2 3) (fun v _ => v) = treeLinkPoll2_2 a b := by kernel_rfl
theorem satLinkPoll2_2 (a : Gw.Offer) (b : Gw.Offer) (hwa : loL (fineO a).wait = 2) (hwb : loL (fineO b).wait = 2) : (treeLinkPoll2_2 a b).sat fun v => v = .bool true :=
 sat_ob trivial (
sat_ob (by simp only [V.beq_refl, Bool.and_true]) (
sat_ob trivial (
sat_ob trivial (
sat_ob (pMay_fine a) (
sat_ob (by simp only [V.beq_refl, Bool.and_true]) (
sat_ob trivial (
sat_ob (pMay_fine b) (
sat_ob trivial (
sat_ob (by decide) (
sat_ob (by simp only [V.beq_refl, Bool.and_true]) (
sat_ob (by simp only [V.beq_refl, Bool.and_true]) (
sat_ob (okSet 1 2 0 1 a (by decide) (by decide) (by decide) (by decide)) (
sat_ob (by decide) (
sat_ob rfl (
sat_ob rfl (
sat_ob (by simp only [V.beq_refl, Bool.and_true]) (
sat_ob (by simp only [V.beq_refl, Bool.and_true]) (
sat_ob (by simp only [V.beq_refl, Bool.and_true]) (
sat_ob (by simp [eqV, eqCells]) (
sat_ob (by simp only [V.beq_refl, Bool.and_true]) (
sat_ob trivial (
sat_ob ⟨⟨1, 2, 0, 1, (fineO a)⟩, (okSet 1 2 0 1 a (by decide) (by decide) (by decide) (by decide)), rfl⟩ (
sat_ob (get_put ⟨1, 2, 0, 1, (fineO a)⟩ (okSet 1 2 0 1 a (by decide) (by decide) (by decide) (by decide))) (
sat_ob ⟨mayO_fine b, mayO_fine a⟩ (
sat_ob (by show V.tup [.agg [.int .i64 _, .int .i64 _, .int .i64 _, .int .i64 _, .int .i64 (loL (fineO a).wait)], .bool true] = _; rw [hwa]; rfl) (
sat_ob (by simp only [V.beq_refl, Bool.and_true]) (
sat_ob (by simp only [V.beq_refl, Bool.and_true]) (
sat_ob (by simp only [V.beq_refl, Bool.and_true]) (
sat_ob (by simp only [V.beq_refl, Bool.and_true]) (
sat_ob (by simp only [V.beq_refl, Bool.and_true]) (
sat_ob (by simp only [V.beq_refl, Bool.and_true]) (
sat_ob (by simp only [V.beq_refl, Bool.and_true]) (
sat_ob (by simp only [V.beq_refl, Bool.and_true]) (
sat_ob (by simp only [V.beq_refl, Bool.and_true]) (
sat_ob (okSet 2 1 0 1 b (by decide) (by decide) (by decide) (by decide)) (
sat_ob (by decide) (
sat_ob rfl (
sat_ob rfl (
sat_ob (by simp only [V.beq_refl, Bool.and_true]) (
sat_ob (by simp only [V.beq_refl, Bool.and_true]) (
sat_ob (by simp only [V.beq_refl, Bool.and_true]) (
sat_ob (by simp [eqV, eqCells]) (
sat_ob (by simp only [V.beq_refl, Bool.and_true]) (
sat_ob trivial (
sat_ob ⟨⟨2, 1, 0, 1, (fineO b)⟩, (okSet 2 1 0 1 b (by decide) (by decide) (by decide) (by decide)), rfl⟩ (
sat_ob (get_put ⟨2, 1, 0, 1, (fineO b)⟩ (okSet 2 1 0 1 b (by decide) (by decide) (by decide) (by decide))) (
sat_ob ⟨mayO_fine a, mayO_fine b⟩ (
sat_ob (by show V.tup [.agg [.int .i64 _, .int .i64 _, .int .i64 _, .int .i64 _, .int .i64 (loL (fineO b).wait)], .bool true] = _; rw [hwb]; rfl) (
sat_ob trivial (
sat_ob (by simp only [V.beq_refl, Bool.and_true]) (
sat_ob (by simp only [V.beq_refl, Bool.and_true]) (
sat_ob (by simp only [V.beq_refl, Bool.and_true]) (
sat_ob (by simp only [V.beq_refl, Bool.and_true]) (
sat_ob (by simp only [V.beq_refl, Bool.and_true]) (
sat_ob (by simp only [V.beq_refl, Bool.and_true]) (
sat_ob (by simp only [V.beq_refl, Bool.and_true]) (
sat_ob (by simp only [V.beq_refl, Bool.and_true]) (
sat_ob (by simp only [V.beq_refl, Bool.and_true]) (
sat_ob (by kernel_rfl) (
sat_ob (show 0 < 1 by decide) (
sat_ob (by decide) (
sat_leaf (rfl)))))))))))))))))))))))))))))))))))))))))))))))))))))))))))))))
theorem loopsLinkPoll2_2 : loopsIn 0 (dOf 11).body = [(0, lpLinkPoll2_2)] := by kernel_rfl
set_option maxRecDepth 1000000 in
theorem runLinkPoll2_2 (a : Gw.Offer) (b : Gw.Offer) (hwa : loL (fineO a).wait = 2) (hwb : loL (fineO b).wait = 2) : Run Tryz.prog 11 [.agg a.vs, .agg b.vs] (tabH kT0 kT1 kT2 3) fun v _ => v = .bool true := by
  refine run_loops mixed (show TabX Tryz.prog noPX (oxLinkPoll2_2 a b) from ((((((TabX.nil.addO ans_begun).addT (ans_fine noV)).addT (ans_may (fun n => match n with | 12 => some (.bool true) | 20 => some (.bool true) | _ => none))).addT (ans_deal (fun n => match n with | 151 => some (.tup [.agg (dv b a 2), .bool true]) | 311 => some (.tup [.agg (dv a b 2), .bool true]) | _ => none))).addT (ans_put noV)).addT (ans_get (fun n => match n with | 138 => some (.tup [.agg [.int .u32 1, .int .u32 2, .int .i64 0, .int .i64 1, .int .i64 (fineO a).baud, .int .i64 (fineO a).silent, .int .i64 (fineO a).win, .int .i64 (fineO a).size, .int .i64 (fineO a).wait], .bool true]) | 298 => some (.tup [.agg [.int .u32 2, .int .u32 1, .int .i64 0, .int .i64 1, .int .i64 (fineO b).baud, .int .i64 (fineO b).silent, .int .i64 (fineO b).win, .int .i64 (fineO b).size, .int .i64 (fineO b).wait], .bool true]) | _ => none)))) tabD (dIs (by kernel_rfl)) (lt := ltLinkPoll2_2 a b) (fun hint p hp => ?_) (treeLinkPoll2_2_eq a b) (satLinkPoll2_2 a b hwa hwb)
  rw [loopsLinkPoll2_2] at hp
  simp only [List.mem_cons, List.not_mem_nil, or_false] at hp
  subst hp
  exact ltLinkPoll2_2_ok a b hwa hwb hint
end Go.Proofs.YtbkgcdncdaeiaaaGreatDoor
