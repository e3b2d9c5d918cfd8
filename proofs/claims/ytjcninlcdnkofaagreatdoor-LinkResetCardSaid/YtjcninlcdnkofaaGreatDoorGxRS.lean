/- LinkReset: its loop. -/
import Derived.Test.YtjcninlcdnkofaaGreatDoorGxE3
import Derived.Test.YtjcninlcdnkofaaGreatDoorGxQ
import Derived.Test.YtjcninlcdnkofaaGreatDoorGxT15
noncomputable section
namespace Go.Proofs.YtjcninlcdnkofaaGreatDoor
open Go Gw Go.RowKit
set_option linter.unusedSimpArgs false
set_option linter.unusedVariables false
def oxM : OTab := (consT 46 (gD dGet pGet noV) (consT 70 (gD dPut pPut noV) (consT 47 (gDT kT0 kT1 kT2 dDeal pDeal noV) (consT 43 (gD dOff pMayQ noV) (consT 10 (gD dOff pFine noV) noOX)))))
theorem tabM : TabX Tryz.prog noPX oxM := (((((TabX.nil.addT (ans_fine noV)).addT (ans_may noV)).addT (ans_deal noV)).addT (ans_put noV)).addT (ans_get noV))
theorem lt1_no {P : Program} {hint : Nat → List Nat} {m : Nat} {c : DC} : Lt1 P hint m (fun _ _ => .fail) c := fun _ _ _ _ _ h => absurd h (fun q => q)
abbrev cF (l : List V) : Option Blk := some (.cells false l)
abbrev rnd (orcs : Nat → Orc) (sts : Nat → List Nat) (orc : Orc) := codeT (α := Ex × Snap) (callT (mkXT noPX oxM) (mkXP noPX) (mkX noPX oxM) D orcs sts 13) (callN (mkX noPX oxM) D 13) (mkXP noPX) orc
def sA (a : Gw.Offer) : Str := [1, 0, 0, 0, 2, 0, 0, 0, 0, 2, 1, 1, (b8 (fineO a).baud), 2, 1, (b8 (fineO a).silent), 3, 1, (b8 (fineO a).win), 4, 1, (b8 (fineO a).size), 5, 1, (b8 (fineO a).wait)]
def sB (b : Gw.Offer) : Str := [2, 0, 0, 0, 1, 0, 0, 0, 0, 2, 1, 1, (b8 (fineO b).baud), 2, 1, (b8 (fineO b).silent), 3, 1, (b8 (fineO b).win), 4, 1, (b8 (fineO b).size), 5, 1, (b8 (fineO b).wait)]
def sC (c : Int) (b : Gw.Offer) : Str := [2, 0, 0, 0, 1, 0, 0, 0, 0, (UInt8.ofNat (c : Int).toNat), 1, 1, (UInt8.ofNat (((((b8 (fineO b).baud) : UInt8).toNat : Nat) : Int) : Int).toNat), 2, 1, (UInt8.ofNat (((((b8 (fineO b).silent) : UInt8).toNat : Nat) : Int) : Int).toNat), 3, 1, (UInt8.ofNat (((((b8 (fineO b).win) : UInt8).toNat : Nat) : Int) : Int).toNat), 4, 1, (UInt8.ofNat (((((b8 (fineO b).size) : UInt8).toNat : Nat) : Int) : Int).toNat), 5, 1, (UInt8.ofNat (((((b8 (fineO b).wait) : UInt8).toNat : Nat) : Int) : Int).toNat)]
def sD (b : Gw.Offer) : Str := [2, 0, 0, 0, 1, 0, 0, 0, 0, 2, 1, 1, (UInt8.ofNat (((((b8 (fineO b).baud) : UInt8).toNat : Nat) : Int) : Int).toNat), 2, 1, (UInt8.ofNat (((((b8 (fineO b).silent) : UInt8).toNat : Nat) : Int) : Int).toNat), 3, 1, (UInt8.ofNat (((((b8 (fineO b).win) : UInt8).toNat : Nat) : Int) : Int).toNat), 4, 1, (UInt8.ofNat (((((b8 (fineO b).size) : UInt8).toNat : Nat) : Int) : Int).toNat), 5, 1, (UInt8.ofNat (((((b8 (fineO b).wait) : UInt8).toNat : Nat) : Int) : Int).toNat)]
theorem sA_eq (a : Gw.Offer) : sA a = setupStr ⟨1, 2, 0, 2, fineO a⟩ := by kernel_rfl
theorem sB_eq (b : Gw.Offer) : sB b = setupStr ⟨2, 1, 0, 2, fineO b⟩ := by kernel_rfl
theorem sC_eq (c : Int) (b : Gw.Offer) : sC c b = setupStr ⟨2, 1, 0, c, fineO b⟩ := by
  unfold sC
  simp only [u8u]
  kernel_rfl
theorem sD_eq (b : Gw.Offer) : sD b = sB b := by
  unfold sD
  simp only [u8u]
  rfl
theorem sC_ne {c : Int} {b : Gw.Offer} (hc : 0 ≤ c ∧ c < 250) (h2 : c ≠ 2) : sC c b ≠ sB b := by
  intro h
  have h9 : (sC c b).getD 9 0 = (sB b).getD 9 0 := by rw [h]
  have h8 : UInt8.ofNat c.toNat = 2 := h9
  have h7 := congrArg UInt8.toNat h8
  rw [UInt8.toNat_ofNat'] at h7
  have h6 : c.toNat % 2 ^ 8 = c.toNat := Nat.mod_eq_of_lt (by omega)
  rw [h6] at h7
  have h5 : (2 : UInt8).toNat = 2 := rfl
  omega
theorem rm1 {n k : Int} (h : (n.tmod 250 + 250).tmod 250 = k) : binV .rem (.int .i64 (wrapK .i64 (n.tmod 250 + 250))) (.int .i64 250) = some (.int .i64 k) := by
  have h1 := Int.tmod_lt_of_pos n (show (0 : Int) < 250 by decide)
  have h2 := Int.lt_tmod_of_pos n (show (0 : Int) < 250 by decide)
  rw [wrap_small (by omega)]
  simp [binV, binI, h]
theorem rm2 {n k : Int} (h : ((n.tmod 250 + 250).tmod 250 + 1).tmod 250 = k) : binV .rem (.int .i64 (wrapK .i64 (((wrapK .i64 (n.tmod 250 + 250)).tmod 250) + 1))) (.int .i64 250) = some (.int .i64 k) := by
  have h1 := Int.tmod_lt_of_pos n (show (0 : Int) < 250 by decide)
  have h2 := Int.lt_tmod_of_pos n (show (0 : Int) < 250 by decide)
  rw [wrap_small (n := n.tmod 250 + 250) (by omega)]
  have h3 := Int.tmod_lt_of_pos (n.tmod 250 + 250) (show (0 : Int) < 250 by decide)
  have h4 := Int.tmod_nonneg 250 (show 0 ≤ n.tmod 250 + 250 by omega)
  rw [wrap_small (by omega)]
  simp [binV, binI, h]
theorem tm250 (n : Int) : (n.tmod 250 + 250).tmod 250 = 1 ∨ ∃ c : Int, ((n.tmod 250 + 250).tmod 250 + 1).tmod 250 = c ∧ (0 ≤ c ∧ c < 250) ∧ c ≠ 2 := by
  have h1 := Int.tmod_lt_of_pos n (show (0 : Int) < 250 by decide)
  have h2 := Int.lt_tmod_of_pos n (show (0 : Int) < 250 by decide)
  have h3 := Int.tmod_lt_of_pos (n.tmod 250 + 250) (show (0 : Int) < 250 by decide)
  have h4 := Int.tmod_nonneg 250 (show 0 ≤ n.tmod 250 + 250 by omega)
  generalize (n.tmod 250 + 250).tmod 250 = k at h3 h4
  by_cases hk : k = 1
  · exact .inl hk
  · refine .inr ⟨_, rfl, ?_, ?_⟩
    · rw [Int.tmod_eq_emod_of_nonneg (by omega)]; omega
    · rw [Int.tmod_eq_emod_of_nonneg (by omega)]; omega
def cut8 (body : Str) : Str := extractL body 0 (((if (8 : Int) < ((body : Str).length : Int) then 8 else ((body : Str).length : Int)) : Int).toNat)
theorem cut8_len (body : Str) : (cut8 body).length ≤ 8 := by
  unfold cut8 extractL
  rw [List.length_take]
  split <;> omega
theorem size8 (a b : Gw.Offer) : 8 ≤ (dealL (fineO a) (fineO b)).size := by
  have h := hiL4 (n := (fineO b).size) (by have := (mayO_fine b).z; omega)
  show 8 ≤ sizeL (hiL (fineO b).size)
  rcases cases4 h with e | e | e | e <;> rw [e] <;> decide
theorem gtr8 (body : Str) {z : Int} (h : 8 ≤ z) : binV .gtr (.int .i64 (((cut8 body) : Str).length : Int)) (.int .i64 (if (64 : Int) < z then 64 else z)) = some (.bool false) := by
  have := cut8_len body
  simp [binV, binI]
  split <;> omega
inductive IRK
  | c0
  | c1
  | c2
  | c3
  | c4
  | c5
def RWRK (a : Gw.Offer) (b : Gw.Offer) (bv : V) (R : List V) (ss : List Str) (qv : V) (count : Int) (u : Int) (v : Int) (v1 : Int) (w1 : V) (q : Option Blk) : List (Option Blk) := [some (.cells true (zsV .u8 kT0)), some (.cells true (zsV .u8 kT1)), some (.cells true (zsV .u8 kT2)), some (.cells true R), cF a.vs, cF b.vs, none, cF [.int .u32 1, vi 0, vi (fineO a).baud, vi (fineO a).silent, vi (fineO a).win, vi (fineO a).size, vi (fineO a).wait, vi 2, .int .u32 2, vi 0, vi 1, vi (dealL (fineO a) (fineO b)).baud, vi 200, vi (dealL (fineO a) (fineO b)).win, vi (dealL (fineO a) (fineO b)).size, vi u, .ptr 8 0, vi 1, vi 0, vi 0, vi 0, vi 0, vi u, vi 0, .bool false, .bool false, .bool false, .nils], cF [vi 1, vi (if (64 : Int) < (dealL (fineO a) (fineO b)).size then 64 else (dealL (fineO a) (fineO b)).size), .ptr 9 0, .ptr 10 0, .bool true], cF [vi (if (7 : Int) < (if (1 : Int) > (dealL (fineO a) (fineO b)).win then 1 else (dealL (fineO a) (fineO b)).win) then 7 else (if (1 : Int) > (dealL (fineO a) (fineO b)).win then 1 else (dealL (fineO a) (fineO b)).win)), w1, vi 0, vi 0], cF [vi 0, .bool false], cF [.int .u32 2, vi 1, vi (fineO b).baud, vi (fineO b).silent, vi (fineO b).win, vi (fineO b).size, vi (fineO b).wait, vi 2, .int .u32 1, vi 0, vi 1, vi (dealL (fineO b) (fineO a)).baud, vi 200, vi (dealL (fineO b) (fineO a)).win, vi (dealL (fineO b) (fineO a)).size, vi v, .ptr 12 0, vi 0, vi 0, vi 0, vi 0, vi 0, vi 0, vi v1, .bool false, .bool false, .bool false, .nils], cF [vi 2, vi (if (64 : Int) < (dealL (fineO b) (fineO a)).size then 64 else (dealL (fineO b) (fineO a)).size), .ptr 13 0, .ptr 14 0, .bool false], cF [vi (if (7 : Int) < (if (1 : Int) > (dealL (fineO b) (fineO a)).win then 1 else (dealL (fineO b) (fineO a)).win) then 7 else (if (1 : Int) > (dealL (fineO b) (fineO a)).win then 1 else (dealL (fineO b) (fineO a)).win)), .nils, vi 0, vi 0], cF [vi 0, .bool false], q]
def SNRK (a : Gw.Offer) (b : Gw.Offer) (bv : V) (R : List V) (ss : List Str) (qv : V) (count : Int) (u : Int) (v : Int) (v1 : Int) (w0 : V) (w1 : V) (q : Option Blk) : Snap := ([.agg a.vs, .agg b.vs, bv, vi count, .ptr 4 0, .ptr 5 0, .bool false, .bool true, .ptr 7 0, .ptr 11 0, w0, .bool true, .bool true, .bool false, .tup [.ptr 7 0, .ptr 11 0], .agg a.vs, .agg (fineO a).vs, .agg b.vs, .agg (fineO b).vs, .tup [.ptr 7 0, .ptr 11 0], .ptr 7 0, .ptr 11 0, .ptr 7 0, .bool false, .bool false, .ptr 11 0, .bool false, .bool false], RWRK a b bv R ss qv count u v v1 w1 q)
def SSRK (a : Gw.Offer) (b : Gw.Offer) (bv : V) (R : List V) (ss : List Str) (qv : V) (count : Int) (u : Int) (v : Int) (v1 : Int) (i : IRK) : Snap := match i with
  | .c0 => SNRK a b bv R ss qv count u v v1 (vi 0) (.nils) none
  | .c1 => SNRK a b bv R ss qv count u v v1 (vi 1) (.slice 15 0 1 1 none) (some (.cells false ((ss.take 1).map fun s => V.str (cut8 s))))
  | .c2 => SNRK a b bv R ss qv count u v v1 (vi 2) (.slice 15 0 2 1 none) (some (.cells false ((ss.take 2).map fun s => V.str (cut8 s))))
  | .c3 => SNRK a b bv R ss qv count u v v1 (vi 3) (.slice 15 0 3 1 none) (some (.cells false ((ss.take 3).map fun s => V.str (cut8 s))))
  | .c4 => SNRK a b bv R ss qv count u v v1 (vi 4) (.slice 15 0 4 1 none) (some (.cells false ((ss.take 4).map fun s => V.str (cut8 s))))
  | .c5 => SNRK a b bv R ss qv count u v v1 (vi 5) (.slice 15 0 5 1 none) (some (.cells false ((ss.take 5).map fun s => V.str (cut8 s))))
def XNRK (a : Gw.Offer) (b : Gw.Offer) (bv : V) (R : List V) (ss : List Str) (qv : V) (count : Int) (u : Int) (v : Int) (v1 : Int) (w1 : V) : Snap := ([.agg a.vs, .agg b.vs, vi count, .ptr 4 0, .ptr 5 0, .bool false, .bool true, .ptr 7 0, .ptr 11 0, .bool true, .bool true, .bool false, .tup [.ptr 7 0, .ptr 11 0], .agg a.vs, .agg (fineO a).vs, .agg b.vs, .agg (fineO b).vs, .tup [.ptr 7 0, .ptr 11 0], .ptr 7 0, .ptr 11 0, .ptr 7 0, .bool false, .bool false, .ptr 11 0, .bool false, .bool false], [some (.cells true (zsV .u8 kT0)), some (.cells true (zsV .u8 kT1)), some (.cells true (zsV .u8 kT2)), some (.cells true R), cF a.vs, cF b.vs, none, cF [.int .u32 1, vi 0, vi (fineO a).baud, vi (fineO a).silent, vi (fineO a).win, vi (fineO a).size, vi (fineO a).wait, vi 2, .int .u32 2, vi 0, vi 1, vi (dealL (fineO a) (fineO b)).baud, vi 200, vi (dealL (fineO a) (fineO b)).win, vi (dealL (fineO a) (fineO b)).size, vi u, .ptr 8 0, vi 1, vi 0, vi 0, vi 0, vi 0, vi u, vi 0, .bool false, .bool false, .bool false, .nils], cF [vi 1, vi (if (64 : Int) < (dealL (fineO a) (fineO b)).size then 64 else (dealL (fineO a) (fineO b)).size), .ptr 9 0, .ptr 10 0, .bool true], cF [vi (if (7 : Int) < (if (1 : Int) > (dealL (fineO a) (fineO b)).win then 1 else (dealL (fineO a) (fineO b)).win) then 7 else (if (1 : Int) > (dealL (fineO a) (fineO b)).win then 1 else (dealL (fineO a) (fineO b)).win)), w1, vi 0, vi 0], cF [vi 0, .bool false], cF [.int .u32 2, vi 1, vi (fineO b).baud, vi (fineO b).silent, vi (fineO b).win, vi (fineO b).size, vi (fineO b).wait, vi 2, .int .u32 1, vi 0, vi 1, vi (dealL (fineO b) (fineO a)).baud, vi 200, vi (dealL (fineO b) (fineO a)).win, vi (dealL (fineO b) (fineO a)).size, vi v, .ptr 12 0, vi 0, vi 0, vi 0, vi 0, vi 0, vi 0, vi v1, .bool false, .bool false, .bool false, .nils], cF [vi 2, vi (if (64 : Int) < (dealL (fineO b) (fineO a)).size then 64 else (dealL (fineO b) (fineO a)).size), .ptr 13 0, .ptr 14 0, .bool false], cF [vi (if (7 : Int) < (if (1 : Int) > (dealL (fineO b) (fineO a)).win then 1 else (dealL (fineO b) (fineO a)).win) then 7 else (if (1 : Int) > (dealL (fineO b) (fineO a)).win then 1 else (dealL (fineO b) (fineO a)).win)), .nils, vi 0, vi 0], cF [vi 0, .bool false]])
def invRK (a : Gw.Offer) (b : Gw.Offer) (bv : V) (R : List V) (ss : List Str) (qv : V) (count : Int) (u : Int) (v : Int) (v1 : Int) (i : IRK) : Prop := match i with
  | .c0 => 0 ≤ ss.length
  | .c1 => 1 ≤ ss.length
  | .c2 => 2 ≤ ss.length
  | .c3 => 3 ≤ ss.length
  | .c4 => 4 ≤ ss.length
  | .c5 => 5 ≤ ss.length
def muRK (i : IRK) : Nat := match i with
  | .c0 => 6
  | .c1 => 5
  | .c2 => 4
  | .c3 => 3
  | .c4 => 2
  | .c5 => 1
def loopRK (a : Gw.Offer) (b : Gw.Offer) (bv : V) (R : List V) (ss : List Str) (qv : V) (count : Int) (u : Int) (v : Int) (v1 : Int) : LoopD IRK where
  nt := 180
  fr := fun ex => match ex with | .normal => ⟨[0, 1, 2, 3, 4, 5, 8, 9, 10, 11, 12, 19, 20, 21, 22, 23, 24, 25, 26, 27, 28, 29, 30, 31, 32, 33, 34, 35], 15, [.c 9 1]⟩ | .exit _ => ⟨[0, 1, 3, 4, 5, 8, 9, 10, 11, 19, 20, 21, 22, 23, 24, 25, 26, 27, 28, 29, 30, 31, 32, 33, 34, 35], 15, []⟩ | .ret => ⟨[], 15, []⟩
  S := SSRK a b bv R ss qv count u v v1
  out := fun i => .ob (invRK a b bv R ss qv count u v v1 i) (.leaf ((.exit 0), XNRK a b bv R ss qv count u v v1 qv))
  pick := fun _ => .c0
def lpRK : DC := (((loopsIn 0 (dOf 8).body)[0]?).getD (0, .skip)).2
def orcRK0 (a : Gw.Offer) (b : Gw.Offer) (count : Int) (u : Int) (v : Int) (v1 : Int) (i : IRK) : Orc := match i with
  | .c0 => noOrc
  | .c1 => noOrc
  | .c2 => noOrc
  | .c3 => noOrc
  | .c4 => noOrc
  | .c5 => noOrc
def orcsRK0 (a : Gw.Offer) (b : Gw.Offer) (count : Int) (u : Int) (v : Int) (v1 : Int) (i : IRK) : Nat → Orc := match i with
  | .c0 => (fun _ => noOrc)
  | .c1 => (fun _ => noOrc)
  | .c2 => (fun _ => noOrc)
  | .c3 => (fun _ => noOrc)
  | .c4 => (fun _ => noOrc)
  | .c5 => (fun _ => noOrc)
def stsRK0 (i : IRK) : Nat → List Nat := match i with
  | .c0 => (fun k => match k with | 8 => [39] | _ => [])
  | .c1 => (fun k => match k with | 8 => [39] | _ => [])
  | .c2 => (fun k => match k with | 8 => [39] | _ => [])
  | .c3 => (fun k => match k with | 8 => [39] | _ => [])
  | .c4 => (fun k => match k with | 8 => [39] | _ => [])
  | .c5 => (fun k => match k with | 8 => [39] | _ => [])
def stRK0 (i : IRK) : List Nat := match i with
  | .c0 => [39]
  | .c1 => [39]
  | .c2 => [39]
  | .c3 => [39]
  | .c4 => [39]
  | .c5 => [39]
def treeRK0_0 (a : Gw.Offer) (b : Gw.Offer) (count : Int) (u : Int) (v : Int) (v1 : Int) : DT (Ex × Snap) :=
  .leaf ((.exit 0), XNRK a b (.slice 3 0 0 1 none) [] [] (.nils) count u v v1 (.nils))
set_option maxRecDepth 1000000 in
theorem treeRK0_0_eq (a : Gw.Offer) (b : Gw.Offer) (count : Int) (u : Int) (v : Int) (v1 : Int) : rnd (orcsRK0 a b count u v v1 .c0) (stsRK0 .c0) (orcRK0 a b count u v v1 .c0) (stRK0 .c0) noLt 0 lpRK ((loopRK a b (.slice 3 0 0 1 none) [] [] (.nils) count u v v1).t0 .c0) [] ((loopRK a b (.slice 3 0 0 1 none) [] [] (.nils) count u v v1).h0 .c0) (loopRK a b (.slice 3 0 0 1 none) [] [] (.nils) count u v v1).end_ = treeRK0_0 a b count u v v1 := by kernel_rfl
def treeRK0_1 (a : Gw.Offer) (b : Gw.Offer) (count : Int) (u : Int) (v : Int) (v1 : Int) : DT (Ex × Snap) :=
  .leaf ((.exit 0), XNRK a b (.slice 3 0 0 1 none) [] [] (.nils) count u v v1 (.tup [.tup []]))
set_option maxRecDepth 1000000 in
theorem treeRK0_1_eq (a : Gw.Offer) (b : Gw.Offer) (count : Int) (u : Int) (v : Int) (v1 : Int) : rnd (orcsRK0 a b count u v v1 .c1) (stsRK0 .c1) (orcRK0 a b count u v v1 .c1) (stRK0 .c1) noLt 0 lpRK ((loopRK a b (.slice 3 0 0 1 none) [] [] (.nils) count u v v1).t0 .c1) [] ((loopRK a b (.slice 3 0 0 1 none) [] [] (.nils) count u v v1).h0 .c1) (loopRK a b (.slice 3 0 0 1 none) [] [] (.nils) count u v v1).end_ = treeRK0_1 a b count u v v1 := by kernel_rfl
def treeRK0_2 (a : Gw.Offer) (b : Gw.Offer) (count : Int) (u : Int) (v : Int) (v1 : Int) : DT (Ex × Snap) :=
  .leaf ((.exit 0), XNRK a b (.slice 3 0 0 1 none) [] [] (.nils) count u v v1 (.tup [.tup []]))
set_option maxRecDepth 1000000 in
theorem treeRK0_2_eq (a : Gw.Offer) (b : Gw.Offer) (count : Int) (u : Int) (v : Int) (v1 : Int) : rnd (orcsRK0 a b count u v v1 .c2) (stsRK0 .c2) (orcRK0 a b count u v v1 .c2) (stRK0 .c2) noLt 0 lpRK ((loopRK a b (.slice 3 0 0 1 none) [] [] (.nils) count u v v1).t0 .c2) [] ((loopRK a b (.slice 3 0 0 1 none) [] [] (.nils) count u v v1).h0 .c2) (loopRK a b (.slice 3 0 0 1 none) [] [] (.nils) count u v v1).end_ = treeRK0_2 a b count u v v1 := by kernel_rfl
def treeRK0_3 (a : Gw.Offer) (b : Gw.Offer) (count : Int) (u : Int) (v : Int) (v1 : Int) : DT (Ex × Snap) :=
  .leaf ((.exit 0), XNRK a b (.slice 3 0 0 1 none) [] [] (.nils) count u v v1 (.tup [.tup []]))
set_option maxRecDepth 1000000 in
theorem treeRK0_3_eq (a : Gw.Offer) (b : Gw.Offer) (count : Int) (u : Int) (v : Int) (v1 : Int) : rnd (orcsRK0 a b count u v v1 .c3) (stsRK0 .c3) (orcRK0 a b count u v v1 .c3) (stRK0 .c3) noLt 0 lpRK ((loopRK a b (.slice 3 0 0 1 none) [] [] (.nils) count u v v1).t0 .c3) [] ((loopRK a b (.slice 3 0 0 1 none) [] [] (.nils) count u v v1).h0 .c3) (loopRK a b (.slice 3 0 0 1 none) [] [] (.nils) count u v v1).end_ = treeRK0_3 a b count u v v1 := by kernel_rfl
def treeRK0_4 (a : Gw.Offer) (b : Gw.Offer) (count : Int) (u : Int) (v : Int) (v1 : Int) : DT (Ex × Snap) :=
  .leaf ((.exit 0), XNRK a b (.slice 3 0 0 1 none) [] [] (.nils) count u v v1 (.tup [.tup []]))
set_option maxRecDepth 1000000 in
theorem treeRK0_4_eq (a : Gw.Offer) (b : Gw.Offer) (count : Int) (u : Int) (v : Int) (v1 : Int) : rnd (orcsRK0 a b count u v v1 .c4) (stsRK0 .c4) (orcRK0 a b count u v v1 .c4) (stRK0 .c4) noLt 0 lpRK ((loopRK a b (.slice 3 0 0 1 none) [] [] (.nils) count u v v1).t0 .c4) [] ((loopRK a b (.slice 3 0 0 1 none) [] [] (.nils) count u v v1).h0 .c4) (loopRK a b (.slice 3 0 0 1 none) [] [] (.nils) count u v v1).end_ = treeRK0_4 a b count u v v1 := by kernel_rfl
def treeRK0_5 (a : Gw.Offer) (b : Gw.Offer) (count : Int) (u : Int) (v : Int) (v1 : Int) : DT (Ex × Snap) :=
  .leaf ((.exit 0), XNRK a b (.slice 3 0 0 1 none) [] [] (.nils) count u v v1 (.tup [.tup []]))
set_option maxRecDepth 1000000 in
theorem treeRK0_5_eq (a : Gw.Offer) (b : Gw.Offer) (count : Int) (u : Int) (v : Int) (v1 : Int) : rnd (orcsRK0 a b count u v v1 .c5) (stsRK0 .c5) (orcRK0 a b count u v v1 .c5) (stRK0 .c5) noLt 0 lpRK ((loopRK a b (.slice 3 0 0 1 none) [] [] (.nils) count u v v1).t0 .c5) [] ((loopRK a b (.slice 3 0 0 1 none) [] [] (.nils) count u v v1).h0 .c5) (loopRK a b (.slice 3 0 0 1 none) [] [] (.nils) count u v v1).end_ = treeRK0_5 a b count u v v1 := by kernel_rfl
def treeRK0L (a : Gw.Offer) (b : Gw.Offer) (count : Int) (u : Int) (v : Int) (v1 : Int) (i : IRK) : DT (Ex × Snap) := match i with
  | .c0 => treeRK0_0 a b count u v v1
  | .c1 => treeRK0_1 a b count u v v1
  | .c2 => treeRK0_2 a b count u v v1
  | .c3 => treeRK0_3 a b count u v v1
  | .c4 => treeRK0_4 a b count u v v1
  | .c5 => treeRK0_5 a b count u v v1
theorem roundRK0 (a : Gw.Offer) (b : Gw.Offer) (count : Int) (u : Int) (v : Int) (v1 : Int) (i : IRK) (Pr : Ex × Snap → Prop) (h : ((loopRK a b (.slice 3 0 0 1 none) [] [] (.nils) count u v v1).out i).sat Pr) : (treeRK0L a b count u v v1 i).sat ((loopRK a b (.slice 3 0 0 1 none) [] [] (.nils) count u v v1).next muRK i Pr) := by
  match i with
  | .c0 =>
    have hi : invRK a b (.slice 3 0 0 1 none) [] [] (.nils) count u v v1 .c0 := h.1
    have hX := h.2
    exact sat_leaf (hX)
  | .c1 =>
    have hi : invRK a b (.slice 3 0 0 1 none) [] [] (.nils) count u v v1 .c1 := h.1
    have hX := h.2
    exact sat_leaf (absurd hi (by simp [invRK]))
  | .c2 =>
    have hi : invRK a b (.slice 3 0 0 1 none) [] [] (.nils) count u v v1 .c2 := h.1
    have hX := h.2
    exact sat_leaf (absurd hi (by simp [invRK]))
  | .c3 =>
    have hi : invRK a b (.slice 3 0 0 1 none) [] [] (.nils) count u v v1 .c3 := h.1
    have hX := h.2
    exact sat_leaf (absurd hi (by simp [invRK]))
  | .c4 =>
    have hi : invRK a b (.slice 3 0 0 1 none) [] [] (.nils) count u v v1 .c4 := h.1
    have hX := h.2
    exact sat_leaf (absurd hi (by simp [invRK]))
  | .c5 =>
    have hi : invRK a b (.slice 3 0 0 1 none) [] [] (.nils) count u v v1 .c5 := h.1
    have hX := h.2
    exact sat_leaf (absurd hi (by simp [invRK]))
set_option maxRecDepth 1000000 in
theorem ltRK0_ok (a : Gw.Offer) (b : Gw.Offer) (count : Int) (u : Int) (v : Int) (v1 : Int) (hint : Nat → List Nat) : Lt1 Tryz.prog hint 4 (loopRK a b (.slice 3 0 0 1 none) [] [] (.nils) count u v v1).lt lpRK :=
  LoopD.lt1c mixed (show TabX Tryz.prog noPX oxM from tabM) tabD (loopRK a b (.slice 3 0 0 1 none) [] [] (.nils) count u v v1) muRK (fun ex => match ex with | .normal => ⟨show 3 ≤ 15 by decide, show 4 ≤ 15 by decide⟩ | .exit _ => ⟨show 3 ≤ 15 by decide, show 4 ≤ 15 by decide⟩ | .ret => ⟨show 3 ≤ 15 by decide, show 4 ≤ 15 by decide⟩) (orcs := orcsRK0 a b count u v v1) (sts := stsRK0) (orc := orcRK0 a b count u v v1) (st := stRK0) (tree := treeRK0L a b count u v v1)
    (fun i => match i with
    | .c0 => treeRK0_0_eq a b count u v v1
    | .c1 => treeRK0_1_eq a b count u v v1
    | .c2 => treeRK0_2_eq a b count u v v1
    | .c3 => treeRK0_3_eq a b count u v v1
    | .c4 => treeRK0_4_eq a b count u v v1
    | .c5 => treeRK0_5_eq a b count u v v1) (roundRK0 a b count u v v1)
def orcRK1 (a : Gw.Offer) (b : Gw.Offer) (s0 : Str) (count : Int) (u : Int) (v : Int) (v1 : Int) (i : IRK) : Orc := match i with
  | .c0 => noOrc
  | .c1 => noOrc
  | .c2 => noOrc
  | .c3 => noOrc
  | .c4 => noOrc
  | .c5 => noOrc
def orcsRK1 (a : Gw.Offer) (b : Gw.Offer) (s0 : Str) (count : Int) (u : Int) (v : Int) (v1 : Int) (i : IRK) : Nat → Orc := match i with
  | .c0 => (fun g => match g with | 31 => (fun k => match k with | 58 => some fun t h => (.bool true, h) | 63 => some fun t h => (.bool true, h) | _ => none) | 33 => (fun k => match k with | 15 => some fun t h => (.bool false, h) | _ => none) | _ => noOrc)
  | .c1 => (fun _ => noOrc)
  | .c2 => (fun _ => noOrc)
  | .c3 => (fun _ => noOrc)
  | .c4 => (fun _ => noOrc)
  | .c5 => (fun _ => noOrc)
def stsRK1 (i : IRK) : Nat → List Nat := match i with
  | .c0 => (fun k => match k with | 8 => [39, 42] | 12 => [10, 15, 20, 25, 30, 31, 37, 41, 50, 81] | 31 => [10, 33, 34, 52, 58, 63] | 33 => [15] | 67 => [14] | _ => [])
  | .c1 => (fun k => match k with | 8 => [39] | _ => [])
  | .c2 => (fun k => match k with | 8 => [39] | _ => [])
  | .c3 => (fun k => match k with | 8 => [39] | _ => [])
  | .c4 => (fun k => match k with | 8 => [39] | _ => [])
  | .c5 => (fun k => match k with | 8 => [39] | _ => [])
def stRK1 (i : IRK) : List Nat := match i with
  | .c0 => [39, 42]
  | .c1 => [39]
  | .c2 => [39]
  | .c3 => [39]
  | .c4 => [39]
  | .c5 => [39]
def treeRK1_0 (a : Gw.Offer) (b : Gw.Offer) (s0 : Str) (count : Int) (u : Int) (v : Int) (v1 : Int) : DT (Ex × Snap) :=
  .ob (1 = 1 ∧ 0 ≤ (0 : Int) ∧ (0 : Int) < ((1 : Nat) : Int)) (
.ob ((0 ≤ ((if (8 : Int) < ((s0 : Str).length : Int) then 8 else ((s0 : Str).length : Int)) : Int) ∧ ((if (8 : Int) < ((s0 : Str).length : Int) then 8 else ((s0 : Str).length : Int)) : Int) ≤ (((s0 : Str).length : Nat) : Int)) ∧ (True)) (
.ob (((eqV (.agg [.i, .i, .i, .s]) (.agg [vi 3, vi 0, .int .u32 0, .str (cut8 s0)]) (.agg [vi 3, vi 0, .int .u32 0, .str (cut8 s0)])).map fun b => V.bool (if false then !b else b)) = some (.bool true)) (
.ob (binV .leq (vi (((cut8 s0) : Str).length : Int)) (vi 64) = some (.bool true)) (
.ob (binV .gtr (vi (((cut8 s0) : Str).length : Int)) (vi (if (64 : Int) < (dealL (fineO a) (fineO b)).size then 64 else (dealL (fineO a) (fineO b)).size)) = some (.bool false)) (
.ob ((1 = 1 ∧ ([.str (cut8 s0)] : List V).length = 1 * 1) ∧ allOne [.str (cut8 s0)] = true ∧ 1 * 16 ≤ 70368744177664) (
.leaf (.normal, SNRK a b (.slice 3 0 1 1 none) [.str s0] [s0] (.tup [.tup []]) count u v v1 (vi 1) (.slice 15 0 1 1 none) (cF [.str (cut8 s0)]))))))))
set_option maxRecDepth 1000000 in
theorem treeRK1_0_eq (a : Gw.Offer) (b : Gw.Offer) (s0 : Str) (count : Int) (u : Int) (v : Int) (v1 : Int) : rnd (orcsRK1 a b s0 count u v v1 .c0) (stsRK1 .c0) (orcRK1 a b s0 count u v v1 .c0) (stRK1 .c0) noLt 0 lpRK ((loopRK a b (.slice 3 0 1 1 none) [.str s0] [s0] (.tup [.tup []]) count u v v1).t0 .c0) [] ((loopRK a b (.slice 3 0 1 1 none) [.str s0] [s0] (.tup [.tup []]) count u v v1).h0 .c0) (loopRK a b (.slice 3 0 1 1 none) [.str s0] [s0] (.tup [.tup []]) count u v v1).end_ = treeRK1_0 a b s0 count u v v1 := by kernel_rfl
def treeRK1_1 (a : Gw.Offer) (b : Gw.Offer) (s0 : Str) (count : Int) (u : Int) (v : Int) (v1 : Int) : DT (Ex × Snap) :=
  .leaf ((.exit 0), XNRK a b (.slice 3 0 1 1 none) [.str s0] [s0] (.tup [.tup []]) count u v v1 (.tup [.tup []]))
set_option maxRecDepth 1000000 in
theorem treeRK1_1_eq (a : Gw.Offer) (b : Gw.Offer) (s0 : Str) (count : Int) (u : Int) (v : Int) (v1 : Int) : rnd (orcsRK1 a b s0 count u v v1 .c1) (stsRK1 .c1) (orcRK1 a b s0 count u v v1 .c1) (stRK1 .c1) noLt 0 lpRK ((loopRK a b (.slice 3 0 1 1 none) [.str s0] [s0] (.tup [.tup []]) count u v v1).t0 .c1) [] ((loopRK a b (.slice 3 0 1 1 none) [.str s0] [s0] (.tup [.tup []]) count u v v1).h0 .c1) (loopRK a b (.slice 3 0 1 1 none) [.str s0] [s0] (.tup [.tup []]) count u v v1).end_ = treeRK1_1 a b s0 count u v v1 := by kernel_rfl
def treeRK1_2 (a : Gw.Offer) (b : Gw.Offer) (s0 : Str) (count : Int) (u : Int) (v : Int) (v1 : Int) : DT (Ex × Snap) :=
  .leaf ((.exit 0), XNRK a b (.slice 3 0 1 1 none) [.str s0] [s0] (.tup [.tup []]) count u v v1 (.tup [.tup []]))
set_option maxRecDepth 1000000 in
theorem treeRK1_2_eq (a : Gw.Offer) (b : Gw.Offer) (s0 : Str) (count : Int) (u : Int) (v : Int) (v1 : Int) : rnd (orcsRK1 a b s0 count u v v1 .c2) (stsRK1 .c2) (orcRK1 a b s0 count u v v1 .c2) (stRK1 .c2) noLt 0 lpRK ((loopRK a b (.slice 3 0 1 1 none) [.str s0] [s0] (.tup [.tup []]) count u v v1).t0 .c2) [] ((loopRK a b (.slice 3 0 1 1 none) [.str s0] [s0] (.tup [.tup []]) count u v v1).h0 .c2) (loopRK a b (.slice 3 0 1 1 none) [.str s0] [s0] (.tup [.tup []]) count u v v1).end_ = treeRK1_2 a b s0 count u v v1 := by kernel_rfl
def treeRK1_3 (a : Gw.Offer) (b : Gw.Offer) (s0 : Str) (count : Int) (u : Int) (v : Int) (v1 : Int) : DT (Ex × Snap) :=
  .leaf ((.exit 0), XNRK a b (.slice 3 0 1 1 none) [.str s0] [s0] (.tup [.tup []]) count u v v1 (.tup [.tup []]))
set_option maxRecDepth 1000000 in
theorem treeRK1_3_eq (a : Gw.Offer) (b : Gw.Offer) (s0 : Str) (count : Int) (u : Int) (v : Int) (v1 : Int) : rnd (orcsRK1 a b s0 count u v v1 .c3) (stsRK1 .c3) (orcRK1 a b s0 count u v v1 .c3) (stRK1 .c3) noLt 0 lpRK ((loopRK a b (.slice 3 0 1 1 none) [.str s0] [s0] (.tup [.tup []]) count u v v1).t0 .c3) [] ((loopRK a b (.slice 3 0 1 1 none) [.str s0] [s0] (.tup [.tup []]) count u v v1).h0 .c3) (loopRK a b (.slice 3 0 1 1 none) [.str s0] [s0] (.tup [.tup []]) count u v v1).end_ = treeRK1_3 a b s0 count u v v1 := by kernel_rfl
def treeRK1_4 (a : Gw.Offer) (b : Gw.Offer) (s0 : Str) (count : Int) (u : Int) (v : Int) (v1 : Int) : DT (Ex × Snap) :=
  .leaf ((.exit 0), XNRK a b (.slice 3 0 1 1 none) [.str s0] [s0] (.tup [.tup []]) count u v v1 (.tup [.tup []]))
set_option maxRecDepth 1000000 in
theorem treeRK1_4_eq (a : Gw.Offer) (b : Gw.Offer) (s0 : Str) (count : Int) (u : Int) (v : Int) (v1 : Int) : rnd (orcsRK1 a b s0 count u v v1 .c4) (stsRK1 .c4) (orcRK1 a b s0 count u v v1 .c4) (stRK1 .c4) noLt 0 lpRK ((loopRK a b (.slice 3 0 1 1 none) [.str s0] [s0] (.tup [.tup []]) count u v v1).t0 .c4) [] ((loopRK a b (.slice 3 0 1 1 none) [.str s0] [s0] (.tup [.tup []]) count u v v1).h0 .c4) (loopRK a b (.slice 3 0 1 1 none) [.str s0] [s0] (.tup [.tup []]) count u v v1).end_ = treeRK1_4 a b s0 count u v v1 := by kernel_rfl
def treeRK1_5 (a : Gw.Offer) (b : Gw.Offer) (s0 : Str) (count : Int) (u : Int) (v : Int) (v1 : Int) : DT (Ex × Snap) :=
  .leaf ((.exit 0), XNRK a b (.slice 3 0 1 1 none) [.str s0] [s0] (.tup [.tup []]) count u v v1 (.tup [.tup []]))
set_option maxRecDepth 1000000 in
theorem treeRK1_5_eq (a : Gw.Offer) (b : Gw.Offer) (s0 : Str) (count : Int) (u : Int) (v : Int) (v1 : Int) : rnd (orcsRK1 a b s0 count u v v1 .c5) (stsRK1 .c5) (orcRK1 a b s0 count u v v1 .c5) (stRK1 .c5) noLt 0 lpRK ((loopRK a b (.slice 3 0 1 1 none) [.str s0] [s0] (.tup [.tup []]) count u v v1).t0 .c5) [] ((loopRK a b (.slice 3 0 1 1 none) [.str s0] [s0] (.tup [.tup []]) count u v v1).h0 .c5) (loopRK a b (.slice 3 0 1 1 none) [.str s0] [s0] (.tup [.tup []]) count u v v1).end_ = treeRK1_5 a b s0 count u v v1 := by kernel_rfl
def treeRK1L (a : Gw.Offer) (b : Gw.Offer) (s0 : Str) (count : Int) (u : Int) (v : Int) (v1 : Int) (i : IRK) : DT (Ex × Snap) := match i with
  | .c0 => treeRK1_0 a b s0 count u v v1
  | .c1 => treeRK1_1 a b s0 count u v v1
  | .c2 => treeRK1_2 a b s0 count u v v1
  | .c3 => treeRK1_3 a b s0 count u v v1
  | .c4 => treeRK1_4 a b s0 count u v v1
  | .c5 => treeRK1_5 a b s0 count u v v1
theorem roundRK1 (a : Gw.Offer) (b : Gw.Offer) (s0 : Str) (count : Int) (u : Int) (v : Int) (v1 : Int) (i : IRK) (Pr : Ex × Snap → Prop) (h : ((loopRK a b (.slice 3 0 1 1 none) [.str s0] [s0] (.tup [.tup []]) count u v v1).out i).sat Pr) : (treeRK1L a b s0 count u v v1 i).sat ((loopRK a b (.slice 3 0 1 1 none) [.str s0] [s0] (.tup [.tup []]) count u v v1).next muRK i Pr) := by
  match i with
  | .c0 =>
    have hi : invRK a b (.slice 3 0 1 1 none) [.str s0] [s0] (.tup [.tup []]) count u v v1 .c0 := h.1
    have hX := h.2
    exact sat_ob (by decide) (
sat_ob ⟨by split <;> omega, trivial⟩ (
sat_ob (by first | rfl | simp [V.beq, V.beqs, allOne, V.one, byteVs, binV, binI, eqV, eqCells]) (
sat_ob (by have := cut8_len s0; simp [binV, binI]; omega) (
sat_ob (gtr8 s0 (size8 a b)) (
sat_ob (by first | rfl | simp [V.beq, V.beqs, allOne, V.one, byteVs, binV, binI, eqV, eqCells]) (
sat_leaf (⟨.c1, (by kernel_rfl), (by show  5 < 6; decide), ⟨(show 1 ≤ _ by simp), hX⟩⟩)))))))
  | .c1 =>
    have hi : invRK a b (.slice 3 0 1 1 none) [.str s0] [s0] (.tup [.tup []]) count u v v1 .c1 := h.1
    have hX := h.2
    exact sat_leaf (hX)
  | .c2 =>
    have hi : invRK a b (.slice 3 0 1 1 none) [.str s0] [s0] (.tup [.tup []]) count u v v1 .c2 := h.1
    have hX := h.2
    exact sat_leaf (absurd hi (by simp [invRK]))
  | .c3 =>
    have hi : invRK a b (.slice 3 0 1 1 none) [.str s0] [s0] (.tup [.tup []]) count u v v1 .c3 := h.1
    have hX := h.2
    exact sat_leaf (absurd hi (by simp [invRK]))
  | .c4 =>
    have hi : invRK a b (.slice 3 0 1 1 none) [.str s0] [s0] (.tup [.tup []]) count u v v1 .c4 := h.1
    have hX := h.2
    exact sat_leaf (absurd hi (by simp [invRK]))
  | .c5 =>
    have hi : invRK a b (.slice 3 0 1 1 none) [.str s0] [s0] (.tup [.tup []]) count u v v1 .c5 := h.1
    have hX := h.2
    exact sat_leaf (absurd hi (by simp [invRK]))
set_option maxRecDepth 1000000 in
theorem ltRK1_ok (a : Gw.Offer) (b : Gw.Offer) (s0 : Str) (count : Int) (u : Int) (v : Int) (v1 : Int) (hint : Nat → List Nat) : Lt1 Tryz.prog hint 4 (loopRK a b (.slice 3 0 1 1 none) [.str s0] [s0] (.tup [.tup []]) count u v v1).lt lpRK :=
  LoopD.lt1c mixed (show TabX Tryz.prog noPX oxM from tabM) tabD (loopRK a b (.slice 3 0 1 1 none) [.str s0] [s0] (.tup [.tup []]) count u v v1) muRK (fun ex => match ex with | .normal => ⟨show 3 ≤ 15 by decide, show 4 ≤ 15 by decide⟩ | .exit _ => ⟨show 3 ≤ 15 by decide, show 4 ≤ 15 by decide⟩ | .ret => ⟨show 3 ≤ 15 by decide, show 4 ≤ 15 by decide⟩) (orcs := orcsRK1 a b s0 count u v v1) (sts := stsRK1) (orc := orcRK1 a b s0 count u v v1) (st := stRK1) (tree := treeRK1L a b s0 count u v v1)
    (fun i => match i with
    | .c0 => treeRK1_0_eq a b s0 count u v v1
    | .c1 => treeRK1_1_eq a b s0 count u v v1
    | .c2 => treeRK1_2_eq a b s0 count u v v1
    | .c3 => treeRK1_3_eq a b s0 count u v v1
    | .c4 => treeRK1_4_eq a b s0 count u v v1
    | .c5 => treeRK1_5_eq a b s0 count u v v1) (roundRK1 a b s0 count u v v1)
def orcRK2 (a : Gw.Offer) (b : Gw.Offer) (s0 : Str) (s1 : Str) (count : Int) (u : Int) (v : Int) (v1 : Int) (i : IRK) : Orc := match i with
  | .c0 => noOrc
  | .c1 => noOrc
  | .c2 => noOrc
  | .c3 => noOrc
  | .c4 => noOrc
  | .c5 => noOrc
def orcsRK2 (a : Gw.Offer) (b : Gw.Offer) (s0 : Str) (s1 : Str) (count : Int) (u : Int) (v : Int) (v1 : Int) (i : IRK) : Nat → Orc := match i with
  | .c0 => (fun g => match g with | 31 => (fun k => match k with | 58 => some fun t h => (.bool true, h) | 63 => some fun t h => (.bool true, h) | _ => none) | 33 => (fun k => match k with | 15 => some fun t h => (.bool false, h) | _ => none) | _ => noOrc)
  | .c1 => (fun g => match g with | 31 => (fun k => match k with | 58 => some fun t h => (.bool true, h) | 63 => some fun t h => (.bool true, h) | _ => none) | 33 => (fun k => match k with | 15 => some fun t h => (.bool false, h) | _ => none) | _ => noOrc)
  | .c2 => (fun _ => noOrc)
  | .c3 => (fun _ => noOrc)
  | .c4 => (fun _ => noOrc)
  | .c5 => (fun _ => noOrc)
def stsRK2 (i : IRK) : Nat → List Nat := match i with
  | .c0 => (fun k => match k with | 8 => [39, 42] | 12 => [10, 15, 20, 25, 30, 31, 37, 41, 50, 81] | 31 => [10, 33, 34, 52, 58, 63] | 33 => [15] | 67 => [14] | _ => [])
  | .c1 => (fun k => match k with | 8 => [39, 42] | 12 => [10, 15, 20, 25, 30, 31, 37, 41, 50, 81] | 31 => [10, 33, 34, 52, 58, 63] | 33 => [15] | 67 => [14] | _ => [])
  | .c2 => (fun k => match k with | 8 => [39] | _ => [])
  | .c3 => (fun k => match k with | 8 => [39] | _ => [])
  | .c4 => (fun k => match k with | 8 => [39] | _ => [])
  | .c5 => (fun k => match k with | 8 => [39] | _ => [])
def stRK2 (i : IRK) : List Nat := match i with
  | .c0 => [39, 42]
  | .c1 => [39, 42]
  | .c2 => [39]
  | .c3 => [39]
  | .c4 => [39]
  | .c5 => [39]
def treeRK2_0 (a : Gw.Offer) (b : Gw.Offer) (s0 : Str) (s1 : Str) (count : Int) (u : Int) (v : Int) (v1 : Int) : DT (Ex × Snap) :=
  .ob (1 = 1 ∧ 0 ≤ (0 : Int) ∧ (0 : Int) < ((2 : Nat) : Int)) (
.ob ((0 ≤ ((if (8 : Int) < ((s0 : Str).length : Int) then 8 else ((s0 : Str).length : Int)) : Int) ∧ ((if (8 : Int) < ((s0 : Str).length : Int) then 8 else ((s0 : Str).length : Int)) : Int) ≤ (((s0 : Str).length : Nat) : Int)) ∧ (True)) (
.ob (((eqV (.agg [.i, .i, .i, .s]) (.agg [vi 3, vi 0, .int .u32 0, .str (cut8 s0)]) (.agg [vi 3, vi 0, .int .u32 0, .str (cut8 s0)])).map fun b => V.bool (if false then !b else b)) = some (.bool true)) (
.ob (binV .leq (vi (((cut8 s0) : Str).length : Int)) (vi 64) = some (.bool true)) (
.ob (binV .gtr (vi (((cut8 s0) : Str).length : Int)) (vi (if (64 : Int) < (dealL (fineO a) (fineO b)).size then 64 else (dealL (fineO a) (fineO b)).size)) = some (.bool false)) (
.ob ((1 = 1 ∧ ([.str (cut8 s0)] : List V).length = 1 * 1) ∧ allOne [.str (cut8 s0)] = true ∧ 1 * 16 ≤ 70368744177664) (
.leaf (.normal, SNRK a b (.slice 3 0 2 1 none) [.str s0, .str s1] [s0, s1] (.tup [.tup []]) count u v v1 (vi 1) (.slice 15 0 1 1 none) (cF [.str (cut8 s0)]))))))))
set_option maxRecDepth 1000000 in
theorem treeRK2_0_eq (a : Gw.Offer) (b : Gw.Offer) (s0 : Str) (s1 : Str) (count : Int) (u : Int) (v : Int) (v1 : Int) : rnd (orcsRK2 a b s0 s1 count u v v1 .c0) (stsRK2 .c0) (orcRK2 a b s0 s1 count u v v1 .c0) (stRK2 .c0) noLt 0 lpRK ((loopRK a b (.slice 3 0 2 1 none) [.str s0, .str s1] [s0, s1] (.tup [.tup []]) count u v v1).t0 .c0) [] ((loopRK a b (.slice 3 0 2 1 none) [.str s0, .str s1] [s0, s1] (.tup [.tup []]) count u v v1).h0 .c0) (loopRK a b (.slice 3 0 2 1 none) [.str s0, .str s1] [s0, s1] (.tup [.tup []]) count u v v1).end_ = treeRK2_0 a b s0 s1 count u v v1 := by kernel_rfl
def treeRK2_1 (a : Gw.Offer) (b : Gw.Offer) (s0 : Str) (s1 : Str) (count : Int) (u : Int) (v : Int) (v1 : Int) : DT (Ex × Snap) :=
  .ob (1 = 1 ∧ 0 ≤ (1 : Int) ∧ (1 : Int) < ((2 : Nat) : Int)) (
.ob ((0 ≤ ((if (8 : Int) < ((s1 : Str).length : Int) then 8 else ((s1 : Str).length : Int)) : Int) ∧ ((if (8 : Int) < ((s1 : Str).length : Int) then 8 else ((s1 : Str).length : Int)) : Int) ≤ (((s1 : Str).length : Nat) : Int)) ∧ (True)) (
.ob (((eqV (.agg [.i, .i, .i, .s]) (.agg [vi 3, vi 0, .int .u32 0, .str (cut8 s1)]) (.agg [vi 3, vi 0, .int .u32 0, .str (cut8 s1)])).map fun b => V.bool (if false then !b else b)) = some (.bool true)) (
.ob (binV .leq (vi (((cut8 s1) : Str).length : Int)) (vi 64) = some (.bool true)) (
.ob (binV .gtr (vi (((cut8 s1) : Str).length : Int)) (vi (if (64 : Int) < (dealL (fineO a) (fineO b)).size then 64 else (dealL (fineO a) (fineO b)).size)) = some (.bool false)) (
.ob ((1 = 1 ∧ ([.str (cut8 s1)] : List V).length = 1 * 1) ∧ allOne [.str (cut8 s1)] = true ∧ 1 = 1 ∧ 2 * 16 ≤ 70368744177664 ∧ ([.str (cut8 s0)] : List V).length = 1 * 1) (
.leaf (.normal, SNRK a b (.slice 3 0 2 1 none) [.str s0, .str s1] [s0, s1] (.tup [.tup []]) count u v v1 (vi 2) (.slice 15 0 2 1 none) (cF [.str (cut8 s0), .str (cut8 s1)]))))))))
set_option maxRecDepth 1000000 in
theorem treeRK2_1_eq (a : Gw.Offer) (b : Gw.Offer) (s0 : Str) (s1 : Str) (count : Int) (u : Int) (v : Int) (v1 : Int) : rnd (orcsRK2 a b s0 s1 count u v v1 .c1) (stsRK2 .c1) (orcRK2 a b s0 s1 count u v v1 .c1) (stRK2 .c1) noLt 0 lpRK ((loopRK a b (.slice 3 0 2 1 none) [.str s0, .str s1] [s0, s1] (.tup [.tup []]) count u v v1).t0 .c1) [] ((loopRK a b (.slice 3 0 2 1 none) [.str s0, .str s1] [s0, s1] (.tup [.tup []]) count u v v1).h0 .c1) (loopRK a b (.slice 3 0 2 1 none) [.str s0, .str s1] [s0, s1] (.tup [.tup []]) count u v v1).end_ = treeRK2_1 a b s0 s1 count u v v1 := by kernel_rfl
def treeRK2_2 (a : Gw.Offer) (b : Gw.Offer) (s0 : Str) (s1 : Str) (count : Int) (u : Int) (v : Int) (v1 : Int) : DT (Ex × Snap) :=
  .leaf ((.exit 0), XNRK a b (.slice 3 0 2 1 none) [.str s0, .str s1] [s0, s1] (.tup [.tup []]) count u v v1 (.tup [.tup []]))
set_option maxRecDepth 1000000 in
theorem treeRK2_2_eq (a : Gw.Offer) (b : Gw.Offer) (s0 : Str) (s1 : Str) (count : Int) (u : Int) (v : Int) (v1 : Int) : rnd (orcsRK2 a b s0 s1 count u v v1 .c2) (stsRK2 .c2) (orcRK2 a b s0 s1 count u v v1 .c2) (stRK2 .c2) noLt 0 lpRK ((loopRK a b (.slice 3 0 2 1 none) [.str s0, .str s1] [s0, s1] (.tup [.tup []]) count u v v1).t0 .c2) [] ((loopRK a b (.slice 3 0 2 1 none) [.str s0, .str s1] [s0, s1] (.tup [.tup []]) count u v v1).h0 .c2) (loopRK a b (.slice 3 0 2 1 none) [.str s0, .str s1] [s0, s1] (.tup [.tup []]) count u v v1).end_ = treeRK2_2 a b s0 s1 count u v v1 := by kernel_rfl
def treeRK2_3 (a : Gw.Offer) (b : Gw.Offer) (s0 : Str) (s1 : Str) (count : Int) (u : Int) (v : Int) (v1 : Int) : DT (Ex × Snap) :=
  .leaf ((.exit 0), XNRK a b (.slice 3 0 2 1 none) [.str s0, .str s1] [s0, s1] (.tup [.tup []]) count u v v1 (.tup [.tup []]))
set_option maxRecDepth 1000000 in
theorem treeRK2_3_eq (a : Gw.Offer) (b : Gw.Offer) (s0 : Str) (s1 : Str) (count : Int) (u : Int) (v : Int) (v1 : Int) : rnd (orcsRK2 a b s0 s1 count u v v1 .c3) (stsRK2 .c3) (orcRK2 a b s0 s1 count u v v1 .c3) (stRK2 .c3) noLt 0 lpRK ((loopRK a b (.slice 3 0 2 1 none) [.str s0, .str s1] [s0, s1] (.tup [.tup []]) count u v v1).t0 .c3) [] ((loopRK a b (.slice 3 0 2 1 none) [.str s0, .str s1] [s0, s1] (.tup [.tup []]) count u v v1).h0 .c3) (loopRK a b (.slice 3 0 2 1 none) [.str s0, .str s1] [s0, s1] (.tup [.tup []]) count u v v1).end_ = treeRK2_3 a b s0 s1 count u v v1 := by kernel_rfl
def treeRK2_4 (a : Gw.Offer) (b : Gw.Offer) (s0 : Str) (s1 : Str) (count : Int) (u : Int) (v : Int) (v1 : Int) : DT (Ex × Snap) :=
  .leaf ((.exit 0), XNRK a b (.slice 3 0 2 1 none) [.str s0, .str s1] [s0, s1] (.tup [.tup []]) count u v v1 (.tup [.tup []]))
set_option maxRecDepth 1000000 in
theorem treeRK2_4_eq (a : Gw.Offer) (b : Gw.Offer) (s0 : Str) (s1 : Str) (count : Int) (u : Int) (v : Int) (v1 : Int) : rnd (orcsRK2 a b s0 s1 count u v v1 .c4) (stsRK2 .c4) (orcRK2 a b s0 s1 count u v v1 .c4) (stRK2 .c4) noLt 0 lpRK ((loopRK a b (.slice 3 0 2 1 none) [.str s0, .str s1] [s0, s1] (.tup [.tup []]) count u v v1).t0 .c4) [] ((loopRK a b (.slice 3 0 2 1 none) [.str s0, .str s1] [s0, s1] (.tup [.tup []]) count u v v1).h0 .c4) (loopRK a b (.slice 3 0 2 1 none) [.str s0, .str s1] [s0, s1] (.tup [.tup []]) count u v v1).end_ = treeRK2_4 a b s0 s1 count u v v1 := by kernel_rfl
def treeRK2_5 (a : Gw.Offer) (b : Gw.Offer) (s0 : Str) (s1 : Str) (count : Int) (u : Int) (v : Int) (v1 : Int) : DT (Ex × Snap) :=
  .leaf ((.exit 0), XNRK a b (.slice 3 0 2 1 none) [.str s0, .str s1] [s0, s1] (.tup [.tup []]) count u v v1 (.tup [.tup []]))
set_option maxRecDepth 1000000 in
theorem treeRK2_5_eq (a : Gw.Offer) (b : Gw.Offer) (s0 : Str) (s1 : Str) (count : Int) (u : Int) (v : Int) (v1 : Int) : rnd (orcsRK2 a b s0 s1 count u v v1 .c5) (stsRK2 .c5) (orcRK2 a b s0 s1 count u v v1 .c5) (stRK2 .c5) noLt 0 lpRK ((loopRK a b (.slice 3 0 2 1 none) [.str s0, .str s1] [s0, s1] (.tup [.tup []]) count u v v1).t0 .c5) [] ((loopRK a b (.slice 3 0 2 1 none) [.str s0, .str s1] [s0, s1] (.tup [.tup []]) count u v v1).h0 .c5) (loopRK a b (.slice 3 0 2 1 none) [.str s0, .str s1] [s0, s1] (.tup [.tup []]) count u v v1).end_ = treeRK2_5 a b s0 s1 count u v v1 := by kernel_rfl
def treeRK2L (a : Gw.Offer) (b : Gw.Offer) (s0 : Str) (s1 : Str) (count : Int) (u : Int) (v : Int) (v1 : Int) (i : IRK) : DT (Ex × Snap) := match i with
  | .c0 => treeRK2_0 a b s0 s1 count u v v1
  | .c1 => treeRK2_1 a b s0 s1 count u v v1
  | .c2 => treeRK2_2 a b s0 s1 count u v v1
  | .c3 => treeRK2_3 a b s0 s1 count u v v1
  | .c4 => treeRK2_4 a b s0 s1 count u v v1
  | .c5 => treeRK2_5 a b s0 s1 count u v v1
theorem roundRK2 (a : Gw.Offer) (b : Gw.Offer) (s0 : Str) (s1 : Str) (count : Int) (u : Int) (v : Int) (v1 : Int) (i : IRK) (Pr : Ex × Snap → Prop) (h : ((loopRK a b (.slice 3 0 2 1 none) [.str s0, .str s1] [s0, s1] (.tup [.tup []]) count u v v1).out i).sat Pr) : (treeRK2L a b s0 s1 count u v v1 i).sat ((loopRK a b (.slice 3 0 2 1 none) [.str s0, .str s1] [s0, s1] (.tup [.tup []]) count u v v1).next muRK i Pr) := by
  match i with
  | .c0 =>
    have hi : invRK a b (.slice 3 0 2 1 none) [.str s0, .str s1] [s0, s1] (.tup [.tup []]) count u v v1 .c0 := h.1
    have hX := h.2
    exact sat_ob (by decide) (
sat_ob ⟨by split <;> omega, trivial⟩ (
sat_ob (by first | rfl | simp [V.beq, V.beqs, allOne, V.one, byteVs, binV, binI, eqV, eqCells]) (
sat_ob (by have := cut8_len s0; simp [binV, binI]; omega) (
sat_ob (gtr8 s0 (size8 a b)) (
sat_ob (by first | rfl | simp [V.beq, V.beqs, allOne, V.one, byteVs, binV, binI, eqV, eqCells]) (
sat_leaf (⟨.c1, (by kernel_rfl), (by show  5 < 6; decide), ⟨(show 1 ≤ _ by simp), hX⟩⟩)))))))
  | .c1 =>
    have hi : invRK a b (.slice 3 0 2 1 none) [.str s0, .str s1] [s0, s1] (.tup [.tup []]) count u v v1 .c1 := h.1
    have hX := h.2
    exact sat_ob (by decide) (
sat_ob ⟨by split <;> omega, trivial⟩ (
sat_ob (by first | rfl | simp [V.beq, V.beqs, allOne, V.one, byteVs, binV, binI, eqV, eqCells]) (
sat_ob (by have := cut8_len s1; simp [binV, binI]; omega) (
sat_ob (gtr8 s1 (size8 a b)) (
sat_ob (by first | rfl | simp [V.beq, V.beqs, allOne, V.one, byteVs, binV, binI, eqV, eqCells]) (
sat_leaf (⟨.c2, (by kernel_rfl), (by show  4 < 5; decide), ⟨(show 2 ≤ _ by simp), hX⟩⟩)))))))
  | .c2 =>
    have hi : invRK a b (.slice 3 0 2 1 none) [.str s0, .str s1] [s0, s1] (.tup [.tup []]) count u v v1 .c2 := h.1
    have hX := h.2
    exact sat_leaf (hX)
  | .c3 =>
    have hi : invRK a b (.slice 3 0 2 1 none) [.str s0, .str s1] [s0, s1] (.tup [.tup []]) count u v v1 .c3 := h.1
    have hX := h.2
    exact sat_leaf (absurd hi (by simp [invRK]))
  | .c4 =>
    have hi : invRK a b (.slice 3 0 2 1 none) [.str s0, .str s1] [s0, s1] (.tup [.tup []]) count u v v1 .c4 := h.1
    have hX := h.2
    exact sat_leaf (absurd hi (by simp [invRK]))
  | .c5 =>
    have hi : invRK a b (.slice 3 0 2 1 none) [.str s0, .str s1] [s0, s1] (.tup [.tup []]) count u v v1 .c5 := h.1
    have hX := h.2
    exact sat_leaf (absurd hi (by simp [invRK]))
set_option maxRecDepth 1000000 in
theorem ltRK2_ok (a : Gw.Offer) (b : Gw.Offer) (s0 : Str) (s1 : Str) (count : Int) (u : Int) (v : Int) (v1 : Int) (hint : Nat → List Nat) : Lt1 Tryz.prog hint 4 (loopRK a b (.slice 3 0 2 1 none) [.str s0, .str s1] [s0, s1] (.tup [.tup []]) count u v v1).lt lpRK :=
  LoopD.lt1c mixed (show TabX Tryz.prog noPX oxM from tabM) tabD (loopRK a b (.slice 3 0 2 1 none) [.str s0, .str s1] [s0, s1] (.tup [.tup []]) count u v v1) muRK (fun ex => match ex with | .normal => ⟨show 3 ≤ 15 by decide, show 4 ≤ 15 by decide⟩ | .exit _ => ⟨show 3 ≤ 15 by decide, show 4 ≤ 15 by decide⟩ | .ret => ⟨show 3 ≤ 15 by decide, show 4 ≤ 15 by decide⟩) (orcs := orcsRK2 a b s0 s1 count u v v1) (sts := stsRK2) (orc := orcRK2 a b s0 s1 count u v v1) (st := stRK2) (tree := treeRK2L a b s0 s1 count u v v1)
    (fun i => match i with
    | .c0 => treeRK2_0_eq a b s0 s1 count u v v1
    | .c1 => treeRK2_1_eq a b s0 s1 count u v v1
    | .c2 => treeRK2_2_eq a b s0 s1 count u v v1
    | .c3 => treeRK2_3_eq a b s0 s1 count u v v1
    | .c4 => treeRK2_4_eq a b s0 s1 count u v v1
    | .c5 => treeRK2_5_eq a b s0 s1 count u v v1) (roundRK2 a b s0 s1 count u v v1)
def orcRK3 (a : Gw.Offer) (b : Gw.Offer) (s0 : Str) (s1 : Str) (s2 : Str) (count : Int) (u : Int) (v : Int) (v1 : Int) (i : IRK) : Orc := match i with
  | .c0 => noOrc
  | .c1 => noOrc
  | .c2 => noOrc
  | .c3 => noOrc
  | .c4 => noOrc
  | .c5 => noOrc
def orcsRK3 (a : Gw.Offer) (b : Gw.Offer) (s0 : Str) (s1 : Str) (s2 : Str) (count : Int) (u : Int) (v : Int) (v1 : Int) (i : IRK) : Nat → Orc := match i with
  | .c0 => (fun g => match g with | 31 => (fun k => match k with | 58 => some fun t h => (.bool true, h) | 63 => some fun t h => (.bool true, h) | _ => none) | 33 => (fun k => match k with | 15 => some fun t h => (.bool false, h) | _ => none) | _ => noOrc)
  | .c1 => (fun g => match g with | 31 => (fun k => match k with | 58 => some fun t h => (.bool true, h) | 63 => some fun t h => (.bool true, h) | _ => none) | 33 => (fun k => match k with | 15 => some fun t h => (.bool false, h) | _ => none) | _ => noOrc)
  | .c2 => (fun g => match g with | 31 => (fun k => match k with | 58 => some fun t h => (.bool true, h) | 63 => some fun t h => (.bool true, h) | _ => none) | 33 => (fun k => match k with | 15 => some fun t h => (.bool false, h) | _ => none) | _ => noOrc)
  | .c3 => (fun _ => noOrc)
  | .c4 => (fun _ => noOrc)
  | .c5 => (fun _ => noOrc)
def stsRK3 (i : IRK) : Nat → List Nat := match i with
  | .c0 => (fun k => match k with | 8 => [39, 42] | 12 => [10, 15, 20, 25, 30, 31, 37, 41, 50, 81] | 31 => [10, 33, 34, 52, 58, 63] | 33 => [15] | 67 => [14] | _ => [])
  | .c1 => (fun k => match k with | 8 => [39, 42] | 12 => [10, 15, 20, 25, 30, 31, 37, 41, 50, 81] | 31 => [10, 33, 34, 52, 58, 63] | 33 => [15] | 67 => [14] | _ => [])
  | .c2 => (fun k => match k with | 8 => [39, 42] | 12 => [10, 15, 20, 25, 30, 31, 37, 41, 50, 81] | 31 => [10, 33, 34, 52, 58, 63] | 33 => [15] | 67 => [14] | _ => [])
  | .c3 => (fun k => match k with | 8 => [39] | _ => [])
  | .c4 => (fun k => match k with | 8 => [39] | _ => [])
  | .c5 => (fun k => match k with | 8 => [39] | _ => [])
def stRK3 (i : IRK) : List Nat := match i with
  | .c0 => [39, 42]
  | .c1 => [39, 42]
  | .c2 => [39, 42]
  | .c3 => [39]
  | .c4 => [39]
  | .c5 => [39]
def treeRK3_0 (a : Gw.Offer) (b : Gw.Offer) (s0 : Str) (s1 : Str) (s2 : Str) (count : Int) (u : Int) (v : Int) (v1 : Int) : DT (Ex × Snap) :=
  .ob (1 = 1 ∧ 0 ≤ (0 : Int) ∧ (0 : Int) < ((3 : Nat) : Int)) (
.ob ((0 ≤ ((if (8 : Int) < ((s0 : Str).length : Int) then 8 else ((s0 : Str).length : Int)) : Int) ∧ ((if (8 : Int) < ((s0 : Str).length : Int) then 8 else ((s0 : Str).length : Int)) : Int) ≤ (((s0 : Str).length : Nat) : Int)) ∧ (True)) (
.ob (((eqV (.agg [.i, .i, .i, .s]) (.agg [vi 3, vi 0, .int .u32 0, .str (cut8 s0)]) (.agg [vi 3, vi 0, .int .u32 0, .str (cut8 s0)])).map fun b => V.bool (if false then !b else b)) = some (.bool true)) (
.ob (binV .leq (vi (((cut8 s0) : Str).length : Int)) (vi 64) = some (.bool true)) (
.ob (binV .gtr (vi (((cut8 s0) : Str).length : Int)) (vi (if (64 : Int) < (dealL (fineO a) (fineO b)).size then 64 else (dealL (fineO a) (fineO b)).size)) = some (.bool false)) (
.ob ((1 = 1 ∧ ([.str (cut8 s0)] : List V).length = 1 * 1) ∧ allOne [.str (cut8 s0)] = true ∧ 1 * 16 ≤ 70368744177664) (
.leaf (.normal, SNRK a b (.slice 3 0 3 1 none) [.str s0, .str s1, .str s2] [s0, s1, s2] (.tup [.tup []]) count u v v1 (vi 1) (.slice 15 0 1 1 none) (cF [.str (cut8 s0)]))))))))
set_option maxRecDepth 1000000 in
theorem treeRK3_0_eq (a : Gw.Offer) (b : Gw.Offer) (s0 : Str) (s1 : Str) (s2 : Str) (count : Int) (u : Int) (v : Int) (v1 : Int) : rnd (orcsRK3 a b s0 s1 s2 count u v v1 .c0) (stsRK3 .c0) (orcRK3 a b s0 s1 s2 count u v v1 .c0) (stRK3 .c0) noLt 0 lpRK ((loopRK a b (.slice 3 0 3 1 none) [.str s0, .str s1, .str s2] [s0, s1, s2] (.tup [.tup []]) count u v v1).t0 .c0) [] ((loopRK a b (.slice 3 0 3 1 none) [.str s0, .str s1, .str s2] [s0, s1, s2] (.tup [.tup []]) count u v v1).h0 .c0) (loopRK a b (.slice 3 0 3 1 none) [.str s0, .str s1, .str s2] [s0, s1, s2] (.tup [.tup []]) count u v v1).end_ = treeRK3_0 a b s0 s1 s2 count u v v1 := by kernel_rfl
def treeRK3_1 (a : Gw.Offer) (b : Gw.Offer) (s0 : Str) (s1 : Str) (s2 : Str) (count : Int) (u : Int) (v : Int) (v1 : Int) : DT (Ex × Snap) :=
  .ob (1 = 1 ∧ 0 ≤ (1 : Int) ∧ (1 : Int) < ((3 : Nat) : Int)) (
.ob ((0 ≤ ((if (8 : Int) < ((s1 : Str).length : Int) then 8 else ((s1 : Str).length : Int)) : Int) ∧ ((if (8 : Int) < ((s1 : Str).length : Int) then 8 else ((s1 : Str).length : Int)) : Int) ≤ (((s1 : Str).length : Nat) : Int)) ∧ (True)) (
.ob (((eqV (.agg [.i, .i, .i, .s]) (.agg [vi 3, vi 0, .int .u32 0, .str (cut8 s1)]) (.agg [vi 3, vi 0, .int .u32 0, .str (cut8 s1)])).map fun b => V.bool (if false then !b else b)) = some (.bool true)) (
.ob (binV .leq (vi (((cut8 s1) : Str).length : Int)) (vi 64) = some (.bool true)) (
.ob (binV .gtr (vi (((cut8 s1) : Str).length : Int)) (vi (if (64 : Int) < (dealL (fineO a) (fineO b)).size then 64 else (dealL (fineO a) (fineO b)).size)) = some (.bool false)) (
.ob ((1 = 1 ∧ ([.str (cut8 s1)] : List V).length = 1 * 1) ∧ allOne [.str (cut8 s1)] = true ∧ 1 = 1 ∧ 2 * 16 ≤ 70368744177664 ∧ ([.str (cut8 s0)] : List V).length = 1 * 1) (
.leaf (.normal, SNRK a b (.slice 3 0 3 1 none) [.str s0, .str s1, .str s2] [s0, s1, s2] (.tup [.tup []]) count u v v1 (vi 2) (.slice 15 0 2 1 none) (cF [.str (cut8 s0), .str (cut8 s1)]))))))))
set_option maxRecDepth 1000000 in
theorem treeRK3_1_eq (a : Gw.Offer) (b : Gw.Offer) (s0 : Str) (s1 : Str) (s2 : Str) (count : Int) (u : Int) (v : Int) (v1 : Int) : rnd (orcsRK3 a b s0 s1 s2 count u v v1 .c1) (stsRK3 .c1) (orcRK3 a b s0 s1 s2 count u v v1 .c1) (stRK3 .c1) noLt 0 lpRK ((loopRK a b (.slice 3 0 3 1 none) [.str s0, .str s1, .str s2] [s0, s1, s2] (.tup [.tup []]) count u v v1).t0 .c1) [] ((loopRK a b (.slice 3 0 3 1 none) [.str s0, .str s1, .str s2] [s0, s1, s2] (.tup [.tup []]) count u v v1).h0 .c1) (loopRK a b (.slice 3 0 3 1 none) [.str s0, .str s1, .str s2] [s0, s1, s2] (.tup [.tup []]) count u v v1).end_ = treeRK3_1 a b s0 s1 s2 count u v v1 := by kernel_rfl
def treeRK3_2 (a : Gw.Offer) (b : Gw.Offer) (s0 : Str) (s1 : Str) (s2 : Str) (count : Int) (u : Int) (v : Int) (v1 : Int) : DT (Ex × Snap) :=
  .ob (1 = 1 ∧ 0 ≤ (2 : Int) ∧ (2 : Int) < ((3 : Nat) : Int)) (
.ob ((0 ≤ ((if (8 : Int) < ((s2 : Str).length : Int) then 8 else ((s2 : Str).length : Int)) : Int) ∧ ((if (8 : Int) < ((s2 : Str).length : Int) then 8 else ((s2 : Str).length : Int)) : Int) ≤ (((s2 : Str).length : Nat) : Int)) ∧ (True)) (
.ob (((eqV (.agg [.i, .i, .i, .s]) (.agg [vi 3, vi 0, .int .u32 0, .str (cut8 s2)]) (.agg [vi 3, vi 0, .int .u32 0, .str (cut8 s2)])).map fun b => V.bool (if false then !b else b)) = some (.bool true)) (
.ob (binV .leq (vi (((cut8 s2) : Str).length : Int)) (vi 64) = some (.bool true)) (
.ob (binV .gtr (vi (((cut8 s2) : Str).length : Int)) (vi (if (64 : Int) < (dealL (fineO a) (fineO b)).size then 64 else (dealL (fineO a) (fineO b)).size)) = some (.bool false)) (
.ob ((1 = 1 ∧ ([.str (cut8 s2)] : List V).length = 1 * 1) ∧ allOne [.str (cut8 s2)] = true ∧ 1 = 1 ∧ 3 * 16 ≤ 70368744177664 ∧ ([.str (cut8 s0), .str (cut8 s1)] : List V).length = 2 * 1) (
.leaf (.normal, SNRK a b (.slice 3 0 3 1 none) [.str s0, .str s1, .str s2] [s0, s1, s2] (.tup [.tup []]) count u v v1 (vi 3) (.slice 15 0 3 1 none) (cF [.str (cut8 s0), .str (cut8 s1), .str (cut8 s2)]))))))))
set_option maxRecDepth 1000000 in
theorem treeRK3_2_eq (a : Gw.Offer) (b : Gw.Offer) (s0 : Str) (s1 : Str) (s2 : Str) (count : Int) (u : Int) (v : Int) (v1 : Int) : rnd (orcsRK3 a b s0 s1 s2 count u v v1 .c2) (stsRK3 .c2) (orcRK3 a b s0 s1 s2 count u v v1 .c2) (stRK3 .c2) noLt 0 lpRK ((loopRK a b (.slice 3 0 3 1 none) [.str s0, .str s1, .str s2] [s0, s1, s2] (.tup [.tup []]) count u v v1).t0 .c2) [] ((loopRK a b (.slice 3 0 3 1 none) [.str s0, .str s1, .str s2] [s0, s1, s2] (.tup [.tup []]) count u v v1).h0 .c2) (loopRK a b (.slice 3 0 3 1 none) [.str s0, .str s1, .str s2] [s0, s1, s2] (.tup [.tup []]) count u v v1).end_ = treeRK3_2 a b s0 s1 s2 count u v v1 := by kernel_rfl
def treeRK3_3 (a : Gw.Offer) (b : Gw.Offer) (s0 : Str) (s1 : Str) (s2 : Str) (count : Int) (u : Int) (v : Int) (v1 : Int) : DT (Ex × Snap) :=
  .leaf ((.exit 0), XNRK a b (.slice 3 0 3 1 none) [.str s0, .str s1, .str s2] [s0, s1, s2] (.tup [.tup []]) count u v v1 (.tup [.tup []]))
set_option maxRecDepth 1000000 in
theorem treeRK3_3_eq (a : Gw.Offer) (b : Gw.Offer) (s0 : Str) (s1 : Str) (s2 : Str) (count : Int) (u : Int) (v : Int) (v1 : Int) : rnd (orcsRK3 a b s0 s1 s2 count u v v1 .c3) (stsRK3 .c3) (orcRK3 a b s0 s1 s2 count u v v1 .c3) (stRK3 .c3) noLt 0 lpRK ((loopRK a b (.slice 3 0 3 1 none) [.str s0, .str s1, .str s2] [s0, s1, s2] (.tup [.tup []]) count u v v1).t0 .c3) [] ((loopRK a b (.slice 3 0 3 1 none) [.str s0, .str s1, .str s2] [s0, s1, s2] (.tup [.tup []]) count u v v1).h0 .c3) (loopRK a b (.slice 3 0 3 1 none) [.str s0, .str s1, .str s2] [s0, s1, s2] (.tup [.tup []]) count u v v1).end_ = treeRK3_3 a b s0 s1 s2 count u v v1 := by kernel_rfl
def treeRK3_4 (a : Gw.Offer) (b : Gw.Offer) (s0 : Str) (s1 : Str) (s2 : Str) (count : Int) (u : Int) (v : Int) (v1 : Int) : DT (Ex × Snap) :=
  .leaf ((.exit 0), XNRK a b (.slice 3 0 3 1 none) [.str s0, .str s1, .str s2] [s0, s1, s2] (.tup [.tup []]) count u v v1 (.tup [.tup []]))
set_option maxRecDepth 1000000 in
theorem treeRK3_4_eq (a : Gw.Offer) (b : Gw.Offer) (s0 : Str) (s1 : Str) (s2 : Str) (count : Int) (u : Int) (v : Int) (v1 : Int) : rnd (orcsRK3 a b s0 s1 s2 count u v v1 .c4) (stsRK3 .c4) (orcRK3 a b s0 s1 s2 count u v v1 .c4) (stRK3 .c4) noLt 0 lpRK ((loopRK a b (.slice 3 0 3 1 none) [.str s0, .str s1, .str s2] [s0, s1, s2] (.tup [.tup []]) count u v v1).t0 .c4) [] ((loopRK a b (.slice 3 0 3 1 none) [.str s0, .str s1, .str s2] [s0, s1, s2] (.tup [.tup []]) count u v v1).h0 .c4) (loopRK a b (.slice 3 0 3 1 none) [.str s0, .str s1, .str s2] [s0, s1, s2] (.tup [.tup []]) count u v v1).end_ = treeRK3_4 a b s0 s1 s2 count u v v1 := by kernel_rfl
def treeRK3_5 (a : Gw.Offer) (b : Gw.Offer) (s0 : Str) (s1 : Str) (s2 : Str) (count : Int) (u : Int) (v : Int) (v1 : Int) : DT (Ex × Snap) :=
  .leaf ((.exit 0), XNRK a b (.slice 3 0 3 1 none) [.str s0, .str s1, .str s2] [s0, s1, s2] (.tup [.tup []]) count u v v1 (.tup [.tup []]))
set_option maxRecDepth 1000000 in
theorem treeRK3_5_eq (a : Gw.Offer) (b : Gw.Offer) (s0 : Str) (s1 : Str) (s2 : Str) (count : Int) (u : Int) (v : Int) (v1 : Int) : rnd (orcsRK3 a b s0 s1 s2 count u v v1 .c5) (stsRK3 .c5) (orcRK3 a b s0 s1 s2 count u v v1 .c5) (stRK3 .c5) noLt 0 lpRK ((loopRK a b (.slice 3 0 3 1 none) [.str s0, .str s1, .str s2] [s0, s1, s2] (.tup [.tup []]) count u v v1).t0 .c5) [] ((loopRK a b (.slice 3 0 3 1 none) [.str s0, .str s1, .str s2] [s0, s1, s2] (.tup [.tup []]) count u v v1).h0 .c5) (loopRK a b (.slice 3 0 3 1 none) [.str s0, .str s1, .str s2] [s0, s1, s2] (.tup [.tup []]) count u v v1).end_ = treeRK3_5 a b s0 s1 s2 count u v v1 := by kernel_rfl
def treeRK3L (a : Gw.Offer) (b : Gw.Offer) (s0 : Str) (s1 : Str) (s2 : Str) (count : Int) (u : Int) (v : Int) (v1 : Int) (i : IRK) : DT (Ex × Snap) := match i with
  | .c0 => treeRK3_0 a b s0 s1 s2 count u v v1
  | .c1 => treeRK3_1 a b s0 s1 s2 count u v v1
  | .c2 => treeRK3_2 a b s0 s1 s2 count u v v1
  | .c3 => treeRK3_3 a b s0 s1 s2 count u v v1
  | .c4 => treeRK3_4 a b s0 s1 s2 count u v v1
  | .c5 => treeRK3_5 a b s0 s1 s2 count u v v1
theorem roundRK3 (a : Gw.Offer) (b : Gw.Offer) (s0 : Str) (s1 : Str) (s2 : Str) (count : Int) (u : Int) (v : Int) (v1 : Int) (i : IRK) (Pr : Ex × Snap → Prop) (h : ((loopRK a b (.slice 3 0 3 1 none) [.str s0, .str s1, .str s2] [s0, s1, s2] (.tup [.tup []]) count u v v1).out i).sat Pr) : (treeRK3L a b s0 s1 s2 count u v v1 i).sat ((loopRK a b (.slice 3 0 3 1 none) [.str s0, .str s1, .str s2] [s0, s1, s2] (.tup [.tup []]) count u v v1).next muRK i Pr) := by
  match i with
  | .c0 =>
    have hi : invRK a b (.slice 3 0 3 1 none) [.str s0, .str s1, .str s2] [s0, s1, s2] (.tup [.tup []]) count u v v1 .c0 := h.1
    have hX := h.2
    exact sat_ob (by decide) (
sat_ob ⟨by split <;> omega, trivial⟩ (
sat_ob (by first | rfl | simp [V.beq, V.beqs, allOne, V.one, byteVs, binV, binI, eqV, eqCells]) (
sat_ob (by have := cut8_len s0; simp [binV, binI]; omega) (
sat_ob (gtr8 s0 (size8 a b)) (
sat_ob (by first | rfl | simp [V.beq, V.beqs, allOne, V.one, byteVs, binV, binI, eqV, eqCells]) (
sat_leaf (⟨.c1, (by kernel_rfl), (by show  5 < 6; decide), ⟨(show 1 ≤ _ by simp), hX⟩⟩)))))))
  | .c1 =>
    have hi : invRK a b (.slice 3 0 3 1 none) [.str s0, .str s1, .str s2] [s0, s1, s2] (.tup [.tup []]) count u v v1 .c1 := h.1
    have hX := h.2
    exact sat_ob (by decide) (
sat_ob ⟨by split <;> omega, trivial⟩ (
sat_ob (by first | rfl | simp [V.beq, V.beqs, allOne, V.one, byteVs, binV, binI, eqV, eqCells]) (
sat_ob (by have := cut8_len s1; simp [binV, binI]; omega) (
sat_ob (gtr8 s1 (size8 a b)) (
sat_ob (by first | rfl | simp [V.beq, V.beqs, allOne, V.one, byteVs, binV, binI, eqV, eqCells]) (
sat_leaf (⟨.c2, (by kernel_rfl), (by show  4 < 5; decide), ⟨(show 2 ≤ _ by simp), hX⟩⟩)))))))
  | .c2 =>
    have hi : invRK a b (.slice 3 0 3 1 none) [.str s0, .str s1, .str s2] [s0, s1, s2] (.tup [.tup []]) count u v v1 .c2 := h.1
    have hX := h.2
    exact sat_ob (by decide) (
sat_ob ⟨by split <;> omega, trivial⟩ (
sat_ob (by first | rfl | simp [V.beq, V.beqs, allOne, V.one, byteVs, binV, binI, eqV, eqCells]) (
sat_ob (by have := cut8_len s2; simp [binV, binI]; omega) (
sat_ob (gtr8 s2 (size8 a b)) (
sat_ob (by first | rfl | simp [V.beq, V.beqs, allOne, V.one, byteVs, binV, binI, eqV, eqCells]) (
sat_leaf (⟨.c3, (by kernel_rfl), (by show  3 < 4; decide), ⟨(show 3 ≤ _ by simp), hX⟩⟩)))))))
  | .c3 =>
    have hi : invRK a b (.slice 3 0 3 1 none) [.str s0, .str s1, .str s2] [s0, s1, s2] (.tup [.tup []]) count u v v1 .c3 := h.1
    have hX := h.2
    exact sat_leaf (hX)
  | .c4 =>
    have hi : invRK a b (.slice 3 0 3 1 none) [.str s0, .str s1, .str s2] [s0, s1, s2] (.tup [.tup []]) count u v v1 .c4 := h.1
    have hX := h.2
    exact sat_leaf (absurd hi (by simp [invRK]))
  | .c5 =>
    have hi : invRK a b (.slice 3 0 3 1 none) [.str s0, .str s1, .str s2] [s0, s1, s2] (.tup [.tup []]) count u v v1 .c5 := h.1
    have hX := h.2
    exact sat_leaf (absurd hi (by simp [invRK]))
set_option maxRecDepth 1000000 in
theorem ltRK3_ok (a : Gw.Offer) (b : Gw.Offer) (s0 : Str) (s1 : Str) (s2 : Str) (count : Int) (u : Int) (v : Int) (v1 : Int) (hint : Nat → List Nat) : Lt1 Tryz.prog hint 4 (loopRK a b (.slice 3 0 3 1 none) [.str s0, .str s1, .str s2] [s0, s1, s2] (.tup [.tup []]) count u v v1).lt lpRK :=
  LoopD.lt1c mixed (show TabX Tryz.prog noPX oxM from tabM) tabD (loopRK a b (.slice 3 0 3 1 none) [.str s0, .str s1, .str s2] [s0, s1, s2] (.tup [.tup []]) count u v v1) muRK (fun ex => match ex with | .normal => ⟨show 3 ≤ 15 by decide, show 4 ≤ 15 by decide⟩ | .exit _ => ⟨show 3 ≤ 15 by decide, show 4 ≤ 15 by decide⟩ | .ret => ⟨show 3 ≤ 15 by decide, show 4 ≤ 15 by decide⟩) (orcs := orcsRK3 a b s0 s1 s2 count u v v1) (sts := stsRK3) (orc := orcRK3 a b s0 s1 s2 count u v v1) (st := stRK3) (tree := treeRK3L a b s0 s1 s2 count u v v1)
    (fun i => match i with
    | .c0 => treeRK3_0_eq a b s0 s1 s2 count u v v1
    | .c1 => treeRK3_1_eq a b s0 s1 s2 count u v v1
    | .c2 => treeRK3_2_eq a b s0 s1 s2 count u v v1
    | .c3 => treeRK3_3_eq a b s0 s1 s2 count u v v1
    | .c4 => treeRK3_4_eq a b s0 s1 s2 count u v v1
    | .c5 => treeRK3_5_eq a b s0 s1 s2 count u v v1) (roundRK3 a b s0 s1 s2 count u v v1)
def orcRK4 (a : Gw.Offer) (b : Gw.Offer) (s0 : Str) (s1 : Str) (s2 : Str) (s3 : Str) (count : Int) (u : Int) (v : Int) (v1 : Int) (i : IRK) : Orc := match i with
  | .c0 => noOrc
  | .c1 => noOrc
  | .c2 => noOrc
  | .c3 => noOrc
  | .c4 => noOrc
  | .c5 => noOrc
def orcsRK4 (a : Gw.Offer) (b : Gw.Offer) (s0 : Str) (s1 : Str) (s2 : Str) (s3 : Str) (count : Int) (u : Int) (v : Int) (v1 : Int) (i : IRK) : Nat → Orc := match i with
  | .c0 => (fun g => match g with | 31 => (fun k => match k with | 58 => some fun t h => (.bool true, h) | 63 => some fun t h => (.bool true, h) | _ => none) | 33 => (fun k => match k with | 15 => some fun t h => (.bool false, h) | _ => none) | _ => noOrc)
  | .c1 => (fun g => match g with | 31 => (fun k => match k with | 58 => some fun t h => (.bool true, h) | 63 => some fun t h => (.bool true, h) | _ => none) | 33 => (fun k => match k with | 15 => some fun t h => (.bool false, h) | _ => none) | _ => noOrc)
  | .c2 => (fun g => match g with | 31 => (fun k => match k with | 58 => some fun t h => (.bool true, h) | 63 => some fun t h => (.bool true, h) | _ => none) | 33 => (fun k => match k with | 15 => some fun t h => (.bool false, h) | _ => none) | _ => noOrc)
  | .c3 => (fun g => match g with | 31 => (fun k => match k with | 58 => some fun t h => (.bool true, h) | 63 => some fun t h => (.bool true, h) | _ => none) | 33 => (fun k => match k with | 15 => some fun t h => (.bool false, h) | _ => none) | _ => noOrc)
  | .c4 => (fun _ => noOrc)
  | .c5 => (fun _ => noOrc)
def stsRK4 (i : IRK) : Nat → List Nat := match i with
  | .c0 => (fun k => match k with | 8 => [39, 42] | 12 => [10, 15, 20, 25, 30, 31, 37, 41, 50, 81] | 31 => [10, 33, 34, 52, 58, 63] | 33 => [15] | 67 => [14] | _ => [])
  | .c1 => (fun k => match k with | 8 => [39, 42] | 12 => [10, 15, 20, 25, 30, 31, 37, 41, 50, 81] | 31 => [10, 33, 34, 52, 58, 63] | 33 => [15] | 67 => [14] | _ => [])
  | .c2 => (fun k => match k with | 8 => [39, 42] | 12 => [10, 15, 20, 25, 30, 31, 37, 41, 50, 81] | 31 => [10, 33, 34, 52, 58, 63] | 33 => [15] | 67 => [14] | _ => [])
  | .c3 => (fun k => match k with | 8 => [39, 42] | 12 => [10, 15, 20, 25, 30, 31, 37, 41, 50, 81] | 31 => [10, 33, 34, 52, 58, 63] | 33 => [15] | 67 => [14] | _ => [])
  | .c4 => (fun k => match k with | 8 => [39] | _ => [])
  | .c5 => (fun k => match k with | 8 => [39] | _ => [])
def stRK4 (i : IRK) : List Nat := match i with
  | .c0 => [39, 42]
  | .c1 => [39, 42]
  | .c2 => [39, 42]
  | .c3 => [39, 42]
  | .c4 => [39]
  | .c5 => [39]
def treeRK4_0 (a : Gw.Offer) (b : Gw.Offer) (s0 : Str) (s1 : Str) (s2 : Str) (s3 : Str) (count : Int) (u : Int) (v : Int) (v1 : Int) : DT (Ex × Snap) :=
  .ob (1 = 1 ∧ 0 ≤ (0 : Int) ∧ (0 : Int) < ((4 : Nat) : Int)) (
.ob ((0 ≤ ((if (8 : Int) < ((s0 : Str).length : Int) then 8 else ((s0 : Str).length : Int)) : Int) ∧ ((if (8 : Int) < ((s0 : Str).length : Int) then 8 else ((s0 : Str).length : Int)) : Int) ≤ (((s0 : Str).length : Nat) : Int)) ∧ (True)) (
.ob (((eqV (.agg [.i, .i, .i, .s]) (.agg [vi 3, vi 0, .int .u32 0, .str (cut8 s0)]) (.agg [vi 3, vi 0, .int .u32 0, .str (cut8 s0)])).map fun b => V.bool (if false then !b else b)) = some (.bool true)) (
.ob (binV .leq (vi (((cut8 s0) : Str).length : Int)) (vi 64) = some (.bool true)) (
.ob (binV .gtr (vi (((cut8 s0) : Str).length : Int)) (vi (if (64 : Int) < (dealL (fineO a) (fineO b)).size then 64 else (dealL (fineO a) (fineO b)).size)) = some (.bool false)) (
.ob ((1 = 1 ∧ ([.str (cut8 s0)] : List V).length = 1 * 1) ∧ allOne [.str (cut8 s0)] = true ∧ 1 * 16 ≤ 70368744177664) (
.leaf (.normal, SNRK a b (.slice 3 0 4 1 none) [.str s0, .str s1, .str s2, .str s3] [s0, s1, s2, s3] (.tup [.tup []]) count u v v1 (vi 1) (.slice 15 0 1 1 none) (cF [.str (cut8 s0)]))))))))
set_option maxRecDepth 1000000 in
theorem treeRK4_0_eq (a : Gw.Offer) (b : Gw.Offer) (s0 : Str) (s1 : Str) (s2 : Str) (s3 : Str) (count : Int) (u : Int) (v : Int) (v1 : Int) : rnd (orcsRK4 a b s0 s1 s2 s3 count u v v1 .c0) (stsRK4 .c0) (orcRK4 a b s0 s1 s2 s3 count u v v1 .c0) (stRK4 .c0) noLt 0 lpRK ((loopRK a b (.slice 3 0 4 1 none) [.str s0, .str s1, .str s2, .str s3] [s0, s1, s2, s3] (.tup [.tup []]) count u v v1).t0 .c0) [] ((loopRK a b (.slice 3 0 4 1 none) [.str s0, .str s1, .str s2, .str s3] [s0, s1, s2, s3] (.tup [.tup []]) count u v v1).h0 .c0) (loopRK a b (.slice 3 0 4 1 none) [.str s0, .str s1, .str s2, .str s3] [s0, s1, s2, s3] (.tup [.tup []]) count u v v1).end_ = treeRK4_0 a b s0 s1 s2 s3 count u v v1 := by kernel_rfl
def treeRK4_1 (a : Gw.Offer) (b : Gw.Offer) (s0 : Str) (s1 : Str) (s2 : Str) (s3 : Str) (count : Int) (u : Int) (v : Int) (v1 : Int) : DT (Ex × Snap) :=
  .ob (1 = 1 ∧ 0 ≤ (1 : Int) ∧ (1 : Int) < ((4 : Nat) : Int)) (
.ob ((0 ≤ ((if (8 : Int) < ((s1 : Str).length : Int) then 8 else ((s1 : Str).length : Int)) : Int) ∧ ((if (8 : Int) < ((s1 : Str).length : Int) then 8 else ((s1 : Str).length : Int)) : Int) ≤ (((s1 : Str).length : Nat) : Int)) ∧ (True)) (
.ob (((eqV (.agg [.i, .i, .i, .s]) (.agg [vi 3, vi 0, .int .u32 0, .str (cut8 s1)]) (.agg [vi 3, vi 0, .int .u32 0, .str (cut8 s1)])).map fun b => V.bool (if false then !b else b)) = some (.bool true)) (
.ob (binV .leq (vi (((cut8 s1) : Str).length : Int)) (vi 64) = some (.bool true)) (
.ob (binV .gtr (vi (((cut8 s1) : Str).length : Int)) (vi (if (64 : Int) < (dealL (fineO a) (fineO b)).size then 64 else (dealL (fineO a) (fineO b)).size)) = some (.bool false)) (
.ob ((1 = 1 ∧ ([.str (cut8 s1)] : List V).length = 1 * 1) ∧ allOne [.str (cut8 s1)] = true ∧ 1 = 1 ∧ 2 * 16 ≤ 70368744177664 ∧ ([.str (cut8 s0)] : List V).length = 1 * 1) (
.leaf (.normal, SNRK a b (.slice 3 0 4 1 none) [.str s0, .str s1, .str s2, .str s3] [s0, s1, s2, s3] (.tup [.tup []]) count u v v1 (vi 2) (.slice 15 0 2 1 none) (cF [.str (cut8 s0), .str (cut8 s1)]))))))))
set_option maxRecDepth 1000000 in
theorem treeRK4_1_eq (a : Gw.Offer) (b : Gw.Offer) (s0 : Str) (s1 : Str) (s2 : Str) (s3 : Str) (count : Int) (u : Int) (v : Int) (v1 : Int) : rnd (orcsRK4 a b s0 s1 s2 s3 count u v v1 .c1) (stsRK4 .c1) (orcRK4 a b s0 s1 s2 s3 count u v v1 .c1) (stRK4 .c1) noLt 0 lpRK ((loopRK a b (.slice 3 0 4 1 none) [.str s0, .str s1, .str s2, .str s3] [s0, s1, s2, s3] (.tup [.tup []]) count u v v1).t0 .c1) [] ((loopRK a b (.slice 3 0 4 1 none) [.str s0, .str s1, .str s2, .str s3] [s0, s1, s2, s3] (.tup [.tup []]) count u v v1).h0 .c1) (loopRK a b (.slice 3 0 4 1 none) [.str s0, .str s1, .str s2, .str s3] [s0, s1, s2, s3] (.tup [.tup []]) count u v v1).end_ = treeRK4_1 a b s0 s1 s2 s3 count u v v1 := by kernel_rfl
def treeRK4_2 (a : Gw.Offer) (b : Gw.Offer) (s0 : Str) (s1 : Str) (s2 : Str) (s3 : Str) (count : Int) (u : Int) (v : Int) (v1 : Int) : DT (Ex × Snap) :=
  .ob (1 = 1 ∧ 0 ≤ (2 : Int) ∧ (2 : Int) < ((4 : Nat) : Int)) (
.ob ((0 ≤ ((if (8 : Int) < ((s2 : Str).length : Int) then 8 else ((s2 : Str).length : Int)) : Int) ∧ ((if (8 : Int) < ((s2 : Str).length : Int) then 8 else ((s2 : Str).length : Int)) : Int) ≤ (((s2 : Str).length : Nat) : Int)) ∧ (True)) (
.ob (((eqV (.agg [.i, .i, .i, .s]) (.agg [vi 3, vi 0, .int .u32 0, .str (cut8 s2)]) (.agg [vi 3, vi 0, .int .u32 0, .str (cut8 s2)])).map fun b => V.bool (if false then !b else b)) = some (.bool true)) (
.ob (binV .leq (vi (((cut8 s2) : Str).length : Int)) (vi 64) = some (.bool true)) (
.ob (binV .gtr (vi (((cut8 s2) : Str).length : Int)) (vi (if (64 : Int) < (dealL (fineO a) (fineO b)).size then 64 else (dealL (fineO a) (fineO b)).size)) = some (.bool false)) (
.ob ((1 = 1 ∧ ([.str (cut8 s2)] : List V).length = 1 * 1) ∧ allOne [.str (cut8 s2)] = true ∧ 1 = 1 ∧ 3 * 16 ≤ 70368744177664 ∧ ([.str (cut8 s0), .str (cut8 s1)] : List V).length = 2 * 1) (
.leaf (.normal, SNRK a b (.slice 3 0 4 1 none) [.str s0, .str s1, .str s2, .str s3] [s0, s1, s2, s3] (.tup [.tup []]) count u v v1 (vi 3) (.slice 15 0 3 1 none) (cF [.str (cut8 s0), .str (cut8 s1), .str (cut8 s2)]))))))))
set_option maxRecDepth 1000000 in
theorem treeRK4_2_eq (a : Gw.Offer) (b : Gw.Offer) (s0 : Str) (s1 : Str) (s2 : Str) (s3 : Str) (count : Int) (u : Int) (v : Int) (v1 : Int) : rnd (orcsRK4 a b s0 s1 s2 s3 count u v v1 .c2) (stsRK4 .c2) (orcRK4 a b s0 s1 s2 s3 count u v v1 .c2) (stRK4 .c2) noLt 0 lpRK ((loopRK a b (.slice 3 0 4 1 none) [.str s0, .str s1, .str s2, .str s3] [s0, s1, s2, s3] (.tup [.tup []]) count u v v1).t0 .c2) [] ((loopRK a b (.slice 3 0 4 1 none) [.str s0, .str s1, .str s2, .str s3] [s0, s1, s2, s3] (.tup [.tup []]) count u v v1).h0 .c2) (loopRK a b (.slice 3 0 4 1 none) [.str s0, .str s1, .str s2, .str s3] [s0, s1, s2, s3] (.tup [.tup []]) count u v v1).end_ = treeRK4_2 a b s0 s1 s2 s3 count u v v1 := by kernel_rfl
def treeRK4_3 (a : Gw.Offer) (b : Gw.Offer) (s0 : Str) (s1 : Str) (s2 : Str) (s3 : Str) (count : Int) (u : Int) (v : Int) (v1 : Int) : DT (Ex × Snap) :=
  .ob (1 = 1 ∧ 0 ≤ (3 : Int) ∧ (3 : Int) < ((4 : Nat) : Int)) (
.ob ((0 ≤ ((if (8 : Int) < ((s3 : Str).length : Int) then 8 else ((s3 : Str).length : Int)) : Int) ∧ ((if (8 : Int) < ((s3 : Str).length : Int) then 8 else ((s3 : Str).length : Int)) : Int) ≤ (((s3 : Str).length : Nat) : Int)) ∧ (True)) (
.ob (((eqV (.agg [.i, .i, .i, .s]) (.agg [vi 3, vi 0, .int .u32 0, .str (cut8 s3)]) (.agg [vi 3, vi 0, .int .u32 0, .str (cut8 s3)])).map fun b => V.bool (if false then !b else b)) = some (.bool true)) (
.ob (binV .leq (vi (((cut8 s3) : Str).length : Int)) (vi 64) = some (.bool true)) (
.ob (binV .gtr (vi (((cut8 s3) : Str).length : Int)) (vi (if (64 : Int) < (dealL (fineO a) (fineO b)).size then 64 else (dealL (fineO a) (fineO b)).size)) = some (.bool false)) (
.ob ((1 = 1 ∧ ([.str (cut8 s3)] : List V).length = 1 * 1) ∧ allOne [.str (cut8 s3)] = true ∧ 1 = 1 ∧ 4 * 16 ≤ 70368744177664 ∧ ([.str (cut8 s0), .str (cut8 s1), .str (cut8 s2)] : List V).length = 3 * 1) (
.leaf (.normal, SNRK a b (.slice 3 0 4 1 none) [.str s0, .str s1, .str s2, .str s3] [s0, s1, s2, s3] (.tup [.tup []]) count u v v1 (vi 4) (.slice 15 0 4 1 none) (cF [.str (cut8 s0), .str (cut8 s1), .str (cut8 s2), .str (cut8 s3)]))))))))
set_option maxRecDepth 1000000 in
theorem treeRK4_3_eq (a : Gw.Offer) (b : Gw.Offer) (s0 : Str) (s1 : Str) (s2 : Str) (s3 : Str) (count : Int) (u : Int) (v : Int) (v1 : Int) : rnd (orcsRK4 a b s0 s1 s2 s3 count u v v1 .c3) (stsRK4 .c3) (orcRK4 a b s0 s1 s2 s3 count u v v1 .c3) (stRK4 .c3) noLt 0 lpRK ((loopRK a b (.slice 3 0 4 1 none) [.str s0, .str s1, .str s2, .str s3] [s0, s1, s2, s3] (.tup [.tup []]) count u v v1).t0 .c3) [] ((loopRK a b (.slice 3 0 4 1 none) [.str s0, .str s1, .str s2, .str s3] [s0, s1, s2, s3] (.tup [.tup []]) count u v v1).h0 .c3) (loopRK a b (.slice 3 0 4 1 none) [.str s0, .str s1, .str s2, .str s3] [s0, s1, s2, s3] (.tup [.tup []]) count u v v1).end_ = treeRK4_3 a b s0 s1 s2 s3 count u v v1 := by kernel_rfl
def treeRK4_4 (a : Gw.Offer) (b : Gw.Offer) (s0 : Str) (s1 : Str) (s2 : Str) (s3 : Str) (count : Int) (u : Int) (v : Int) (v1 : Int) : DT (Ex × Snap) :=
  .leaf ((.exit 0), XNRK a b (.slice 3 0 4 1 none) [.str s0, .str s1, .str s2, .str s3] [s0, s1, s2, s3] (.tup [.tup []]) count u v v1 (.tup [.tup []]))
set_option maxRecDepth 1000000 in
theorem treeRK4_4_eq (a : Gw.Offer) (b : Gw.Offer) (s0 : Str) (s1 : Str) (s2 : Str) (s3 : Str) (count : Int) (u : Int) (v : Int) (v1 : Int) : rnd (orcsRK4 a b s0 s1 s2 s3 count u v v1 .c4) (stsRK4 .c4) (orcRK4 a b s0 s1 s2 s3 count u v v1 .c4) (stRK4 .c4) noLt 0 lpRK ((loopRK a b (.slice 3 0 4 1 none) [.str s0, .str s1, .str s2, .str s3] [s0, s1, s2, s3] (.tup [.tup []]) count u v v1).t0 .c4) [] ((loopRK a b (.slice 3 0 4 1 none) [.str s0, .str s1, .str s2, .str s3] [s0, s1, s2, s3] (.tup [.tup []]) count u v v1).h0 .c4) (loopRK a b (.slice 3 0 4 1 none) [.str s0, .str s1, .str s2, .str s3] [s0, s1, s2, s3] (.tup [.tup []]) count u v v1).end_ = treeRK4_4 a b s0 s1 s2 s3 count u v v1 := by kernel_rfl
def treeRK4_5 (a : Gw.Offer) (b : Gw.Offer) (s0 : Str) (s1 : Str) (s2 : Str) (s3 : Str) (count : Int) (u : Int) (v : Int) (v1 : Int) : DT (Ex × Snap) :=
  .leaf ((.exit 0), XNRK a b (.slice 3 0 4 1 none) [.str s0, .str s1, .str s2, .str s3] [s0, s1, s2, s3] (.tup [.tup []]) count u v v1 (.tup [.tup []]))
set_option maxRecDepth 1000000 in
theorem treeRK4_5_eq (a : Gw.Offer) (b : Gw.Offer) (s0 : Str) (s1 : Str) (s2 : Str) (s3 : Str) (count : Int) (u : Int) (v : Int) (v1 : Int) : rnd (orcsRK4 a b s0 s1 s2 s3 count u v v1 .c5) (stsRK4 .c5) (orcRK4 a b s0 s1 s2 s3 count u v v1 .c5) (stRK4 .c5) noLt 0 lpRK ((loopRK a b (.slice 3 0 4 1 none) [.str s0, .str s1, .str s2, .str s3] [s0, s1, s2, s3] (.tup [.tup []]) count u v v1).t0 .c5) [] ((loopRK a b (.slice 3 0 4 1 none) [.str s0, .str s1, .str s2, .str s3] [s0, s1, s2, s3] (.tup [.tup []]) count u v v1).h0 .c5) (loopRK a b (.slice 3 0 4 1 none) [.str s0, .str s1, .str s2, .str s3] [s0, s1, s2, s3] (.tup [.tup []]) count u v v1).end_ = treeRK4_5 a b s0 s1 s2 s3 count u v v1 := by kernel_rfl
def treeRK4L (a : Gw.Offer) (b : Gw.Offer) (s0 : Str) (s1 : Str) (s2 : Str) (s3 : Str) (count : Int) (u : Int) (v : Int) (v1 : Int) (i : IRK) : DT (Ex × Snap) := match i with
  | .c0 => treeRK4_0 a b s0 s1 s2 s3 count u v v1
  | .c1 => treeRK4_1 a b s0 s1 s2 s3 count u v v1
  | .c2 => treeRK4_2 a b s0 s1 s2 s3 count u v v1
  | .c3 => treeRK4_3 a b s0 s1 s2 s3 count u v v1
  | .c4 => treeRK4_4 a b s0 s1 s2 s3 count u v v1
  | .c5 => treeRK4_5 a b s0 s1 s2 s3 count u v v1
theorem roundRK4 (a : Gw.Offer) (b : Gw.Offer) (s0 : Str) (s1 : Str) (s2 : Str) (s3 : Str) (count : Int) (u : Int) (v : Int) (v1 : Int) (i : IRK) (Pr : Ex × Snap → Prop) (h : ((loopRK a b (.slice 3 0 4 1 none) [.str s0, .str s1, .str s2, .str s3] [s0, s1, s2, s3] (.tup [.tup []]) count u v v1).out i).sat Pr) : (treeRK4L a b s0 s1 s2 s3 count u v v1 i).sat ((loopRK a b (.slice 3 0 4 1 none) [.str s0, .str s1, .str s2, .str s3] [s0, s1, s2, s3] (.tup [.tup []]) count u v v1).next muRK i Pr) := by
  match i with
  | .c0 =>
    have hi : invRK a b (.slice 3 0 4 1 none) [.str s0, .str s1, .str s2, .str s3] [s0, s1, s2, s3] (.tup [.tup []]) count u v v1 .c0 := h.1
    have hX := h.2
    exact sat_ob (by decide) (
sat_ob ⟨by split <;> omega, trivial⟩ (
sat_ob (by first | rfl | simp [V.beq, V.beqs, allOne, V.one, byteVs, binV, binI, eqV, eqCells]) (
sat_ob (by have := cut8_len s0; simp [binV, binI]; omega) (
sat_ob (gtr8 s0 (size8 a b)) (
sat_ob (by first | rfl | simp [V.beq, V.beqs, allOne, V.one, byteVs, binV, binI, eqV, eqCells]) (
sat_leaf (⟨.c1, (by kernel_rfl), (by show  5 < 6; decide), ⟨(show 1 ≤ _ by simp), hX⟩⟩)))))))
  | .c1 =>
    have hi : invRK a b (.slice 3 0 4 1 none) [.str s0, .str s1, .str s2, .str s3] [s0, s1, s2, s3] (.tup [.tup []]) count u v v1 .c1 := h.1
    have hX := h.2
    exact sat_ob (by decide) (
sat_ob ⟨by split <;> omega, trivial⟩ (
sat_ob (by first | rfl | simp [V.beq, V.beqs, allOne, V.one, byteVs, binV, binI, eqV, eqCells]) (
sat_ob (by have := cut8_len s1; simp [binV, binI]; omega) (
sat_ob (gtr8 s1 (size8 a b)) (
sat_ob (by first | rfl | simp [V.beq, V.beqs, allOne, V.one, byteVs, binV, binI, eqV, eqCells]) (
sat_leaf (⟨.c2, (by kernel_rfl), (by show  4 < 5; decide), ⟨(show 2 ≤ _ by simp), hX⟩⟩)))))))
  | .c2 =>
    have hi : invRK a b (.slice 3 0 4 1 none) [.str s0, .str s1, .str s2, .str s3] [s0, s1, s2, s3] (.tup [.tup []]) count u v v1 .c2 := h.1
    have hX := h.2
    exact sat_ob (by decide) (
sat_ob ⟨by split <;> omega, trivial⟩ (
sat_ob (by first | rfl | simp [V.beq, V.beqs, allOne, V.one, byteVs, binV, binI, eqV, eqCells]) (
sat_ob (by have := cut8_len s2; simp [binV, binI]; omega) (
sat_ob (gtr8 s2 (size8 a b)) (
sat_ob (by first | rfl | simp [V.beq, V.beqs, allOne, V.one, byteVs, binV, binI, eqV, eqCells]) (
sat_leaf (⟨.c3, (by kernel_rfl), (by show  3 < 4; decide), ⟨(show 3 ≤ _ by simp), hX⟩⟩)))))))
  | .c3 =>
    have hi : invRK a b (.slice 3 0 4 1 none) [.str s0, .str s1, .str s2, .str s3] [s0, s1, s2, s3] (.tup [.tup []]) count u v v1 .c3 := h.1
    have hX := h.2
    exact sat_ob (by decide) (
sat_ob ⟨by split <;> omega, trivial⟩ (
sat_ob (by first | rfl | simp [V.beq, V.beqs, allOne, V.one, byteVs, binV, binI, eqV, eqCells]) (
sat_ob (by have := cut8_len s3; simp [binV, binI]; omega) (
sat_ob (gtr8 s3 (size8 a b)) (
sat_ob (by first | rfl | simp [V.beq, V.beqs, allOne, V.one, byteVs, binV, binI, eqV, eqCells]) (
sat_leaf (⟨.c4, (by kernel_rfl), (by show  2 < 3; decide), ⟨(show 4 ≤ _ by simp), hX⟩⟩)))))))
  | .c4 =>
    have hi : invRK a b (.slice 3 0 4 1 none) [.str s0, .str s1, .str s2, .str s3] [s0, s1, s2, s3] (.tup [.tup []]) count u v v1 .c4 := h.1
    have hX := h.2
    exact sat_leaf (hX)
  | .c5 =>
    have hi : invRK a b (.slice 3 0 4 1 none) [.str s0, .str s1, .str s2, .str s3] [s0, s1, s2, s3] (.tup [.tup []]) count u v v1 .c5 := h.1
    have hX := h.2
    exact sat_leaf (absurd hi (by simp [invRK]))
set_option maxRecDepth 1000000 in
theorem ltRK4_ok (a : Gw.Offer) (b : Gw.Offer) (s0 : Str) (s1 : Str) (s2 : Str) (s3 : Str) (count : Int) (u : Int) (v : Int) (v1 : Int) (hint : Nat → List Nat) : Lt1 Tryz.prog hint 4 (loopRK a b (.slice 3 0 4 1 none) [.str s0, .str s1, .str s2, .str s3] [s0, s1, s2, s3] (.tup [.tup []]) count u v v1).lt lpRK :=
  LoopD.lt1c mixed (show TabX Tryz.prog noPX oxM from tabM) tabD (loopRK a b (.slice 3 0 4 1 none) [.str s0, .str s1, .str s2, .str s3] [s0, s1, s2, s3] (.tup [.tup []]) count u v v1) muRK (fun ex => match ex with | .normal => ⟨show 3 ≤ 15 by decide, show 4 ≤ 15 by decide⟩ | .exit _ => ⟨show 3 ≤ 15 by decide, show 4 ≤ 15 by decide⟩ | .ret => ⟨show 3 ≤ 15 by decide, show 4 ≤ 15 by decide⟩) (orcs := orcsRK4 a b s0 s1 s2 s3 count u v v1) (sts := stsRK4) (orc := orcRK4 a b s0 s1 s2 s3 count u v v1) (st := stRK4) (tree := treeRK4L a b s0 s1 s2 s3 count u v v1)
    (fun i => match i with
    | .c0 => treeRK4_0_eq a b s0 s1 s2 s3 count u v v1
    | .c1 => treeRK4_1_eq a b s0 s1 s2 s3 count u v v1
    | .c2 => treeRK4_2_eq a b s0 s1 s2 s3 count u v v1
    | .c3 => treeRK4_3_eq a b s0 s1 s2 s3 count u v v1
    | .c4 => treeRK4_4_eq a b s0 s1 s2 s3 count u v v1
    | .c5 => treeRK4_5_eq a b s0 s1 s2 s3 count u v v1) (roundRK4 a b s0 s1 s2 s3 count u v v1)
def orcRK5 (a : Gw.Offer) (b : Gw.Offer) (s0 : Str) (s1 : Str) (s2 : Str) (s3 : Str) (s4 : Str) (count : Int) (u : Int) (v : Int) (v1 : Int) (i : IRK) : Orc := match i with
  | .c0 => noOrc
  | .c1 => noOrc
  | .c2 => noOrc
  | .c3 => noOrc
  | .c4 => noOrc
  | .c5 => noOrc
def orcsRK5 (a : Gw.Offer) (b : Gw.Offer) (s0 : Str) (s1 : Str) (s2 : Str) (s3 : Str) (s4 : Str) (count : Int) (u : Int) (v : Int) (v1 : Int) (i : IRK) : Nat → Orc := match i with
  | .c0 => (fun g => match g with | 31 => (fun k => match k with | 58 => some fun t h => (.bool true, h) | 63 => some fun t h => (.bool true, h) | _ => none) | 33 => (fun k => match k with | 15 => some fun t h => (.bool false, h) | _ => none) | _ => noOrc)
  | .c1 => (fun g => match g with | 31 => (fun k => match k with | 58 => some fun t h => (.bool true, h) | 63 => some fun t h => (.bool true, h) | _ => none) | 33 => (fun k => match k with | 15 => some fun t h => (.bool false, h) | _ => none) | _ => noOrc)
  | .c2 => (fun g => match g with | 31 => (fun k => match k with | 58 => some fun t h => (.bool true, h) | 63 => some fun t h => (.bool true, h) | _ => none) | 33 => (fun k => match k with | 15 => some fun t h => (.bool false, h) | _ => none) | _ => noOrc)
  | .c3 => (fun g => match g with | 31 => (fun k => match k with | 58 => some fun t h => (.bool true, h) | 63 => some fun t h => (.bool true, h) | _ => none) | 33 => (fun k => match k with | 15 => some fun t h => (.bool false, h) | _ => none) | _ => noOrc)
  | .c4 => (fun g => match g with | 31 => (fun k => match k with | 58 => some fun t h => (.bool true, h) | 63 => some fun t h => (.bool true, h) | _ => none) | 33 => (fun k => match k with | 15 => some fun t h => (.bool false, h) | _ => none) | _ => noOrc)
  | .c5 => (fun _ => noOrc)
def stsRK5 (i : IRK) : Nat → List Nat := match i with
  | .c0 => (fun k => match k with | 8 => [39, 42] | 12 => [10, 15, 20, 25, 30, 31, 37, 41, 50, 81] | 31 => [10, 33, 34, 52, 58, 63] | 33 => [15] | 67 => [14] | _ => [])
  | .c1 => (fun k => match k with | 8 => [39, 42] | 12 => [10, 15, 20, 25, 30, 31, 37, 41, 50, 81] | 31 => [10, 33, 34, 52, 58, 63] | 33 => [15] | 67 => [14] | _ => [])
  | .c2 => (fun k => match k with | 8 => [39, 42] | 12 => [10, 15, 20, 25, 30, 31, 37, 41, 50, 81] | 31 => [10, 33, 34, 52, 58, 63] | 33 => [15] | 67 => [14] | _ => [])
  | .c3 => (fun k => match k with | 8 => [39, 42] | 12 => [10, 15, 20, 25, 30, 31, 37, 41, 50, 81] | 31 => [10, 33, 34, 52, 58, 63] | 33 => [15] | 67 => [14] | _ => [])
  | .c4 => (fun k => match k with | 8 => [39, 42] | 12 => [10, 15, 20, 25, 30, 31, 37, 41, 50, 81] | 31 => [10, 33, 34, 52, 58, 63] | 33 => [15] | 67 => [14] | _ => [])
  | .c5 => (fun k => match k with | 8 => [39] | _ => [])
def stRK5 (i : IRK) : List Nat := match i with
  | .c0 => [39, 42]
  | .c1 => [39, 42]
  | .c2 => [39, 42]
  | .c3 => [39, 42]
  | .c4 => [39, 42]
  | .c5 => [39]
def treeRK5_0 (a : Gw.Offer) (b : Gw.Offer) (s0 : Str) (s1 : Str) (s2 : Str) (s3 : Str) (s4 : Str) (count : Int) (u : Int) (v : Int) (v1 : Int) : DT (Ex × Snap) :=
  .ob (1 = 1 ∧ 0 ≤ (0 : Int) ∧ (0 : Int) < ((5 : Nat) : Int)) (
.ob ((0 ≤ ((if (8 : Int) < ((s0 : Str).length : Int) then 8 else ((s0 : Str).length : Int)) : Int) ∧ ((if (8 : Int) < ((s0 : Str).length : Int) then 8 else ((s0 : Str).length : Int)) : Int) ≤ (((s0 : Str).length : Nat) : Int)) ∧ (True)) (
.ob (((eqV (.agg [.i, .i, .i, .s]) (.agg [vi 3, vi 0, .int .u32 0, .str (cut8 s0)]) (.agg [vi 3, vi 0, .int .u32 0, .str (cut8 s0)])).map fun b => V.bool (if false then !b else b)) = some (.bool true)) (
.ob (binV .leq (vi (((cut8 s0) : Str).length : Int)) (vi 64) = some (.bool true)) (
.ob (binV .gtr (vi (((cut8 s0) : Str).length : Int)) (vi (if (64 : Int) < (dealL (fineO a) (fineO b)).size then 64 else (dealL (fineO a) (fineO b)).size)) = some (.bool false)) (
.ob ((1 = 1 ∧ ([.str (cut8 s0)] : List V).length = 1 * 1) ∧ allOne [.str (cut8 s0)] = true ∧ 1 * 16 ≤ 70368744177664) (
.leaf (.normal, SNRK a b (.slice 3 0 5 1 none) [.str s0, .str s1, .str s2, .str s3, .str s4] [s0, s1, s2, s3, s4] (.tup [.tup []]) count u v v1 (vi 1) (.slice 15 0 1 1 none) (cF [.str (cut8 s0)]))))))))
set_option maxRecDepth 1000000 in
theorem treeRK5_0_eq (a : Gw.Offer) (b : Gw.Offer) (s0 : Str) (s1 : Str) (s2 : Str) (s3 : Str) (s4 : Str) (count : Int) (u : Int) (v : Int) (v1 : Int) : rnd (orcsRK5 a b s0 s1 s2 s3 s4 count u v v1 .c0) (stsRK5 .c0) (orcRK5 a b s0 s1 s2 s3 s4 count u v v1 .c0) (stRK5 .c0) noLt 0 lpRK ((loopRK a b (.slice 3 0 5 1 none) [.str s0, .str s1, .str s2, .str s3, .str s4] [s0, s1, s2, s3, s4] (.tup [.tup []]) count u v v1).t0 .c0) [] ((loopRK a b (.slice 3 0 5 1 none) [.str s0, .str s1, .str s2, .str s3, .str s4] [s0, s1, s2, s3, s4] (.tup [.tup []]) count u v v1).h0 .c0) (loopRK a b (.slice 3 0 5 1 none) [.str s0, .str s1, .str s2, .str s3, .str s4] [s0, s1, s2, s3, s4] (.tup [.tup []]) count u v v1).end_ = treeRK5_0 a b s0 s1 s2 s3 s4 count u v v1 := by kernel_rfl
def treeRK5_1 (a : Gw.Offer) (b : Gw.Offer) (s0 : Str) (s1 : Str) (s2 : Str) (s3 : Str) (s4 : Str) (count : Int) (u : Int) (v : Int) (v1 : Int) : DT (Ex × Snap) :=
  .ob (1 = 1 ∧ 0 ≤ (1 : Int) ∧ (1 : Int) < ((5 : Nat) : Int)) (
.ob ((0 ≤ ((if (8 : Int) < ((s1 : Str).length : Int) then 8 else ((s1 : Str).length : Int)) : Int) ∧ ((if (8 : Int) < ((s1 : Str).length : Int) then 8 else ((s1 : Str).length : Int)) : Int) ≤ (((s1 : Str).length : Nat) : Int)) ∧ (True)) (
.ob (((eqV (.agg [.i, .i, .i, .s]) (.agg [vi 3, vi 0, .int .u32 0, .str (cut8 s1)]) (.agg [vi 3, vi 0, .int .u32 0, .str (cut8 s1)])).map fun b => V.bool (if false then !b else b)) = some (.bool true)) (
.ob (binV .leq (vi (((cut8 s1) : Str).length : Int)) (vi 64) = some (.bool true)) (
.ob (binV .gtr (vi (((cut8 s1) : Str).length : Int)) (vi (if (64 : Int) < (dealL (fineO a) (fineO b)).size then 64 else (dealL (fineO a) (fineO b)).size)) = some (.bool false)) (
.ob ((1 = 1 ∧ ([.str (cut8 s1)] : List V).length = 1 * 1) ∧ allOne [.str (cut8 s1)] = true ∧ 1 = 1 ∧ 2 * 16 ≤ 70368744177664 ∧ ([.str (cut8 s0)] : List V).length = 1 * 1) (
.leaf (.normal, SNRK a b (.slice 3 0 5 1 none) [.str s0, .str s1, .str s2, .str s3, .str s4] [s0, s1, s2, s3, s4] (.tup [.tup []]) count u v v1 (vi 2) (.slice 15 0 2 1 none) (cF [.str (cut8 s0), .str (cut8 s1)]))))))))
set_option maxRecDepth 1000000 in
theorem treeRK5_1_eq (a : Gw.Offer) (b : Gw.Offer) (s0 : Str) (s1 : Str) (s2 : Str) (s3 : Str) (s4 : Str) (count : Int) (u : Int) (v : Int) (v1 : Int) : rnd (orcsRK5 a b s0 s1 s2 s3 s4 count u v v1 .c1) (stsRK5 .c1) (orcRK5 a b s0 s1 s2 s3 s4 count u v v1 .c1) (stRK5 .c1) noLt 0 lpRK ((loopRK a b (.slice 3 0 5 1 none) [.str s0, .str s1, .str s2, .str s3, .str s4] [s0, s1, s2, s3, s4] (.tup [.tup []]) count u v v1).t0 .c1) [] ((loopRK a b (.slice 3 0 5 1 none) [.str s0, .str s1, .str s2, .str s3, .str s4] [s0, s1, s2, s3, s4] (.tup [.tup []]) count u v v1).h0 .c1) (loopRK a b (.slice 3 0 5 1 none) [.str s0, .str s1, .str s2, .str s3, .str s4] [s0, s1, s2, s3, s4] (.tup [.tup []]) count u v v1).end_ = treeRK5_1 a b s0 s1 s2 s3 s4 count u v v1 := by kernel_rfl
def treeRK5_2 (a : Gw.Offer) (b : Gw.Offer) (s0 : Str) (s1 : Str) (s2 : Str) (s3 : Str) (s4 : Str) (count : Int) (u : Int) (v : Int) (v1 : Int) : DT (Ex × Snap) :=
  .ob (1 = 1 ∧ 0 ≤ (2 : Int) ∧ (2 : Int) < ((5 : Nat) : Int)) (
.ob ((0 ≤ ((if (8 : Int) < ((s2 : Str).length : Int) then 8 else ((s2 : Str).length : Int)) : Int) ∧ ((if (8 : Int) < ((s2 : Str).length : Int) then 8 else ((s2 : Str).length : Int)) : Int) ≤ (((s2 : Str).length : Nat) : Int)) ∧ (True)) (
.ob (((eqV (.agg [.i, .i, .i, .s]) (.agg [vi 3, vi 0, .int .u32 0, .str (cut8 s2)]) (.agg [vi 3, vi 0, .int .u32 0, .str (cut8 s2)])).map fun b => V.bool (if false then !b else b)) = some (.bool true)) (
.ob (binV .leq (vi (((cut8 s2) : Str).length : Int)) (vi 64) = some (.bool true)) (
.ob (binV .gtr (vi (((cut8 s2) : Str).length : Int)) (vi (if (64 : Int) < (dealL (fineO a) (fineO b)).size then 64 else (dealL (fineO a) (fineO b)).size)) = some (.bool false)) (
.ob ((1 = 1 ∧ ([.str (cut8 s2)] : List V).length = 1 * 1) ∧ allOne [.str (cut8 s2)] = true ∧ 1 = 1 ∧ 3 * 16 ≤ 70368744177664 ∧ ([.str (cut8 s0), .str (cut8 s1)] : List V).length = 2 * 1) (
.leaf (.normal, SNRK a b (.slice 3 0 5 1 none) [.str s0, .str s1, .str s2, .str s3, .str s4] [s0, s1, s2, s3, s4] (.tup [.tup []]) count u v v1 (vi 3) (.slice 15 0 3 1 none) (cF [.str (cut8 s0), .str (cut8 s1), .str (cut8 s2)]))))))))
set_option maxRecDepth 1000000 in
theorem treeRK5_2_eq (a : Gw.Offer) (b : Gw.Offer) (s0 : Str) (s1 : Str) (s2 : Str) (s3 : Str) (s4 : Str) (count : Int) (u : Int) (v : Int) (v1 : Int) : rnd (orcsRK5 a b s0 s1 s2 s3 s4 count u v v1 .c2) (stsRK5 .c2) (orcRK5 a b s0 s1 s2 s3 s4 count u v v1 .c2) (stRK5 .c2) noLt 0 lpRK ((loopRK a b (.slice 3 0 5 1 none) [.str s0, .str s1, .str s2, .str s3, .str s4] [s0, s1, s2, s3, s4] (.tup [.tup []]) count u v v1).t0 .c2) [] ((loopRK a b (.slice 3 0 5 1 none) [.str s0, .str s1, .str s2, .str s3, .str s4] [s0, s1, s2, s3, s4] (.tup [.tup []]) count u v v1).h0 .c2) (loopRK a b (.slice 3 0 5 1 none) [.str s0, .str s1, .str s2, .str s3, .str s4] [s0, s1, s2, s3, s4] (.tup [.tup []]) count u v v1).end_ = treeRK5_2 a b s0 s1 s2 s3 s4 count u v v1 := by kernel_rfl
def treeRK5_3 (a : Gw.Offer) (b : Gw.Offer) (s0 : Str) (s1 : Str) (s2 : Str) (s3 : Str) (s4 : Str) (count : Int) (u : Int) (v : Int) (v1 : Int) : DT (Ex × Snap) :=
  .ob (1 = 1 ∧ 0 ≤ (3 : Int) ∧ (3 : Int) < ((5 : Nat) : Int)) (
.ob ((0 ≤ ((if (8 : Int) < ((s3 : Str).length : Int) then 8 else ((s3 : Str).length : Int)) : Int) ∧ ((if (8 : Int) < ((s3 : Str).length : Int) then 8 else ((s3 : Str).length : Int)) : Int) ≤ (((s3 : Str).length : Nat) : Int)) ∧ (True)) (
.ob (((eqV (.agg [.i, .i, .i, .s]) (.agg [vi 3, vi 0, .int .u32 0, .str (cut8 s3)]) (.agg [vi 3, vi 0, .int .u32 0, .str (cut8 s3)])).map fun b => V.bool (if false then !b else b)) = some (.bool true)) (
.ob (binV .leq (vi (((cut8 s3) : Str).length : Int)) (vi 64) = some (.bool true)) (
.ob (binV .gtr (vi (((cut8 s3) : Str).length : Int)) (vi (if (64 : Int) < (dealL (fineO a) (fineO b)).size then 64 else (dealL (fineO a) (fineO b)).size)) = some (.bool false)) (
.ob ((1 = 1 ∧ ([.str (cut8 s3)] : List V).length = 1 * 1) ∧ allOne [.str (cut8 s3)] = true ∧ 1 = 1 ∧ 4 * 16 ≤ 70368744177664 ∧ ([.str (cut8 s0), .str (cut8 s1), .str (cut8 s2)] : List V).length = 3 * 1) (
.leaf (.normal, SNRK a b (.slice 3 0 5 1 none) [.str s0, .str s1, .str s2, .str s3, .str s4] [s0, s1, s2, s3, s4] (.tup [.tup []]) count u v v1 (vi 4) (.slice 15 0 4 1 none) (cF [.str (cut8 s0), .str (cut8 s1), .str (cut8 s2), .str (cut8 s3)]))))))))
set_option maxRecDepth 1000000 in
theorem treeRK5_3_eq (a : Gw.Offer) (b : Gw.Offer) (s0 : Str) (s1 : Str) (s2 : Str) (s3 : Str) (s4 : Str) (count : Int) (u : Int) (v : Int) (v1 : Int) : rnd (orcsRK5 a b s0 s1 s2 s3 s4 count u v v1 .c3) (stsRK5 .c3) (orcRK5 a b s0 s1 s2 s3 s4 count u v v1 .c3) (stRK5 .c3) noLt 0 lpRK ((loopRK a b (.slice 3 0 5 1 none) [.str s0, .str s1, .str s2, .str s3, .str s4] [s0, s1, s2, s3, s4] (.tup [.tup []]) count u v v1).t0 .c3) [] ((loopRK a b (.slice 3 0 5 1 none) [.str s0, .str s1, .str s2, .str s3, .str s4] [s0, s1, s2, s3, s4] (.tup [.tup []]) count u v v1).h0 .c3) (loopRK a b (.slice 3 0 5 1 none) [.str s0, .str s1, .str s2, .str s3, .str s4] [s0, s1, s2, s3, s4] (.tup [.tup []]) count u v v1).end_ = treeRK5_3 a b s0 s1 s2 s3 s4 count u v v1 := by kernel_rfl
def treeRK5_4 (a : Gw.Offer) (b : Gw.Offer) (s0 : Str) (s1 : Str) (s2 : Str) (s3 : Str) (s4 : Str) (count : Int) (u : Int) (v : Int) (v1 : Int) : DT (Ex × Snap) :=
  .ob (1 = 1 ∧ 0 ≤ (4 : Int) ∧ (4 : Int) < ((5 : Nat) : Int)) (
.ob ((0 ≤ ((if (8 : Int) < ((s4 : Str).length : Int) then 8 else ((s4 : Str).length : Int)) : Int) ∧ ((if (8 : Int) < ((s4 : Str).length : Int) then 8 else ((s4 : Str).length : Int)) : Int) ≤ (((s4 : Str).length : Nat) : Int)) ∧ (True)) (
.ob (((eqV (.agg [.i, .i, .i, .s]) (.agg [vi 3, vi 0, .int .u32 0, .str (cut8 s4)]) (.agg [vi 3, vi 0, .int .u32 0, .str (cut8 s4)])).map fun b => V.bool (if false then !b else b)) = some (.bool true)) (
.ob (binV .leq (vi (((cut8 s4) : Str).length : Int)) (vi 64) = some (.bool true)) (
.ob (binV .gtr (vi (((cut8 s4) : Str).length : Int)) (vi (if (64 : Int) < (dealL (fineO a) (fineO b)).size then 64 else (dealL (fineO a) (fineO b)).size)) = some (.bool false)) (
.ob ((1 = 1 ∧ ([.str (cut8 s4)] : List V).length = 1 * 1) ∧ allOne [.str (cut8 s4)] = true ∧ 1 = 1 ∧ 5 * 16 ≤ 70368744177664 ∧ ([.str (cut8 s0), .str (cut8 s1), .str (cut8 s2), .str (cut8 s3)] : List V).length = 4 * 1) (
.leaf (.normal, SNRK a b (.slice 3 0 5 1 none) [.str s0, .str s1, .str s2, .str s3, .str s4] [s0, s1, s2, s3, s4] (.tup [.tup []]) count u v v1 (vi 5) (.slice 15 0 5 1 none) (cF [.str (cut8 s0), .str (cut8 s1), .str (cut8 s2), .str (cut8 s3), .str (cut8 s4)]))))))))
set_option maxRecDepth 1000000 in
theorem treeRK5_4_eq (a : Gw.Offer) (b : Gw.Offer) (s0 : Str) (s1 : Str) (s2 : Str) (s3 : Str) (s4 : Str) (count : Int) (u : Int) (v : Int) (v1 : Int) : rnd (orcsRK5 a b s0 s1 s2 s3 s4 count u v v1 .c4) (stsRK5 .c4) (orcRK5 a b s0 s1 s2 s3 s4 count u v v1 .c4) (stRK5 .c4) noLt 0 lpRK ((loopRK a b (.slice 3 0 5 1 none) [.str s0, .str s1, .str s2, .str s3, .str s4] [s0, s1, s2, s3, s4] (.tup [.tup []]) count u v v1).t0 .c4) [] ((loopRK a b (.slice 3 0 5 1 none) [.str s0, .str s1, .str s2, .str s3, .str s4] [s0, s1, s2, s3, s4] (.tup [.tup []]) count u v v1).h0 .c4) (loopRK a b (.slice 3 0 5 1 none) [.str s0, .str s1, .str s2, .str s3, .str s4] [s0, s1, s2, s3, s4] (.tup [.tup []]) count u v v1).end_ = treeRK5_4 a b s0 s1 s2 s3 s4 count u v v1 := by kernel_rfl
def treeRK5_5 (a : Gw.Offer) (b : Gw.Offer) (s0 : Str) (s1 : Str) (s2 : Str) (s3 : Str) (s4 : Str) (count : Int) (u : Int) (v : Int) (v1 : Int) : DT (Ex × Snap) :=
  .leaf ((.exit 0), XNRK a b (.slice 3 0 5 1 none) [.str s0, .str s1, .str s2, .str s3, .str s4] [s0, s1, s2, s3, s4] (.tup [.tup []]) count u v v1 (.tup [.tup []]))
set_option maxRecDepth 1000000 in
theorem treeRK5_5_eq (a : Gw.Offer) (b : Gw.Offer) (s0 : Str) (s1 : Str) (s2 : Str) (s3 : Str) (s4 : Str) (count : Int) (u : Int) (v : Int) (v1 : Int) : rnd (orcsRK5 a b s0 s1 s2 s3 s4 count u v v1 .c5) (stsRK5 .c5) (orcRK5 a b s0 s1 s2 s3 s4 count u v v1 .c5) (stRK5 .c5) noLt 0 lpRK ((loopRK a b (.slice 3 0 5 1 none) [.str s0, .str s1, .str s2, .str s3, .str s4] [s0, s1, s2, s3, s4] (.tup [.tup []]) count u v v1).t0 .c5) [] ((loopRK a b (.slice 3 0 5 1 none) [.str s0, .str s1, .str s2, .str s3, .str s4] [s0, s1, s2, s3, s4] (.tup [.tup []]) count u v v1).h0 .c5) (loopRK a b (.slice 3 0 5 1 none) [.str s0, .str s1, .str s2, .str s3, .str s4] [s0, s1, s2, s3, s4] (.tup [.tup []]) count u v v1).end_ = treeRK5_5 a b s0 s1 s2 s3 s4 count u v v1 := by kernel_rfl
def treeRK5L (a : Gw.Offer) (b : Gw.Offer) (s0 : Str) (s1 : Str) (s2 : Str) (s3 : Str) (s4 : Str) (count : Int) (u : Int) (v : Int) (v1 : Int) (i : IRK) : DT (Ex × Snap) := match i with
  | .c0 => treeRK5_0 a b s0 s1 s2 s3 s4 count u v v1
  | .c1 => treeRK5_1 a b s0 s1 s2 s3 s4 count u v v1
  | .c2 => treeRK5_2 a b s0 s1 s2 s3 s4 count u v v1
  | .c3 => treeRK5_3 a b s0 s1 s2 s3 s4 count u v v1
  | .c4 => treeRK5_4 a b s0 s1 s2 s3 s4 count u v v1
  | .c5 => treeRK5_5 a b s0 s1 s2 s3 s4 count u v v1
theorem roundRK5 (a : Gw.Offer) (b : Gw.Offer) (s0 : Str) (s1 : Str) (s2 : Str) (s3 : Str) (s4 : Str) (count : Int) (u : Int) (v : Int) (v1 : Int) (i : IRK) (Pr : Ex × Snap → Prop) (h : ((loopRK a b (.slice 3 0 5 1 none) [.str s0, .str s1, .str s2, .str s3, .str s4] [s0, s1, s2, s3, s4] (.tup [.tup []]) count u v v1).out i).sat Pr) : (treeRK5L a b s0 s1 s2 s3 s4 count u v v1 i).sat ((loopRK a b (.slice 3 0 5 1 none) [.str s0, .str s1, .str s2, .str s3, .str s4] [s0, s1, s2, s3, s4] (.tup [.tup []]) count u v v1).next muRK i Pr) := by
  match i with
  | .c0 =>
    have hi : invRK a b (.slice 3 0 5 1 none) [.str s0, .str s1, .str s2, .str s3, .str s4] [s0, s1, s2, s3, s4] (.tup [.tup []]) count u v v1 .c0 := h.1
    have hX := h.2
    exact sat_ob (by decide) (
sat_ob ⟨by split <;> omega, trivial⟩ (
sat_ob (by first | rfl | simp [V.beq, V.beqs, allOne, V.one, byteVs, binV, binI, eqV, eqCells]) (
sat_ob (by have := cut8_len s0; simp [binV, binI]; omega) (
sat_ob (gtr8 s0 (size8 a b)) (
sat_ob (by first | rfl | simp [V.beq, V.beqs, allOne, V.one, byteVs, binV, binI, eqV, eqCells]) (
sat_leaf (⟨.c1, (by kernel_rfl), (by show  5 < 6; decide), ⟨(show 1 ≤ _ by simp), hX⟩⟩)))))))
  | .c1 =>
    have hi : invRK a b (.slice 3 0 5 1 none) [.str s0, .str s1, .str s2, .str s3, .str s4] [s0, s1, s2, s3, s4] (.tup [.tup []]) count u v v1 .c1 := h.1
    have hX := h.2
    exact sat_ob (by decide) (
sat_ob ⟨by split <;> omega, trivial⟩ (
sat_ob (by first | rfl | simp [V.beq, V.beqs, allOne, V.one, byteVs, binV, binI, eqV, eqCells]) (
sat_ob (by have := cut8_len s1; simp [binV, binI]; omega) (
sat_ob (gtr8 s1 (size8 a b)) (
sat_ob (by first | rfl | simp [V.beq, V.beqs, allOne, V.one, byteVs, binV, binI, eqV, eqCells]) (
sat_leaf (⟨.c2, (by kernel_rfl), (by show  4 < 5; decide), ⟨(show 2 ≤ _ by simp), hX⟩⟩)))))))
  | .c2 =>
    have hi : invRK a b (.slice 3 0 5 1 none) [.str s0, .str s1, .str s2, .str s3, .str s4] [s0, s1, s2, s3, s4] (.tup [.tup []]) count u v v1 .c2 := h.1
    have hX := h.2
    exact sat_ob (by decide) (
sat_ob ⟨by split <;> omega, trivial⟩ (
sat_ob (by first | rfl | simp [V.beq, V.beqs, allOne, V.one, byteVs, binV, binI, eqV, eqCells]) (
sat_ob (by have := cut8_len s2; simp [binV, binI]; omega) (
sat_ob (gtr8 s2 (size8 a b)) (
sat_ob (by first | rfl | simp [V.beq, V.beqs, allOne, V.one, byteVs, binV, binI, eqV, eqCells]) (
sat_leaf (⟨.c3, (by kernel_rfl), (by show  3 < 4; decide), ⟨(show 3 ≤ _ by simp), hX⟩⟩)))))))
  | .c3 =>
    have hi : invRK a b (.slice 3 0 5 1 none) [.str s0, .str s1, .str s2, .str s3, .str s4] [s0, s1, s2, s3, s4] (.tup [.tup []]) count u v v1 .c3 := h.1
    have hX := h.2
    exact sat_ob (by decide) (
sat_ob ⟨by split <;> omega, trivial⟩ (
sat_ob (by first | rfl | simp [V.beq, V.beqs, allOne, V.one, byteVs, binV, binI, eqV, eqCells]) (
sat_ob (by have := cut8_len s3; simp [binV, binI]; omega) (
sat_ob (gtr8 s3 (size8 a b)) (
sat_ob (by first | rfl | simp [V.beq, V.beqs, allOne, V.one, byteVs, binV, binI, eqV, eqCells]) (
sat_leaf (⟨.c4, (by kernel_rfl), (by show  2 < 3; decide), ⟨(show 4 ≤ _ by simp), hX⟩⟩)))))))
  | .c4 =>
    have hi : invRK a b (.slice 3 0 5 1 none) [.str s0, .str s1, .str s2, .str s3, .str s4] [s0, s1, s2, s3, s4] (.tup [.tup []]) count u v v1 .c4 := h.1
    have hX := h.2
    exact sat_ob (by decide) (
sat_ob ⟨by split <;> omega, trivial⟩ (
sat_ob (by first | rfl | simp [V.beq, V.beqs, allOne, V.one, byteVs, binV, binI, eqV, eqCells]) (
sat_ob (by have := cut8_len s4; simp [binV, binI]; omega) (
sat_ob (gtr8 s4 (size8 a b)) (
sat_ob (by first | rfl | simp [V.beq, V.beqs, allOne, V.one, byteVs, binV, binI, eqV, eqCells]) (
sat_leaf (⟨.c5, (by kernel_rfl), (by show  1 < 2; decide), ⟨(show 5 ≤ _ by simp), hX⟩⟩)))))))
  | .c5 =>
    have hi : invRK a b (.slice 3 0 5 1 none) [.str s0, .str s1, .str s2, .str s3, .str s4] [s0, s1, s2, s3, s4] (.tup [.tup []]) count u v v1 .c5 := h.1
    have hX := h.2
    exact sat_leaf (hX)
set_option maxRecDepth 1000000 in
theorem ltRK5_ok (a : Gw.Offer) (b : Gw.Offer) (s0 : Str) (s1 : Str) (s2 : Str) (s3 : Str) (s4 : Str) (count : Int) (u : Int) (v : Int) (v1 : Int) (hint : Nat → List Nat) : Lt1 Tryz.prog hint 4 (loopRK a b (.slice 3 0 5 1 none) [.str s0, .str s1, .str s2, .str s3, .str s4] [s0, s1, s2, s3, s4] (.tup [.tup []]) count u v v1).lt lpRK :=
  LoopD.lt1c mixed (show TabX Tryz.prog noPX oxM from tabM) tabD (loopRK a b (.slice 3 0 5 1 none) [.str s0, .str s1, .str s2, .str s3, .str s4] [s0, s1, s2, s3, s4] (.tup [.tup []]) count u v v1) muRK (fun ex => match ex with | .normal => ⟨show 3 ≤ 15 by decide, show 4 ≤ 15 by decide⟩ | .exit _ => ⟨show 3 ≤ 15 by decide, show 4 ≤ 15 by decide⟩ | .ret => ⟨show 3 ≤ 15 by decide, show 4 ≤ 15 by decide⟩) (orcs := orcsRK5 a b s0 s1 s2 s3 s4 count u v v1) (sts := stsRK5) (orc := orcRK5 a b s0 s1 s2 s3 s4 count u v v1) (st := stRK5) (tree := treeRK5L a b s0 s1 s2 s3 s4 count u v v1)
    (fun i => match i with
    | .c0 => treeRK5_0_eq a b s0 s1 s2 s3 s4 count u v v1
    | .c1 => treeRK5_1_eq a b s0 s1 s2 s3 s4 count u v v1
    | .c2 => treeRK5_2_eq a b s0 s1 s2 s3 s4 count u v v1
    | .c3 => treeRK5_3_eq a b s0 s1 s2 s3 s4 count u v v1
    | .c4 => treeRK5_4_eq a b s0 s1 s2 s3 s4 count u v v1
    | .c5 => treeRK5_5_eq a b s0 s1 s2 s3 s4 count u v v1) (roundRK5 a b s0 s1 s2 s3 s4 count u v v1)
def orcRK6 (a : Gw.Offer) (b : Gw.Offer) (R : List V) (ln : Nat) (s0 : Str) (s1 : Str) (s2 : Str) (s3 : Str) (s4 : Str) (count : Int) (u : Int) (v : Int) (v1 : Int) (i : IRK) : Orc := match i with
  | .c0 => (fun k => match k with | 39 => some fun t h => (.bool true, h) | 50 => some fun t h => (.str s0, h) | _ => none)
  | .c1 => (fun k => match k with | 39 => some fun t h => (.bool true, h) | 50 => some fun t h => (.str s1, h) | _ => none)
  | .c2 => (fun k => match k with | 39 => some fun t h => (.bool true, h) | 50 => some fun t h => (.str s2, h) | _ => none)
  | .c3 => (fun k => match k with | 39 => some fun t h => (.bool true, h) | 50 => some fun t h => (.str s3, h) | _ => none)
  | .c4 => (fun k => match k with | 39 => some fun t h => (.bool true, h) | 50 => some fun t h => (.str s4, h) | _ => none)
  | .c5 => (fun k => match k with | 39 => some fun t h => (.bool true, h) | _ => none)
def orcsRK6 (a : Gw.Offer) (b : Gw.Offer) (R : List V) (ln : Nat) (s0 : Str) (s1 : Str) (s2 : Str) (s3 : Str) (s4 : Str) (count : Int) (u : Int) (v : Int) (v1 : Int) (i : IRK) : Nat → Orc := match i with
  | .c0 => (fun g => match g with | 31 => (fun k => match k with | 58 => some fun t h => (.bool true, h) | 63 => some fun t h => (.bool true, h) | _ => none) | 33 => (fun k => match k with | 15 => some fun t h => (.bool false, h) | _ => none) | _ => noOrc)
  | .c1 => (fun g => match g with | 31 => (fun k => match k with | 58 => some fun t h => (.bool true, h) | 63 => some fun t h => (.bool true, h) | _ => none) | 33 => (fun k => match k with | 15 => some fun t h => (.bool false, h) | _ => none) | _ => noOrc)
  | .c2 => (fun g => match g with | 31 => (fun k => match k with | 58 => some fun t h => (.bool true, h) | 63 => some fun t h => (.bool true, h) | _ => none) | 33 => (fun k => match k with | 15 => some fun t h => (.bool false, h) | _ => none) | _ => noOrc)
  | .c3 => (fun g => match g with | 31 => (fun k => match k with | 58 => some fun t h => (.bool true, h) | 63 => some fun t h => (.bool true, h) | _ => none) | 33 => (fun k => match k with | 15 => some fun t h => (.bool false, h) | _ => none) | _ => noOrc)
  | .c4 => (fun g => match g with | 31 => (fun k => match k with | 58 => some fun t h => (.bool true, h) | 63 => some fun t h => (.bool true, h) | _ => none) | 33 => (fun k => match k with | 15 => some fun t h => (.bool false, h) | _ => none) | _ => noOrc)
  | .c5 => (fun _ => noOrc)
def stsRK6 (i : IRK) : Nat → List Nat := match i with
  | .c0 => (fun k => match k with | 8 => [39, 42] | 12 => [10, 15, 20, 25, 30, 31, 37, 41, 50, 81] | 31 => [10, 33, 34, 52, 58, 63] | 33 => [15] | 67 => [14] | _ => [])
  | .c1 => (fun k => match k with | 8 => [39, 42] | 12 => [10, 15, 20, 25, 30, 31, 37, 41, 50, 81] | 31 => [10, 33, 34, 52, 58, 63] | 33 => [15] | 67 => [14] | _ => [])
  | .c2 => (fun k => match k with | 8 => [39, 42] | 12 => [10, 15, 20, 25, 30, 31, 37, 41, 50, 81] | 31 => [10, 33, 34, 52, 58, 63] | 33 => [15] | 67 => [14] | _ => [])
  | .c3 => (fun k => match k with | 8 => [39, 42] | 12 => [10, 15, 20, 25, 30, 31, 37, 41, 50, 81] | 31 => [10, 33, 34, 52, 58, 63] | 33 => [15] | 67 => [14] | _ => [])
  | .c4 => (fun k => match k with | 8 => [39, 42] | 12 => [10, 15, 20, 25, 30, 31, 37, 41, 50, 81] | 31 => [10, 33, 34, 52, 58, 63] | 33 => [15] | 67 => [14] | _ => [])
  | .c5 => (fun k => match k with | 8 => [39, 42] | _ => [])
def stRK6 (i : IRK) : List Nat := match i with
  | .c0 => [39, 42]
  | .c1 => [39, 42]
  | .c2 => [39, 42]
  | .c3 => [39, 42]
  | .c4 => [39, 42]
  | .c5 => [39, 42]
def treeRK6_0 (a : Gw.Offer) (b : Gw.Offer) (R : List V) (ln : Nat) (s0 : Str) (s1 : Str) (s2 : Str) (s3 : Str) (s4 : Str) (count : Int) (u : Int) (v : Int) (v1 : Int) : DT (Ex × Snap) :=
  .ob (binV .lss (vi 0) (vi ((ln : Nat) : Int)) = some (.bool true)) (
.ob (1 = 1 ∧ 0 ≤ (0 : Int) ∧ (0 : Int) < ((ln : Nat) : Int)) (
.ob (cellAt R 0 = some (.str s0)) (
.ob ((0 ≤ ((if (8 : Int) < ((s0 : Str).length : Int) then 8 else ((s0 : Str).length : Int)) : Int) ∧ ((if (8 : Int) < ((s0 : Str).length : Int) then 8 else ((s0 : Str).length : Int)) : Int) ≤ (((s0 : Str).length : Nat) : Int)) ∧ (True)) (
.ob (((eqV (.agg [.i, .i, .i, .s]) (.agg [vi 3, vi 0, .int .u32 0, .str (cut8 s0)]) (.agg [vi 3, vi 0, .int .u32 0, .str (cut8 s0)])).map fun b => V.bool (if false then !b else b)) = some (.bool true)) (
.ob (binV .leq (vi (((cut8 s0) : Str).length : Int)) (vi 64) = some (.bool true)) (
.ob (binV .gtr (vi (((cut8 s0) : Str).length : Int)) (vi (if (64 : Int) < (dealL (fineO a) (fineO b)).size then 64 else (dealL (fineO a) (fineO b)).size)) = some (.bool false)) (
.ob ((1 = 1 ∧ ([.str (cut8 s0)] : List V).length = 1 * 1) ∧ allOne [.str (cut8 s0)] = true ∧ 1 * 16 ≤ 70368744177664) (
.leaf (.normal, SNRK a b (.slice 3 0 ln 1 none) (mskVs (fnO 15 [some 36]) R) [s0, s1, s2, s3, s4] (.tup [.tup []]) count u v v1 (vi 1) (.slice 15 0 1 1 none) (cF [.str (cut8 s0)]))))))))))
set_option maxRecDepth 1000000 in
theorem treeRK6_0_eq (a : Gw.Offer) (b : Gw.Offer) (R : List V) (ln : Nat) (s0 : Str) (s1 : Str) (s2 : Str) (s3 : Str) (s4 : Str) (count : Int) (u : Int) (v : Int) (v1 : Int) : rnd (orcsRK6 a b R ln s0 s1 s2 s3 s4 count u v v1 .c0) (stsRK6 .c0) (orcRK6 a b R ln s0 s1 s2 s3 s4 count u v v1 .c0) (stRK6 .c0) noLt 0 lpRK ((loopRK a b (.slice 3 0 ln 1 none) R [s0, s1, s2, s3, s4] (.tup [.tup []]) count u v v1).t0 .c0) [] ((loopRK a b (.slice 3 0 ln 1 none) R [s0, s1, s2, s3, s4] (.tup [.tup []]) count u v v1).h0 .c0) (loopRK a b (.slice 3 0 ln 1 none) R [s0, s1, s2, s3, s4] (.tup [.tup []]) count u v v1).end_ = treeRK6_0 a b R ln s0 s1 s2 s3 s4 count u v v1 := by kernel_rfl
def treeRK6_1 (a : Gw.Offer) (b : Gw.Offer) (R : List V) (ln : Nat) (s0 : Str) (s1 : Str) (s2 : Str) (s3 : Str) (s4 : Str) (count : Int) (u : Int) (v : Int) (v1 : Int) : DT (Ex × Snap) :=
  .ob (binV .lss (vi 1) (vi ((ln : Nat) : Int)) = some (.bool true)) (
.ob (1 = 1 ∧ 0 ≤ (1 : Int) ∧ (1 : Int) < ((ln : Nat) : Int)) (
.ob (cellAt R 1 = some (.str s1)) (
.ob ((0 ≤ ((if (8 : Int) < ((s1 : Str).length : Int) then 8 else ((s1 : Str).length : Int)) : Int) ∧ ((if (8 : Int) < ((s1 : Str).length : Int) then 8 else ((s1 : Str).length : Int)) : Int) ≤ (((s1 : Str).length : Nat) : Int)) ∧ (True)) (
.ob (((eqV (.agg [.i, .i, .i, .s]) (.agg [vi 3, vi 0, .int .u32 0, .str (cut8 s1)]) (.agg [vi 3, vi 0, .int .u32 0, .str (cut8 s1)])).map fun b => V.bool (if false then !b else b)) = some (.bool true)) (
.ob (binV .leq (vi (((cut8 s1) : Str).length : Int)) (vi 64) = some (.bool true)) (
.ob (binV .gtr (vi (((cut8 s1) : Str).length : Int)) (vi (if (64 : Int) < (dealL (fineO a) (fineO b)).size then 64 else (dealL (fineO a) (fineO b)).size)) = some (.bool false)) (
.ob ((1 = 1 ∧ ([.str (cut8 s1)] : List V).length = 1 * 1) ∧ allOne [.str (cut8 s1)] = true ∧ 1 = 1 ∧ 2 * 16 ≤ 70368744177664 ∧ ([.str (cut8 s0)] : List V).length = 1 * 1) (
.leaf (.normal, SNRK a b (.slice 3 0 ln 1 none) (mskVs (fnO 15 [some 36]) R) [s0, s1, s2, s3, s4] (.tup [.tup []]) count u v v1 (vi 2) (.slice 15 0 2 1 none) (cF [.str (cut8 s0), .str (cut8 s1)]))))))))))
set_option maxRecDepth 1000000 in
theorem treeRK6_1_eq (a : Gw.Offer) (b : Gw.Offer) (R : List V) (ln : Nat) (s0 : Str) (s1 : Str) (s2 : Str) (s3 : Str) (s4 : Str) (count : Int) (u : Int) (v : Int) (v1 : Int) : rnd (orcsRK6 a b R ln s0 s1 s2 s3 s4 count u v v1 .c1) (stsRK6 .c1) (orcRK6 a b R ln s0 s1 s2 s3 s4 count u v v1 .c1) (stRK6 .c1) noLt 0 lpRK ((loopRK a b (.slice 3 0 ln 1 none) R [s0, s1, s2, s3, s4] (.tup [.tup []]) count u v v1).t0 .c1) [] ((loopRK a b (.slice 3 0 ln 1 none) R [s0, s1, s2, s3, s4] (.tup [.tup []]) count u v v1).h0 .c1) (loopRK a b (.slice 3 0 ln 1 none) R [s0, s1, s2, s3, s4] (.tup [.tup []]) count u v v1).end_ = treeRK6_1 a b R ln s0 s1 s2 s3 s4 count u v v1 := by kernel_rfl
def treeRK6_2 (a : Gw.Offer) (b : Gw.Offer) (R : List V) (ln : Nat) (s0 : Str) (s1 : Str) (s2 : Str) (s3 : Str) (s4 : Str) (count : Int) (u : Int) (v : Int) (v1 : Int) : DT (Ex × Snap) :=
  .ob (binV .lss (vi 2) (vi ((ln : Nat) : Int)) = some (.bool true)) (
.ob (1 = 1 ∧ 0 ≤ (2 : Int) ∧ (2 : Int) < ((ln : Nat) : Int)) (
.ob (cellAt R 2 = some (.str s2)) (
.ob ((0 ≤ ((if (8 : Int) < ((s2 : Str).length : Int) then 8 else ((s2 : Str).length : Int)) : Int) ∧ ((if (8 : Int) < ((s2 : Str).length : Int) then 8 else ((s2 : Str).length : Int)) : Int) ≤ (((s2 : Str).length : Nat) : Int)) ∧ (True)) (
.ob (((eqV (.agg [.i, .i, .i, .s]) (.agg [vi 3, vi 0, .int .u32 0, .str (cut8 s2)]) (.agg [vi 3, vi 0, .int .u32 0, .str (cut8 s2)])).map fun b => V.bool (if false then !b else b)) = some (.bool true)) (
.ob (binV .leq (vi (((cut8 s2) : Str).length : Int)) (vi 64) = some (.bool true)) (
.ob (binV .gtr (vi (((cut8 s2) : Str).length : Int)) (vi (if (64 : Int) < (dealL (fineO a) (fineO b)).size then 64 else (dealL (fineO a) (fineO b)).size)) = some (.bool false)) (
.ob ((1 = 1 ∧ ([.str (cut8 s2)] : List V).length = 1 * 1) ∧ allOne [.str (cut8 s2)] = true ∧ 1 = 1 ∧ 3 * 16 ≤ 70368744177664 ∧ ([.str (cut8 s0), .str (cut8 s1)] : List V).length = 2 * 1) (
.leaf (.normal, SNRK a b (.slice 3 0 ln 1 none) (mskVs (fnO 15 [some 36]) R) [s0, s1, s2, s3, s4] (.tup [.tup []]) count u v v1 (vi 3) (.slice 15 0 3 1 none) (cF [.str (cut8 s0), .str (cut8 s1), .str (cut8 s2)]))))))))))
set_option maxRecDepth 1000000 in
theorem treeRK6_2_eq (a : Gw.Offer) (b : Gw.Offer) (R : List V) (ln : Nat) (s0 : Str) (s1 : Str) (s2 : Str) (s3 : Str) (s4 : Str) (count : Int) (u : Int) (v : Int) (v1 : Int) : rnd (orcsRK6 a b R ln s0 s1 s2 s3 s4 count u v v1 .c2) (stsRK6 .c2) (orcRK6 a b R ln s0 s1 s2 s3 s4 count u v v1 .c2) (stRK6 .c2) noLt 0 lpRK ((loopRK a b (.slice 3 0 ln 1 none) R [s0, s1, s2, s3, s4] (.tup [.tup []]) count u v v1).t0 .c2) [] ((loopRK a b (.slice 3 0 ln 1 none) R [s0, s1, s2, s3, s4] (.tup [.tup []]) count u v v1).h0 .c2) (loopRK a b (.slice 3 0 ln 1 none) R [s0, s1, s2, s3, s4] (.tup [.tup []]) count u v v1).end_ = treeRK6_2 a b R ln s0 s1 s2 s3 s4 count u v v1 := by kernel_rfl
def treeRK6_3 (a : Gw.Offer) (b : Gw.Offer) (R : List V) (ln : Nat) (s0 : Str) (s1 : Str) (s2 : Str) (s3 : Str) (s4 : Str) (count : Int) (u : Int) (v : Int) (v1 : Int) : DT (Ex × Snap) :=
  .ob (binV .lss (vi 3) (vi ((ln : Nat) : Int)) = some (.bool true)) (
.ob (1 = 1 ∧ 0 ≤ (3 : Int) ∧ (3 : Int) < ((ln : Nat) : Int)) (
.ob (cellAt R 3 = some (.str s3)) (
.ob ((0 ≤ ((if (8 : Int) < ((s3 : Str).length : Int) then 8 else ((s3 : Str).length : Int)) : Int) ∧ ((if (8 : Int) < ((s3 : Str).length : Int) then 8 else ((s3 : Str).length : Int)) : Int) ≤ (((s3 : Str).length : Nat) : Int)) ∧ (True)) (
.ob (((eqV (.agg [.i, .i, .i, .s]) (.agg [vi 3, vi 0, .int .u32 0, .str (cut8 s3)]) (.agg [vi 3, vi 0, .int .u32 0, .str (cut8 s3)])).map fun b => V.bool (if false then !b else b)) = some (.bool true)) (
.ob (binV .leq (vi (((cut8 s3) : Str).length : Int)) (vi 64) = some (.bool true)) (
.ob (binV .gtr (vi (((cut8 s3) : Str).length : Int)) (vi (if (64 : Int) < (dealL (fineO a) (fineO b)).size then 64 else (dealL (fineO a) (fineO b)).size)) = some (.bool false)) (
.ob ((1 = 1 ∧ ([.str (cut8 s3)] : List V).length = 1 * 1) ∧ allOne [.str (cut8 s3)] = true ∧ 1 = 1 ∧ 4 * 16 ≤ 70368744177664 ∧ ([.str (cut8 s0), .str (cut8 s1), .str (cut8 s2)] : List V).length = 3 * 1) (
.leaf (.normal, SNRK a b (.slice 3 0 ln 1 none) (mskVs (fnO 15 [some 36]) R) [s0, s1, s2, s3, s4] (.tup [.tup []]) count u v v1 (vi 4) (.slice 15 0 4 1 none) (cF [.str (cut8 s0), .str (cut8 s1), .str (cut8 s2), .str (cut8 s3)]))))))))))
set_option maxRecDepth 1000000 in
theorem treeRK6_3_eq (a : Gw.Offer) (b : Gw.Offer) (R : List V) (ln : Nat) (s0 : Str) (s1 : Str) (s2 : Str) (s3 : Str) (s4 : Str) (count : Int) (u : Int) (v : Int) (v1 : Int) : rnd (orcsRK6 a b R ln s0 s1 s2 s3 s4 count u v v1 .c3) (stsRK6 .c3) (orcRK6 a b R ln s0 s1 s2 s3 s4 count u v v1 .c3) (stRK6 .c3) noLt 0 lpRK ((loopRK a b (.slice 3 0 ln 1 none) R [s0, s1, s2, s3, s4] (.tup [.tup []]) count u v v1).t0 .c3) [] ((loopRK a b (.slice 3 0 ln 1 none) R [s0, s1, s2, s3, s4] (.tup [.tup []]) count u v v1).h0 .c3) (loopRK a b (.slice 3 0 ln 1 none) R [s0, s1, s2, s3, s4] (.tup [.tup []]) count u v v1).end_ = treeRK6_3 a b R ln s0 s1 s2 s3 s4 count u v v1 := by kernel_rfl
def treeRK6_4 (a : Gw.Offer) (b : Gw.Offer) (R : List V) (ln : Nat) (s0 : Str) (s1 : Str) (s2 : Str) (s3 : Str) (s4 : Str) (count : Int) (u : Int) (v : Int) (v1 : Int) : DT (Ex × Snap) :=
  .ob (binV .lss (vi 4) (vi ((ln : Nat) : Int)) = some (.bool true)) (
.ob (1 = 1 ∧ 0 ≤ (4 : Int) ∧ (4 : Int) < ((ln : Nat) : Int)) (
.ob (cellAt R 4 = some (.str s4)) (
.ob ((0 ≤ ((if (8 : Int) < ((s4 : Str).length : Int) then 8 else ((s4 : Str).length : Int)) : Int) ∧ ((if (8 : Int) < ((s4 : Str).length : Int) then 8 else ((s4 : Str).length : Int)) : Int) ≤ (((s4 : Str).length : Nat) : Int)) ∧ (True)) (
.ob (((eqV (.agg [.i, .i, .i, .s]) (.agg [vi 3, vi 0, .int .u32 0, .str (cut8 s4)]) (.agg [vi 3, vi 0, .int .u32 0, .str (cut8 s4)])).map fun b => V.bool (if false then !b else b)) = some (.bool true)) (
.ob (binV .leq (vi (((cut8 s4) : Str).length : Int)) (vi 64) = some (.bool true)) (
.ob (binV .gtr (vi (((cut8 s4) : Str).length : Int)) (vi (if (64 : Int) < (dealL (fineO a) (fineO b)).size then 64 else (dealL (fineO a) (fineO b)).size)) = some (.bool false)) (
.ob ((1 = 1 ∧ ([.str (cut8 s4)] : List V).length = 1 * 1) ∧ allOne [.str (cut8 s4)] = true ∧ 1 = 1 ∧ 5 * 16 ≤ 70368744177664 ∧ ([.str (cut8 s0), .str (cut8 s1), .str (cut8 s2), .str (cut8 s3)] : List V).length = 4 * 1) (
.leaf (.normal, SNRK a b (.slice 3 0 ln 1 none) (mskVs (fnO 15 [some 36]) R) [s0, s1, s2, s3, s4] (.tup [.tup []]) count u v v1 (vi 5) (.slice 15 0 5 1 none) (cF [.str (cut8 s0), .str (cut8 s1), .str (cut8 s2), .str (cut8 s3), .str (cut8 s4)]))))))))))
set_option maxRecDepth 1000000 in
theorem treeRK6_4_eq (a : Gw.Offer) (b : Gw.Offer) (R : List V) (ln : Nat) (s0 : Str) (s1 : Str) (s2 : Str) (s3 : Str) (s4 : Str) (count : Int) (u : Int) (v : Int) (v1 : Int) : rnd (orcsRK6 a b R ln s0 s1 s2 s3 s4 count u v v1 .c4) (stsRK6 .c4) (orcRK6 a b R ln s0 s1 s2 s3 s4 count u v v1 .c4) (stRK6 .c4) noLt 0 lpRK ((loopRK a b (.slice 3 0 ln 1 none) R [s0, s1, s2, s3, s4] (.tup [.tup []]) count u v v1).t0 .c4) [] ((loopRK a b (.slice 3 0 ln 1 none) R [s0, s1, s2, s3, s4] (.tup [.tup []]) count u v v1).h0 .c4) (loopRK a b (.slice 3 0 ln 1 none) R [s0, s1, s2, s3, s4] (.tup [.tup []]) count u v v1).end_ = treeRK6_4 a b R ln s0 s1 s2 s3 s4 count u v v1 := by kernel_rfl
def treeRK6_5 (a : Gw.Offer) (b : Gw.Offer) (R : List V) (ln : Nat) (s0 : Str) (s1 : Str) (s2 : Str) (s3 : Str) (s4 : Str) (count : Int) (u : Int) (v : Int) (v1 : Int) : DT (Ex × Snap) :=
  .ob (binV .lss (vi 5) (vi ((ln : Nat) : Int)) = some (.bool true)) (
.leaf ((.exit 0), XNRK a b (.slice 3 0 ln 1 none) (mskVs (fnO 15 []) R) [s0, s1, s2, s3, s4] (.tup [.tup []]) count u v v1 (.tup [.tup []])))
set_option maxRecDepth 1000000 in
theorem treeRK6_5_eq (a : Gw.Offer) (b : Gw.Offer) (R : List V) (ln : Nat) (s0 : Str) (s1 : Str) (s2 : Str) (s3 : Str) (s4 : Str) (count : Int) (u : Int) (v : Int) (v1 : Int) : rnd (orcsRK6 a b R ln s0 s1 s2 s3 s4 count u v v1 .c5) (stsRK6 .c5) (orcRK6 a b R ln s0 s1 s2 s3 s4 count u v v1 .c5) (stRK6 .c5) noLt 0 lpRK ((loopRK a b (.slice 3 0 ln 1 none) R [s0, s1, s2, s3, s4] (.tup [.tup []]) count u v v1).t0 .c5) [] ((loopRK a b (.slice 3 0 ln 1 none) R [s0, s1, s2, s3, s4] (.tup [.tup []]) count u v v1).h0 .c5) (loopRK a b (.slice 3 0 ln 1 none) R [s0, s1, s2, s3, s4] (.tup [.tup []]) count u v v1).end_ = treeRK6_5 a b R ln s0 s1 s2 s3 s4 count u v v1 := by kernel_rfl
def treeRK6L (a : Gw.Offer) (b : Gw.Offer) (R : List V) (ln : Nat) (s0 : Str) (s1 : Str) (s2 : Str) (s3 : Str) (s4 : Str) (count : Int) (u : Int) (v : Int) (v1 : Int) (i : IRK) : DT (Ex × Snap) := match i with
  | .c0 => treeRK6_0 a b R ln s0 s1 s2 s3 s4 count u v v1
  | .c1 => treeRK6_1 a b R ln s0 s1 s2 s3 s4 count u v v1
  | .c2 => treeRK6_2 a b R ln s0 s1 s2 s3 s4 count u v v1
  | .c3 => treeRK6_3 a b R ln s0 s1 s2 s3 s4 count u v v1
  | .c4 => treeRK6_4 a b R ln s0 s1 s2 s3 s4 count u v v1
  | .c5 => treeRK6_5 a b R ln s0 s1 s2 s3 s4 count u v v1
theorem roundRK6 (a : Gw.Offer) (b : Gw.Offer) (R : List V) (ln : Nat) (s0 : Str) (s1 : Str) (s2 : Str) (s3 : Str) (s4 : Str) (count : Int) (u : Int) (v : Int) (v1 : Int) (hln : 6 ≤ ln) (hR : ∀ q, mskVs (fnO 15 q) R = R) (hc0 : cellAt R 0 = some (.str s0)) (hc1 : cellAt R 1 = some (.str s1)) (hc2 : cellAt R 2 = some (.str s2)) (hc3 : cellAt R 3 = some (.str s3)) (hc4 : cellAt R 4 = some (.str s4)) (i : IRK) (Pr : Ex × Snap → Prop) (h : ((loopRK a b (.slice 3 0 ln 1 none) R [s0, s1, s2, s3, s4] (.tup [.tup []]) count u v v1).out i).sat Pr) : (treeRK6L a b R ln s0 s1 s2 s3 s4 count u v v1 i).sat ((loopRK a b (.slice 3 0 ln 1 none) R [s0, s1, s2, s3, s4] (.tup [.tup []]) count u v v1).next muRK i Pr) := by
  match i with
  | .c0 =>
    have hi : invRK a b (.slice 3 0 ln 1 none) R [s0, s1, s2, s3, s4] (.tup [.tup []]) count u v v1 .c0 := h.1
    have hX := h.2
    exact sat_ob (by simp [binV, binI]; try omega) (
sat_ob (by refine ⟨rfl, by omega, by omega⟩) (
sat_ob hc0 (
sat_ob ⟨by split <;> omega, trivial⟩ (
sat_ob (by first | rfl | simp [V.beq, V.beqs, allOne, V.one, byteVs, binV, binI, eqV, eqCells]) (
sat_ob (by have := cut8_len s0; simp [binV, binI]; omega) (
sat_ob (gtr8 s0 (size8 a b)) (
sat_ob (by first | rfl | simp [V.beq, V.beqs, allOne, V.one, byteVs, binV, binI, eqV, eqCells]) (
sat_leaf (⟨.c1, (by rw [hR]; kernel_rfl), (by show  5 < 6; decide), ⟨(show 1 ≤ _ by simp), hX⟩⟩)))))))))
  | .c1 =>
    have hi : invRK a b (.slice 3 0 ln 1 none) R [s0, s1, s2, s3, s4] (.tup [.tup []]) count u v v1 .c1 := h.1
    have hX := h.2
    exact sat_ob (by simp [binV, binI]; try omega) (
sat_ob (by refine ⟨rfl, by omega, by omega⟩) (
sat_ob hc1 (
sat_ob ⟨by split <;> omega, trivial⟩ (
sat_ob (by first | rfl | simp [V.beq, V.beqs, allOne, V.one, byteVs, binV, binI, eqV, eqCells]) (
sat_ob (by have := cut8_len s1; simp [binV, binI]; omega) (
sat_ob (gtr8 s1 (size8 a b)) (
sat_ob (by first | rfl | simp [V.beq, V.beqs, allOne, V.one, byteVs, binV, binI, eqV, eqCells]) (
sat_leaf (⟨.c2, (by rw [hR]; kernel_rfl), (by show  4 < 5; decide), ⟨(show 2 ≤ _ by simp), hX⟩⟩)))))))))
  | .c2 =>
    have hi : invRK a b (.slice 3 0 ln 1 none) R [s0, s1, s2, s3, s4] (.tup [.tup []]) count u v v1 .c2 := h.1
    have hX := h.2
    exact sat_ob (by simp [binV, binI]; try omega) (
sat_ob (by refine ⟨rfl, by omega, by omega⟩) (
sat_ob hc2 (
sat_ob ⟨by split <;> omega, trivial⟩ (
sat_ob (by first | rfl | simp [V.beq, V.beqs, allOne, V.one, byteVs, binV, binI, eqV, eqCells]) (
sat_ob (by have := cut8_len s2; simp [binV, binI]; omega) (
sat_ob (gtr8 s2 (size8 a b)) (
sat_ob (by first | rfl | simp [V.beq, V.beqs, allOne, V.one, byteVs, binV, binI, eqV, eqCells]) (
sat_leaf (⟨.c3, (by rw [hR]; kernel_rfl), (by show  3 < 4; decide), ⟨(show 3 ≤ _ by simp), hX⟩⟩)))))))))
  | .c3 =>
    have hi : invRK a b (.slice 3 0 ln 1 none) R [s0, s1, s2, s3, s4] (.tup [.tup []]) count u v v1 .c3 := h.1
    have hX := h.2
    exact sat_ob (by simp [binV, binI]; try omega) (
sat_ob (by refine ⟨rfl, by omega, by omega⟩) (
sat_ob hc3 (
sat_ob ⟨by split <;> omega, trivial⟩ (
sat_ob (by first | rfl | simp [V.beq, V.beqs, allOne, V.one, byteVs, binV, binI, eqV, eqCells]) (
sat_ob (by have := cut8_len s3; simp [binV, binI]; omega) (
sat_ob (gtr8 s3 (size8 a b)) (
sat_ob (by first | rfl | simp [V.beq, V.beqs, allOne, V.one, byteVs, binV, binI, eqV, eqCells]) (
sat_leaf (⟨.c4, (by rw [hR]; kernel_rfl), (by show  2 < 3; decide), ⟨(show 4 ≤ _ by simp), hX⟩⟩)))))))))
  | .c4 =>
    have hi : invRK a b (.slice 3 0 ln 1 none) R [s0, s1, s2, s3, s4] (.tup [.tup []]) count u v v1 .c4 := h.1
    have hX := h.2
    exact sat_ob (by simp [binV, binI]; try omega) (
sat_ob (by refine ⟨rfl, by omega, by omega⟩) (
sat_ob hc4 (
sat_ob ⟨by split <;> omega, trivial⟩ (
sat_ob (by first | rfl | simp [V.beq, V.beqs, allOne, V.one, byteVs, binV, binI, eqV, eqCells]) (
sat_ob (by have := cut8_len s4; simp [binV, binI]; omega) (
sat_ob (gtr8 s4 (size8 a b)) (
sat_ob (by first | rfl | simp [V.beq, V.beqs, allOne, V.one, byteVs, binV, binI, eqV, eqCells]) (
sat_leaf (⟨.c5, (by rw [hR]; kernel_rfl), (by show  1 < 2; decide), ⟨(show 5 ≤ _ by simp), hX⟩⟩)))))))))
  | .c5 =>
    have hi : invRK a b (.slice 3 0 ln 1 none) R [s0, s1, s2, s3, s4] (.tup [.tup []]) count u v v1 .c5 := h.1
    have hX := h.2
    exact sat_ob (by simp [binV, binI]; try omega) (
sat_leaf (by rw [hR]; exact hX))
set_option maxRecDepth 1000000 in
theorem ltRK6_ok (a : Gw.Offer) (b : Gw.Offer) (R : List V) (ln : Nat) (s0 : Str) (s1 : Str) (s2 : Str) (s3 : Str) (s4 : Str) (count : Int) (u : Int) (v : Int) (v1 : Int) (hln : 6 ≤ ln) (hR : ∀ q, mskVs (fnO 15 q) R = R) (hc0 : cellAt R 0 = some (.str s0)) (hc1 : cellAt R 1 = some (.str s1)) (hc2 : cellAt R 2 = some (.str s2)) (hc3 : cellAt R 3 = some (.str s3)) (hc4 : cellAt R 4 = some (.str s4)) (hint : Nat → List Nat) : Lt1 Tryz.prog hint 4 (loopRK a b (.slice 3 0 ln 1 none) R [s0, s1, s2, s3, s4] (.tup [.tup []]) count u v v1).lt lpRK :=
  LoopD.lt1c mixed (show TabX Tryz.prog noPX oxM from tabM) tabD (loopRK a b (.slice 3 0 ln 1 none) R [s0, s1, s2, s3, s4] (.tup [.tup []]) count u v v1) muRK (fun ex => match ex with | .normal => ⟨show 3 ≤ 15 by decide, show 4 ≤ 15 by decide⟩ | .exit _ => ⟨show 3 ≤ 15 by decide, show 4 ≤ 15 by decide⟩ | .ret => ⟨show 3 ≤ 15 by decide, show 4 ≤ 15 by decide⟩) (orcs := orcsRK6 a b R ln s0 s1 s2 s3 s4 count u v v1) (sts := stsRK6) (orc := orcRK6 a b R ln s0 s1 s2 s3 s4 count u v v1) (st := stRK6) (tree := treeRK6L a b R ln s0 s1 s2 s3 s4 count u v v1)
    (fun i => match i with
    | .c0 => treeRK6_0_eq a b R ln s0 s1 s2 s3 s4 count u v v1
    | .c1 => treeRK6_1_eq a b R ln s0 s1 s2 s3 s4 count u v v1
    | .c2 => treeRK6_2_eq a b R ln s0 s1 s2 s3 s4 count u v v1
    | .c3 => treeRK6_3_eq a b R ln s0 s1 s2 s3 s4 count u v v1
    | .c4 => treeRK6_4_eq a b R ln s0 s1 s2 s3 s4 count u v v1
    | .c5 => treeRK6_5_eq a b R ln s0 s1 s2 s3 s4 count u v v1) (roundRK6 a b R ln s0 s1 s2 s3 s4 count u v v1 hln hR hc0 hc1 hc2 hc3 hc4)
def orcRK7 (a : Gw.Offer) (b : Gw.Offer) (count : Int) (u : Int) (v : Int) (v1 : Int) (i : IRK) : Orc := match i with
  | .c0 => noOrc
  | .c1 => noOrc
  | .c2 => noOrc
  | .c3 => noOrc
  | .c4 => noOrc
  | .c5 => noOrc
def orcsRK7 (a : Gw.Offer) (b : Gw.Offer) (count : Int) (u : Int) (v : Int) (v1 : Int) (i : IRK) : Nat → Orc := match i with
  | .c0 => (fun _ => noOrc)
  | .c1 => (fun _ => noOrc)
  | .c2 => (fun _ => noOrc)
  | .c3 => (fun _ => noOrc)
  | .c4 => (fun _ => noOrc)
  | .c5 => (fun _ => noOrc)
def stsRK7 (i : IRK) : Nat → List Nat := match i with
  | .c0 => (fun k => match k with | 8 => [39] | _ => [])
  | .c1 => (fun k => match k with | 8 => [39] | _ => [])
  | .c2 => (fun k => match k with | 8 => [39] | _ => [])
  | .c3 => (fun k => match k with | 8 => [39] | _ => [])
  | .c4 => (fun k => match k with | 8 => [39] | _ => [])
  | .c5 => (fun k => match k with | 8 => [39] | _ => [])
def stRK7 (i : IRK) : List Nat := match i with
  | .c0 => [39]
  | .c1 => [39]
  | .c2 => [39]
  | .c3 => [39]
  | .c4 => [39]
  | .c5 => [39]
def treeRK7_0 (a : Gw.Offer) (b : Gw.Offer) (count : Int) (u : Int) (v : Int) (v1 : Int) : DT (Ex × Snap) :=
  .leaf ((.exit 0), XNRK a b (.nils) [] [] (.nils) count u v v1 (.nils))
set_option maxRecDepth 1000000 in
theorem treeRK7_0_eq (a : Gw.Offer) (b : Gw.Offer) (count : Int) (u : Int) (v : Int) (v1 : Int) : rnd (orcsRK7 a b count u v v1 .c0) (stsRK7 .c0) (orcRK7 a b count u v v1 .c0) (stRK7 .c0) noLt 0 lpRK ((loopRK a b (.nils) [] [] (.nils) count u v v1).t0 .c0) [] ((loopRK a b (.nils) [] [] (.nils) count u v v1).h0 .c0) (loopRK a b (.nils) [] [] (.nils) count u v v1).end_ = treeRK7_0 a b count u v v1 := by kernel_rfl
def treeRK7_1 (a : Gw.Offer) (b : Gw.Offer) (count : Int) (u : Int) (v : Int) (v1 : Int) : DT (Ex × Snap) :=
  .leaf ((.exit 0), XNRK a b (.nils) [] [] (.nils) count u v v1 (.tup [.tup []]))
set_option maxRecDepth 1000000 in
theorem treeRK7_1_eq (a : Gw.Offer) (b : Gw.Offer) (count : Int) (u : Int) (v : Int) (v1 : Int) : rnd (orcsRK7 a b count u v v1 .c1) (stsRK7 .c1) (orcRK7 a b count u v v1 .c1) (stRK7 .c1) noLt 0 lpRK ((loopRK a b (.nils) [] [] (.nils) count u v v1).t0 .c1) [] ((loopRK a b (.nils) [] [] (.nils) count u v v1).h0 .c1) (loopRK a b (.nils) [] [] (.nils) count u v v1).end_ = treeRK7_1 a b count u v v1 := by kernel_rfl
def treeRK7_2 (a : Gw.Offer) (b : Gw.Offer) (count : Int) (u : Int) (v : Int) (v1 : Int) : DT (Ex × Snap) :=
  .leaf ((.exit 0), XNRK a b (.nils) [] [] (.nils) count u v v1 (.tup [.tup []]))
set_option maxRecDepth 1000000 in
theorem treeRK7_2_eq (a : Gw.Offer) (b : Gw.Offer) (count : Int) (u : Int) (v : Int) (v1 : Int) : rnd (orcsRK7 a b count u v v1 .c2) (stsRK7 .c2) (orcRK7 a b count u v v1 .c2) (stRK7 .c2) noLt 0 lpRK ((loopRK a b (.nils) [] [] (.nils) count u v v1).t0 .c2) [] ((loopRK a b (.nils) [] [] (.nils) count u v v1).h0 .c2) (loopRK a b (.nils) [] [] (.nils) count u v v1).end_ = treeRK7_2 a b count u v v1 := by kernel_rfl
def treeRK7_3 (a : Gw.Offer) (b : Gw.Offer) (count : Int) (u : Int) (v : Int) (v1 : Int) : DT (Ex × Snap) :=
  .leaf ((.exit 0), XNRK a b (.nils) [] [] (.nils) count u v v1 (.tup [.tup []]))
set_option maxRecDepth 1000000 in
theorem treeRK7_3_eq (a : Gw.Offer) (b : Gw.Offer) (count : Int) (u : Int) (v : Int) (v1 : Int) : rnd (orcsRK7 a b count u v v1 .c3) (stsRK7 .c3) (orcRK7 a b count u v v1 .c3) (stRK7 .c3) noLt 0 lpRK ((loopRK a b (.nils) [] [] (.nils) count u v v1).t0 .c3) [] ((loopRK a b (.nils) [] [] (.nils) count u v v1).h0 .c3) (loopRK a b (.nils) [] [] (.nils) count u v v1).end_ = treeRK7_3 a b count u v v1 := by kernel_rfl
def treeRK7_4 (a : Gw.Offer) (b : Gw.Offer) (count : Int) (u : Int) (v : Int) (v1 : Int) : DT (Ex × Snap) :=
  .leaf ((.exit 0), XNRK a b (.nils) [] [] (.nils) count u v v1 (.tup [.tup []]))
set_option maxRecDepth 1000000 in
theorem treeRK7_4_eq (a : Gw.Offer) (b : Gw.Offer) (count : Int) (u : Int) (v : Int) (v1 : Int) : rnd (orcsRK7 a b count u v v1 .c4) (stsRK7 .c4) (orcRK7 a b count u v v1 .c4) (stRK7 .c4) noLt 0 lpRK ((loopRK a b (.nils) [] [] (.nils) count u v v1).t0 .c4) [] ((loopRK a b (.nils) [] [] (.nils) count u v v1).h0 .c4) (loopRK a b (.nils) [] [] (.nils) count u v v1).end_ = treeRK7_4 a b count u v v1 := by kernel_rfl
def treeRK7_5 (a : Gw.Offer) (b : Gw.Offer) (count : Int) (u : Int) (v : Int) (v1 : Int) : DT (Ex × Snap) :=
  .leaf ((.exit 0), XNRK a b (.nils) [] [] (.nils) count u v v1 (.tup [.tup []]))
set_option maxRecDepth 1000000 in
theorem treeRK7_5_eq (a : Gw.Offer) (b : Gw.Offer) (count : Int) (u : Int) (v : Int) (v1 : Int) : rnd (orcsRK7 a b count u v v1 .c5) (stsRK7 .c5) (orcRK7 a b count u v v1 .c5) (stRK7 .c5) noLt 0 lpRK ((loopRK a b (.nils) [] [] (.nils) count u v v1).t0 .c5) [] ((loopRK a b (.nils) [] [] (.nils) count u v v1).h0 .c5) (loopRK a b (.nils) [] [] (.nils) count u v v1).end_ = treeRK7_5 a b count u v v1 := by kernel_rfl
def treeRK7L (a : Gw.Offer) (b : Gw.Offer) (count : Int) (u : Int) (v : Int) (v1 : Int) (i : IRK) : DT (Ex × Snap) := match i with
  | .c0 => treeRK7_0 a b count u v v1
  | .c1 => treeRK7_1 a b count u v v1
  | .c2 => treeRK7_2 a b count u v v1
  | .c3 => treeRK7_3 a b count u v v1
  | .c4 => treeRK7_4 a b count u v v1
  | .c5 => treeRK7_5 a b count u v v1
theorem roundRK7 (a : Gw.Offer) (b : Gw.Offer) (count : Int) (u : Int) (v : Int) (v1 : Int) (i : IRK) (Pr : Ex × Snap → Prop) (h : ((loopRK a b (.nils) [] [] (.nils) count u v v1).out i).sat Pr) : (treeRK7L a b count u v v1 i).sat ((loopRK a b (.nils) [] [] (.nils) count u v v1).next muRK i Pr) := by
  match i with
  | .c0 =>
    have hi : invRK a b (.nils) [] [] (.nils) count u v v1 .c0 := h.1
    have hX := h.2
    exact sat_leaf (hX)
  | .c1 =>
    have hi : invRK a b (.nils) [] [] (.nils) count u v v1 .c1 := h.1
    have hX := h.2
    exact sat_leaf (absurd hi (by simp [invRK]))
  | .c2 =>
    have hi : invRK a b (.nils) [] [] (.nils) count u v v1 .c2 := h.1
    have hX := h.2
    exact sat_leaf (absurd hi (by simp [invRK]))
  | .c3 =>
    have hi : invRK a b (.nils) [] [] (.nils) count u v v1 .c3 := h.1
    have hX := h.2
    exact sat_leaf (absurd hi (by simp [invRK]))
  | .c4 =>
    have hi : invRK a b (.nils) [] [] (.nils) count u v v1 .c4 := h.1
    have hX := h.2
    exact sat_leaf (absurd hi (by simp [invRK]))
  | .c5 =>
    have hi : invRK a b (.nils) [] [] (.nils) count u v v1 .c5 := h.1
    have hX := h.2
    exact sat_leaf (absurd hi (by simp [invRK]))
set_option maxRecDepth 1000000 in
theorem ltRK7_ok (a : Gw.Offer) (b : Gw.Offer) (count : Int) (u : Int) (v : Int) (v1 : Int) (hint : Nat → List Nat) : Lt1 Tryz.prog hint 4 (loopRK a b (.nils) [] [] (.nils) count u v v1).lt lpRK :=
  LoopD.lt1c mixed (show TabX Tryz.prog noPX oxM from tabM) tabD (loopRK a b (.nils) [] [] (.nils) count u v v1) muRK (fun ex => match ex with | .normal => ⟨show 3 ≤ 15 by decide, show 4 ≤ 15 by decide⟩ | .exit _ => ⟨show 3 ≤ 15 by decide, show 4 ≤ 15 by decide⟩ | .ret => ⟨show 3 ≤ 15 by decide, show 4 ≤ 15 by decide⟩) (orcs := orcsRK7 a b count u v v1) (sts := stsRK7) (orc := orcRK7 a b count u v v1) (st := stRK7) (tree := treeRK7L a b count u v v1)
    (fun i => match i with
    | .c0 => treeRK7_0_eq a b count u v v1
    | .c1 => treeRK7_1_eq a b count u v v1
    | .c2 => treeRK7_2_eq a b count u v v1
    | .c3 => treeRK7_3_eq a b count u v v1
    | .c4 => treeRK7_4_eq a b count u v v1
    | .c5 => treeRK7_5_eq a b count u v v1) (roundRK7 a b count u v v1)
def ltK (a : Gw.Offer) (b : Gw.Offer) (bv : V) (R : List V) (ss : List Str) (qv : V) (count : Int) (u : Int) (v : Int) (v1 : Int) : Lt := fun k => match k with | 0 => (loopRK a b bv R ss qv count u v v1).lt | _ => fun _ _ => .fail
theorem loopsRK : loopsIn 0 (dOf 8).body = [(0, lpRK)] := by kernel_rfl
end Go.Proofs.YtjcninlcdnkofaaGreatDoor
