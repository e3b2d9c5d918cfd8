/- BoxOrder: its walk. -/
import Derived.Test.YtjnhaaolbcmdbaaGreatDoorGxK3
import Derived.Test.YtjnhaaolbcmdbaaGreatDoorGxT9
namespace Go.Proofs.YtjnhaaolbcmdbaaGreatDoor
open Go Gw Go.RowKit
set_option linter.unusedSimpArgs false
set_option linter.unusedVariables false
def px2 : PTab := px1
def ox2 : OTab := consO 18 (gTrue kT0 kT1 kT2) (consO 29 (gN pNewB) (consO 32 (gO pPut) (consO 33 (gO pFirst) (consO 34 (gO pTake) (consO 35 (gO pLen) noOX)))))
theorem tab2 : TabX Tryz.prog px2 ox2 := ⟨tab1.p, (((((((TabX.nil.addO ansLen).addO ansTake).addO ansFirst).addO ansPut).addO ansNewB).addO ⟨fr_gTrue _ _ _, begun_ok⟩)).o⟩
noncomputable def lpOf (f i : Nat) : DC := (((loopsIn 0 (dOf f).body)[i]?).getD (0, .skip)).2
def askOf (s : Str) : Gw.Ask := { kind := 3, body := s.take 64 }
def boxAt (bodies : List Str) (i : Nat) : Gw.Box := ⟨if i = 0 then none else some ((bodies.map askOf).take (min i 8))⟩
def box2 (bodies : List Str) (i : Nat) : Gw.Box := ⟨if bodies.length = 0 then none else some (((bodies.map askOf).take 8).drop i)⟩
def rowsB (bodies : List Str) (b : Gw.Box) : List (Option Blk) := [some (.cells true (zsV .u8 kT0)), some (.cells true (zsV .u8 kT1)), some (.cells true (zsV .u8 kT2)), some (.cells true (bodies.map V.str)), some (.obj (.box b))]
def loop0 (bodies : List Str) : LoopD Nat where
  nt := 81
  fr := fun _ => ⟨[0, 4, 5, 6], 5, []⟩
  S := fun i => ([.slice 3 0 bodies.length 1 none, .ptr 4 0, .int .i64 ((min i 8 : Nat) : Int), .int .i64 (i : Int)], rowsB bodies (boxAt bodies i))
  out := fun i => .ob (i ≤ min bodies.length 12) (.leaf (.exit 0, ([.slice 3 0 bodies.length 1 none, .ptr 4 0, .int .i64 ((min (min bodies.length 12) 8 : Nat) : Int), .int .i64 ((min bodies.length 12 : Nat) : Int)], rowsB bodies (boxAt bodies (min bodies.length 12)))))
  pick := fun _ => 0
def loop2 (bodies : List Str) : LoopD Nat where
  nt := 81
  fr := fun _ => ⟨[0, 4, 5, 7], 5, []⟩
  S := fun i => ([.slice 3 0 bodies.length 1 none, .ptr 4 0, .int .i64 ((min bodies.length 8 : Nat) : Int), .int .i64 (i : Int)], rowsB bodies (box2 bodies i))
  out := fun i => .ob (i ≤ min bodies.length 8) (.leaf (.exit 2, ([.slice 3 0 bodies.length 1 none, .ptr 4 0, .int .i64 ((min bodies.length 8 : Nat) : Int), .int .i64 ((min bodies.length 8 : Nat) : Int)], rowsB bodies (box2 bodies (min bodies.length 8)))))
  pick := fun _ => 0
def ltBO (bodies : List Str) : Lt := fun k => match k with | 0 => (loop0 bodies).lt | _ => (loop2 bodies).lt
def treeLoop0 (bodies : List Str) (i : Nat) : DT (Ex × Snap) :=
  .ob (((decide ((((i : Nat) : Int) : Int) < ((bodies.length : Nat) : Int))) == true) = true → ((True) ∧ ((True) ∧ (True)))) (
  .node (cond ((decide ((((i : Nat) : Int) : Int) < ((bodies.length : Nat) : Int))) == true) (decide ((((i : Nat) : Int) : Int) < 12)) false) (
    .ob (1 = 1 ∧ 0 ≤ (((i : Nat) : Int) : Int) ∧ (((i : Nat) : Int) : Int) < ((bodies.length : Nat) : Int)) (
    .ob ((cellAt (bodies.map V.str) (0 + (((i : Nat) : Int) : Int).toNat * 1)) = some (.str (bodies.getD (((i : Nat) : Int) : Int).toNat []))) (
    .ob ((0 ≤ ((if (64 : Int) < (((bodies.getD (((i : Nat) : Int) : Int).toNat []) : Str).length : Int) then 64 else (((bodies.getD (((i : Nat) : Int) : Int).toNat []) : Str).length : Int)) : Int) ∧ ((if (64 : Int) < (((bodies.getD (((i : Nat) : Int) : Int).toNat []) : Str).length : Int) then 64 else (((bodies.getD (((i : Nat) : Int) : Int).toNat []) : Str).length : Int)) : Int) ≤ ((((bodies.getD (((i : Nat) : Int) : Int).toNat []) : Str).length : Nat) : Int)) ∧ (True)) (
    .node (((boxPut (boxAt bodies i) ⟨3, 0, 0, (extractL (bodies.getD (((i : Nat) : Int) : Int).toNat []) 0 (((if (64 : Int) < (((bodies.getD (((i : Nat) : Int) : Int).toNat []) : Str).length : Int) then 64 else (((bodies.getD (((i : Nat) : Int) : Int).toNat []) : Str).length : Int)) : Int).toNat))⟩).1 : Int) == 0) (
      .leaf (.normal, ([.slice 3 0 bodies.length 1 none, .ptr 4 0, .int .i64 (wrapK .i64 (((min i 8 : Nat) : Int) + 1)), .int .i64 (wrapK .i64 (((i : Nat) : Int) + 1))], [some (.cells true (zsV .u8 kT0)), some (.cells true (zsV .u8 kT1)), some (.cells true (zsV .u8 kT2)), some (.cells true (mskVs (fnO 5 []) (bodies.map V.str))), some (.obj (.box (boxPut (boxAt bodies i) ⟨3, 0, 0, (extractL (bodies.getD (((i : Nat) : Int) : Int).toNat []) 0 (((if (64 : Int) < (((bodies.getD (((i : Nat) : Int) : Int).toNat []) : Str).length : Int) then 64 else (((bodies.getD (((i : Nat) : Int) : Int).toNat []) : Str).length : Int)) : Int).toNat))⟩).2))]))) (
      .leaf (.normal, ([.slice 3 0 bodies.length 1 none, .ptr 4 0, .int .i64 ((min i 8 : Nat) : Int), .int .i64 (wrapK .i64 (((i : Nat) : Int) + 1))], [some (.cells true (zsV .u8 kT0)), some (.cells true (zsV .u8 kT1)), some (.cells true (zsV .u8 kT2)), some (.cells true (mskVs (fnO 5 []) (bodies.map V.str))), some (.obj (.box (boxPut (boxAt bodies i) ⟨3, 0, 0, (extractL (bodies.getD (((i : Nat) : Int) : Int).toNat []) 0 (((if (64 : Int) < (((bodies.getD (((i : Nat) : Int) : Int).toNat []) : Str).length : Int) then 64 else (((bodies.getD (((i : Nat) : Int) : Int).toNat []) : Str).length : Int)) : Int).toNat))⟩).2))]))))))) (
    .leaf ((.exit 0), ([.slice 3 0 bodies.length 1 none, .ptr 4 0, .int .i64 ((min i 8 : Nat) : Int), .int .i64 ((i : Nat) : Int)], [some (.cells true (zsV .u8 kT0)), some (.cells true (zsV .u8 kT1)), some (.cells true (zsV .u8 kT2)), some (.cells true (mskVs (fnO 5 []) (bodies.map V.str))), some (.obj (.box (boxAt bodies i)))]))))
set_option maxRecDepth 1000000 in
theorem treeLoop0_eq (bodies : List Str) (i : Nat) : codeT (callT (mkXT px2 ox2) (mkXP px2) (mkX px2 ox2) D (fun _ => noOrc) (fun _ => []) 6) (callN (mkX px2 ox2) D 6) (mkXP px2) (fun k => match k with | 30 => some fun _ h => (.str (bodies.getD (((i : Nat) : Int) : Int).toNat []), h) | _ => none) [] noLt 0 (lpOf 11 0) ((loop0 bodies).t0 i) [] ((loop0 bodies).h0 i) (loop0 bodies).end_ = treeLoop0 bodies i := by kernel_rfl
def treeLoop2 (bodies : List Str) (i : Nat) : DT (Ex × Snap) :=
  .node (decide ((((i : Nat) : Int) : Int) < (((min bodies.length 8) : Nat) : Int))) (
    .ob (((!(boxFirst (box2 bodies i)).2) == false) = true → ((True) ∧ ((True) ∧ (True)))) (
    .ob (((cond ((!(boxFirst (box2 bodies i)).2) == false) (!(boxFirst (box2 bodies i)).2) true) == false) = true → ((True) ∧ ((True) ∧ ((True) ∧ (True))))) (
    .node ((cond ((cond ((!(boxFirst (box2 bodies i)).2) == false) (!(boxFirst (box2 bodies i)).2) true) == false) (!((((boxFirst (box2 bodies i)).1.kind : Int) == (boxFirst (box2 bodies i)).1.kind) && ((((boxFirst (box2 bodies i)).1.n : Int) == (boxFirst (box2 bodies i)).1.n) && ((((boxFirst (box2 bodies i)).1.id : Int) == (boxFirst (box2 bodies i)).1.id) && ((((boxFirst (box2 bodies i)).1.body : Str) == (boxFirst (box2 bodies i)).1.body) && true))))) true) == false) (
      .ob (1 = 1 ∧ 0 ≤ (((i : Nat) : Int) : Int) ∧ (((i : Nat) : Int) : Int) < ((bodies.length : Nat) : Int)) (
      .ob ((cellAt (bodies.map V.str) (0 + (((i : Nat) : Int) : Int).toNat * 1)) = some (.str (bodies.getD (((i : Nat) : Int) : Int).toNat []))) (
      .ob ((0 ≤ ((if (64 : Int) < (((bodies.getD (((i : Nat) : Int) : Int).toNat []) : Str).length : Int) then 64 else (((bodies.getD (((i : Nat) : Int) : Int).toNat []) : Str).length : Int)) : Int) ∧ ((if (64 : Int) < (((bodies.getD (((i : Nat) : Int) : Int).toNat []) : Str).length : Int) then 64 else (((bodies.getD (((i : Nat) : Int) : Int).toNat []) : Str).length : Int)) : Int) ≤ ((((bodies.getD (((i : Nat) : Int) : Int).toNat []) : Str).length : Nat) : Int)) ∧ (True)) (
      .ob (((V.beq (.str (boxFirst (box2 bodies i)).1.body) (.str (boxFirst (box2 bodies i)).1.body)) && true) = true) (
      .node (!(((boxFirst (box2 bodies i)).1.body : Str) == (extractL (bodies.getD (((i : Nat) : Int) : Int).toNat []) 0 (((if (64 : Int) < (((bodies.getD (((i : Nat) : Int) : Int).toNat []) : Str).length : Int) then 64 else (((bodies.getD (((i : Nat) : Int) : Int).toNat []) : Str).length : Int)) : Int).toNat)))) (
        .leaf (.ret, ([.slice 3 0 bodies.length 1 none, .ptr 4 0, .int .i64 (((min bodies.length 8) : Nat) : Int), .int .i64 ((i : Nat) : Int)], [some (.cells true (zsV .u8 kT0)), some (.cells true (zsV .u8 kT1)), some (.cells true (zsV .u8 kT2)), some (.cells true (mskVs (fnO 5 []) (bodies.map V.str))), some (.obj (.box (boxTake (box2 bodies i))))]))) (
        .leaf (.normal, ([.slice 3 0 bodies.length 1 none, .ptr 4 0, .int .i64 (((min bodies.length 8) : Nat) : Int), .int .i64 (wrapK .i64 (((i : Nat) : Int) + 1))], [some (.cells true (zsV .u8 kT0)), some (.cells true (zsV .u8 kT1)), some (.cells true (zsV .u8 kT2)), some (.cells true (mskVs (fnO 5 []) (bodies.map V.str))), some (.obj (.box (boxTake (box2 bodies i))))])))))))) (
      .leaf (.ret, ([.slice 3 0 bodies.length 1 none, .ptr 4 0, .int .i64 (((min bodies.length 8) : Nat) : Int), .int .i64 ((i : Nat) : Int)], [some (.cells true (zsV .u8 kT0)), some (.cells true (zsV .u8 kT1)), some (.cells true (zsV .u8 kT2)), some (.cells true (mskVs (fnO 5 []) (bodies.map V.str))), some (.obj (.box (boxTake (box2 bodies i))))])))))) (
    .leaf ((.exit 2), ([.slice 3 0 bodies.length 1 none, .ptr 4 0, .int .i64 (((min bodies.length 8) : Nat) : Int), .int .i64 ((i : Nat) : Int)], [some (.cells true (zsV .u8 kT0)), some (.cells true (zsV .u8 kT1)), some (.cells true (zsV .u8 kT2)), some (.cells true (mskVs (fnO 5 []) (bodies.map V.str))), some (.obj (.box (box2 bodies i)))])))
set_option maxRecDepth 1000000 in
theorem treeLoop2_eq (bodies : List Str) (i : Nat) : codeT (callT (mkXT px2 ox2) (mkXP px2) (mkX px2 ox2) D (fun _ => noOrc) (fun _ => []) 6) (callN (mkX px2 ox2) D 6) (mkXP px2) (fun k => match k with | 74 => some fun _ h => (.str (bodies.getD (((i : Nat) : Int) : Int).toNat []), h) | _ => none) [] noLt 2 (lpOf 11 1) ((loop2 bodies).t0 i) [] ((loop2 bodies).h0 i) (loop2 bodies).end_ = treeLoop2 bodies i := by kernel_rfl
noncomputable def hBO (bodies : List Str) : Heap := (tabH kT0 kT1 kT2 4).put 3 (some (.cells true (bodies.map V.str)))
def treeBO (bodies : List Str) : DT V :=
  .ob ((([.slice 3 0 bodies.length 1 none, .ptr 4 0, .int .i64 0, .int .i64 0], [some (.cells true (zsV .u8 kT0)), some (.cells true (zsV .u8 kT1)), some (.cells true (zsV .u8 kT2)), some (.cells true (mskVs (fnO 5 []) (bodies.map V.str))), some (.obj (.box ⟨none⟩))]) : Snap) = (loop0 bodies).S 0) (
  .ob ((0 : Nat) ≤ min bodies.length 12) (
  .node ((((min (min bodies.length 12) 8 : Nat) : Int) : Int) != (if (8 : Int) < ((bodies.length : Nat) : Int) then 8 else ((bodies.length : Nat) : Int))) (
    .leaf (.bool false)) (
    .ob ((([.slice 3 0 bodies.length 1 none, .ptr 4 0, .int .i64 ((min (min bodies.length 12) 8 : Nat) : Int), .int .i64 0], [some (.cells true (zsV .u8 kT0)), some (.cells true (zsV .u8 kT1)), some (.cells true (zsV .u8 kT2)), some (.cells true (mskVs (fnO 5 []) (bodies.map V.str))), some (.obj (.box (boxAt bodies (min bodies.length 12))))]) : Snap) = (loop2 bodies).S 0) (
    .ob ((0 : Nat) ≤ min bodies.length 8) (
    .leaf (.bool ((((Option.getD ((box2 bodies (min bodies.length 8)) : Gw.Box).l []).length : Int) : Int) == 0)))))))
set_option maxRecDepth 1000000 in
theorem treeBO_eq (bodies : List Str) : funT (mkXT px2 ox2) (mkXP px2) (mkX px2 ox2) D (fun _ => noOrc) (fun k => match k with | 11 => [12] | _ => []) 5 noOrc [12] (ltBO bodies) (dOf 11) [.slice 3 0 bodies.length 1 none] (hBO bodies) (fun v _ => v) = treeBO bodies := by kernel_rfl
end Go.Proofs.YtjnhaaolbcmdbaaGreatDoor
