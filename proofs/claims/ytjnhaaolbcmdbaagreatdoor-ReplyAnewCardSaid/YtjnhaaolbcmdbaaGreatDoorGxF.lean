/- Fresh numbers: xid.Fresh and the document's. -/
import Derived.Test.YtjnhaaolbcmdbaaGreatDoorGxK5
import Derived.Test.YtjnhaaolbcmdbaaGreatDoorGxT13
namespace Go.Proofs.YtjnhaaolbcmdbaaGreatDoor
open Go Gw Go.RowKit
set_option linter.unusedSimpArgs false
set_option linter.unusedVariables false
def okD (me d : Int) : Bool := d != 0 && d != 4294967295 && d != me
def hasD (me : Int) : List Int → Bool
  | [] => false
  | d :: l => okD me d || hasD me l
def freshL (me : Int) : List Int → Nat → Int × Nat
  | [], i => (if me = 1 then 2 else 1, i)
  | d :: l, i => if okD me d = true then (d, i + 1) else freshL me l (i + 1)
def loopA60 (draws : List Int) (me : Int) : LoopD Nat where
  nt := 36
  fr := fun ex => match ex with | .normal => ⟨[0, 1, 9, 10, 11], 5, []⟩ | .exit _ => ⟨[0, 1], 5, []⟩ | .ret => ⟨[4, 5], 5, []⟩
  S := fun i => ([.slice 3 0 draws.length 1 none, .slice 4 0 1 1 none, .slice 3 0 draws.length 1 none, .int .i64 ((draws.length : Nat) : Int), .int .i64 ((i : Nat) : Int)], [some .dead, some .dead, some .dead, some (.cells true (draws.map (V.int .u32))), some (.cells true [.int .u32 me])])
  out := fun i => .ob (i ≤ draws.length ∧ draws.length < 4611686018427387904) (.node (hasD me (draws.drop i)) (.leaf (.ret, ([.int .u32 (freshL me (draws.drop i) i).1, .int .i64 ((freshL me (draws.drop i) i).2 : Int)], [some .dead, some .dead, some .dead, some (.cells true (draws.map (V.int .u32))), some (.cells true [.int .u32 me])]))) (.leaf (.exit 0, ([.slice 3 0 draws.length 1 none, .slice 4 0 1 1 none], [some .dead, some .dead, some .dead, some (.cells true (draws.map (V.int .u32))), some (.cells true [.int .u32 me])]))))
  pick := fun _ => 0
def loopB60 (draws : List Int) (me : Int) : LoopD Int where
  nt := 36
  fr := fun ex => match ex with | .ret => ⟨[4, 5], 5, []⟩ | _ => ⟨[0, 1, 8], 5, []⟩
  S := fun d => ([.slice 3 0 draws.length 1 none, .slice 4 0 1 1 none, .int .u32 d], [some .dead, some .dead, some .dead, some (.cells true (draws.map (V.int .u32))), some (.cells true [.int .u32 me])])
  out := fun d => .ob (d = 1 ∨ (d = 2 ∧ me = 1)) (.leaf (.exit 2, ([.slice 3 0 draws.length 1 none, .slice 4 0 1 1 none, .int .u32 (if me = 1 then 2 else 1)], [some .dead, some .dead, some .dead, some (.cells true (draws.map (V.int .u32))), some (.cells true [.int .u32 me])])))
  pick := fun _ => 1
def orcA60 (draws : List Int) : Nat → Orc := fun i => (fun k => match k with | 15 => some fun _ h => (.int .u32 (draws.getD (((i : Nat) : Int) : Int).toNat 0), h) | _ => none)
def treeA60 (draws : List Int) (me : Int) (i : Nat) : DT (Ex × Snap) :=
  .node (decide ((((i : Nat) : Int) : Int) < ((draws.length : Nat) : Int))) (
    .ob (1 = 1 ∧ 0 ≤ (((i : Nat) : Int) : Int) ∧ (((i : Nat) : Int) : Int) < ((draws.length : Nat) : Int)) (
    .ob ((cellAt (draws.map (V.int .u32)) (0 + (((i : Nat) : Int) : Int).toNat * 1)) = some (.int .u32 (draws.getD (((i : Nat) : Int) : Int).toNat 0))) (
    .ob (((((draws.getD (((i : Nat) : Int) : Int).toNat 0) : Int) != 0) == true) = true → ((True) ∧ ((True) ∧ (True)))) (
    .node ((cond ((((draws.getD (((i : Nat) : Int) : Int).toNat 0) : Int) != 0) == true) (((draws.getD (((i : Nat) : Int) : Int).toNat 0) : Int) != 4294967295) false) == true) (
      .ob (1 = 1 ∧ 0 ≤ (0 : Int) ∧ (0 : Int) < ((1 : Nat) : Int)) (
      .node (((draws.getD (((i : Nat) : Int) : Int).toNat 0) : Int) == me) (
        .leaf (.normal, ([.slice 3 0 draws.length 1 none, .slice 4 0 1 1 none, .slice 3 0 draws.length 1 none, .int .i64 ((draws.length : Nat) : Int), .int .i64 (wrapK .i64 (((i : Nat) : Int) + 1))], [some .dead, some .dead, some .dead, some (.cells true (mskVs (fnO 5 []) (draws.map (V.int .u32)))), some (.cells true [.int .u32 me])]))) (
        .leaf (.ret, ([.int .u32 (draws.getD (((i : Nat) : Int) : Int).toNat 0), .int .i64 (wrapK .i64 (((i : Nat) : Int) + 1))], [some .dead, some .dead, some .dead, some (.cells true (mskVs (fnO 5 []) (draws.map (V.int .u32)))), some (.cells true [.int .u32 me])]))))) (
      .leaf (.normal, ([.slice 3 0 draws.length 1 none, .slice 4 0 1 1 none, .slice 3 0 draws.length 1 none, .int .i64 ((draws.length : Nat) : Int), .int .i64 (wrapK .i64 (((i : Nat) : Int) + 1))], [some .dead, some .dead, some .dead, some (.cells true (mskVs (fnO 5 []) (draws.map (V.int .u32)))), some (.cells true [.int .u32 me])]))))))) (
    .leaf ((.exit 0), ([.slice 3 0 draws.length 1 none, .slice 4 0 1 1 none], [some .dead, some .dead, some .dead, some (.cells true (mskVs (fnO 5 []) (draws.map (V.int .u32)))), some (.cells true [.int .u32 me])])))
set_option maxRecDepth 1000000 in
theorem treeA60_eq (draws : List Int) (me : Int) (i : Nat) : codeT (callT (mkXT noPX noOX) (mkXP noPX) (mkX noPX noOX) D (fun _ => noOrc) (fun k => match k with | 60 => [21] | 74 => [8] | 90 => [9] | _ => []) 12) (callN (mkX noPX noOX) D 12) (mkXP noPX) (orcA60 draws i) [21] noLt 0 (lpOf 60 0) ((loopA60 draws me).t0 i) [] ((loopA60 draws me).h0 i) (loopA60 draws me).end_ = treeA60 draws me i := by kernel_rfl
def treeB60 (draws : List Int) (me : Int) (d : Int) : DT (Ex × Snap) :=
  .ob (1 = 1 ∧ 0 ≤ (0 : Int) ∧ (0 : Int) < ((1 : Nat) : Int)) (
  .node ((d : Int) == me) (
    .leaf (.normal, ([.slice 3 0 draws.length 1 none, .slice 4 0 1 1 none, .int .u32 (wrapK .u32 (d + 1))], [some .dead, some .dead, some .dead, some (.cells true (mskVs (fnO 5 []) (draws.map (V.int .u32)))), some (.cells true [.int .u32 me])]))) (
    .leaf ((.exit 2), ([.slice 3 0 draws.length 1 none, .slice 4 0 1 1 none, .int .u32 d], [some .dead, some .dead, some .dead, some (.cells true (mskVs (fnO 5 []) (draws.map (V.int .u32)))), some (.cells true [.int .u32 me])]))))
set_option maxRecDepth 1000000 in
theorem treeB60_eq (draws : List Int) (me : Int) (d : Int) : codeT (callT (mkXT noPX noOX) (mkXP noPX) (mkX noPX noOX) D (fun _ => noOrc) (fun k => match k with | 60 => [30] | 74 => [8] | 90 => [9] | _ => []) 12) (callN (mkX noPX noOX) D 12) (mkXP noPX) noOrc [30] noLt 2 (lpOf 60 1) ((loopB60 draws me).t0 d) [] ((loopB60 draws me).h0 d) (loopB60 draws me).end_ = treeB60 draws me d := by kernel_rfl
def tree60 (draws : List Int) (me : Int) : DT V :=
  .ob ((([.slice 3 0 draws.length 1 none, .slice 4 0 1 1 none, .slice 3 0 draws.length 1 none, .int .i64 ((draws.length : Nat) : Int), .int .i64 0], [some .dead, some .dead, some .dead, some (.cells true (mskVs (fnO 5 []) (draws.map (V.int .u32)))), some (.cells true [.int .u32 me])]) : Snap) = (loopA60 draws me).S 0) (
  .ob (0 ≤ draws.length ∧ draws.length < 4611686018427387904) (
  .node (hasD me (draws.drop 0)) (
    .leaf (.tup [.int .u32 (freshL me (draws.drop 0) 0).1, .int .i64 ((freshL me (draws.drop 0) 0).2 : Int)])) (
    .ob ((([.slice 3 0 draws.length 1 none, .slice 4 0 1 1 none, .int .u32 1], [some .dead, some .dead, some .dead, some (.cells true (mskVs (fnO 5 []) (draws.map (V.int .u32)))), some (.cells true [.int .u32 me])]) : Snap) = (loopB60 draws me).S 1) (
    .ob ((1 : Int) = 1 ∨ ((1 : Int) = 2 ∧ me = 1)) (
    .leaf (.tup [.int .u32 (if me = 1 then 2 else 1), .int .i64 ((draws.length : Nat) : Int)]))))))
noncomputable def lt60 (draws : List Int) (me : Int) : Lt := fun k => match k with | 0 => (loopA60 draws me).lt | _ => (loopB60 draws me).lt
set_option maxRecDepth 1000000 in
theorem tree60_eq (draws : List Int) (me : Int) (i o j q : Nat) : funT (mkXT noPX noOX) (mkXP noPX) (mkX noPX noOX) D (fun _ => noOrc) (fun _ => []) 11 noOrc [] (lt60 draws me) (dOf 60) [.slice 3 0 draws.length 1 none, .slice 4 0 1 1 none] (smallH [.w i o (draws.map (V.int .u32)), .w j q [.int .u32 me]]) (fun v _ => v) = tree60 draws me := by kernel_rfl
def loopA46 (draws : List Int) (me : Int) : LoopD Nat where
  nt := 42
  fr := fun ex => match ex with | .normal => ⟨[0, 1, 6], 5, []⟩ | .exit _ => ⟨[0, 1], 5, []⟩ | .ret => ⟨[4, 5], 5, []⟩
  S := fun i => ([.slice 3 0 draws.length 1 none, .slice 4 0 1 1 none, .int .i64 ((i : Nat) : Int)], [some .dead, some .dead, some .dead, some (.cells true (draws.map (V.int .u32))), some (.cells true [.int .u32 me])])
  out := fun i => .ob (i ≤ draws.length ∧ draws.length < 4611686018427387904) (.node (hasD me (draws.drop i)) (.leaf (.ret, ([.int .u32 (freshL me (draws.drop i) i).1, .int .i64 ((freshL me (draws.drop i) i).2 : Int)], [some .dead, some .dead, some .dead, some (.cells true (draws.map (V.int .u32))), some (.cells true [.int .u32 me])]))) (.leaf (.exit 0, ([.slice 3 0 draws.length 1 none, .slice 4 0 1 1 none], [some .dead, some .dead, some .dead, some (.cells true (draws.map (V.int .u32))), some (.cells true [.int .u32 me])]))))
  pick := fun _ => 0
def loopB46 (draws : List Int) (me : Int) : LoopD Int where
  nt := 42
  fr := fun ex => match ex with | .ret => ⟨[4, 5], 5, []⟩ | _ => ⟨[0, 1, 7], 5, []⟩
  S := fun d => ([.slice 3 0 draws.length 1 none, .slice 4 0 1 1 none, .int .u32 d], [some .dead, some .dead, some .dead, some (.cells true (draws.map (V.int .u32))), some (.cells true [.int .u32 me])])
  out := fun d => .ob (d = 1 ∨ (d = 2 ∧ me = 1)) (.leaf (.exit 2, ([.slice 3 0 draws.length 1 none, .slice 4 0 1 1 none, .int .u32 (if me = 1 then 2 else 1)], [some .dead, some .dead, some .dead, some (.cells true (draws.map (V.int .u32))), some (.cells true [.int .u32 me])])))
  pick := fun _ => 1
def orcA46 (draws : List Int) : Nat → Orc := fun i => (fun k => match k with | 17 => some fun _ h => (.int .u32 (draws.getD (((i : Nat) : Int) : Int).toNat 0), h) | 24 => some fun _ h => (.int .u32 (draws.getD (((i : Nat) : Int) : Int).toNat 0), h) | 31 => some fun _ h => (.int .u32 (draws.getD (((i : Nat) : Int) : Int).toNat 0), h) | _ => none)
def treeA46 (draws : List Int) (me : Int) (i : Nat) : DT (Ex × Snap) :=
  .node (decide ((((i : Nat) : Int) : Int) < ((draws.length : Nat) : Int))) (
    .ob (1 = 1 ∧ 0 ≤ (((i : Nat) : Int) : Int) ∧ (((i : Nat) : Int) : Int) < ((draws.length : Nat) : Int)) (
    .ob ((cellAt (draws.map (V.int .u32)) (0 + (((i : Nat) : Int) : Int).toNat * 1)) = some (.int .u32 (draws.getD (((i : Nat) : Int) : Int).toNat 0))) (
    .ob (((((draws.getD (((i : Nat) : Int) : Int).toNat 0) : Int) != 0) == true) = true → ((True) ∧ ((True) ∧ (True)))) (
    .node ((cond ((((draws.getD (((i : Nat) : Int) : Int).toNat 0) : Int) != 0) == true) (((draws.getD (((i : Nat) : Int) : Int).toNat 0) : Int) != 4294967295) false) == true) (
      .ob (1 = 1 ∧ 0 ≤ (((i : Nat) : Int) : Int) ∧ (((i : Nat) : Int) : Int) < ((draws.length : Nat) : Int)) (
      .ob ((cellAt (draws.map (V.int .u32)) (0 + (((i : Nat) : Int) : Int).toNat * 1)) = some (.int .u32 (draws.getD (((i : Nat) : Int) : Int).toNat 0))) (
      .ob (1 = 1 ∧ 0 ≤ (0 : Int) ∧ (0 : Int) < ((1 : Nat) : Int)) (
      .node ((me : Int) == (draws.getD (((i : Nat) : Int) : Int).toNat 0)) (
        .leaf (.normal, ([.slice 3 0 draws.length 1 none, .slice 4 0 1 1 none, .int .i64 (wrapK .i64 (((i : Nat) : Int) + 1))], [some .dead, some .dead, some .dead, some (.cells true (mskVs (fnO 5 []) (draws.map (V.int .u32)))), some (.cells true [.int .u32 me])]))) (
        .ob (1 = 1 ∧ 0 ≤ (((i : Nat) : Int) : Int) ∧ (((i : Nat) : Int) : Int) < ((draws.length : Nat) : Int)) (
        .ob ((cellAt (draws.map (V.int .u32)) (0 + (((i : Nat) : Int) : Int).toNat * 1)) = some (.int .u32 (draws.getD (((i : Nat) : Int) : Int).toNat 0))) (
        .leaf (.ret, ([.int .u32 (draws.getD (((i : Nat) : Int) : Int).toNat 0), .int .i64 (wrapK .i64 (((i : Nat) : Int) + 1))], [some .dead, some .dead, some .dead, some (.cells true (mskVs (fnO 5 []) (draws.map (V.int .u32)))), some (.cells true [.int .u32 me])]))))))))) (
      .leaf (.normal, ([.slice 3 0 draws.length 1 none, .slice 4 0 1 1 none, .int .i64 (wrapK .i64 (((i : Nat) : Int) + 1))], [some .dead, some .dead, some .dead, some (.cells true (mskVs (fnO 5 []) (draws.map (V.int .u32)))), some (.cells true [.int .u32 me])]))))))) (
    .leaf ((.exit 0), ([.slice 3 0 draws.length 1 none, .slice 4 0 1 1 none], [some .dead, some .dead, some .dead, some (.cells true (mskVs (fnO 5 []) (draws.map (V.int .u32)))), some (.cells true [.int .u32 me])])))
set_option maxRecDepth 1000000 in
theorem treeA46_eq (draws : List Int) (me : Int) (i : Nat) : codeT (callT (mkXT noPX noOX) (mkXP noPX) (mkX noPX noOX) D (fun _ => noOrc) (fun k => match k with | 46 => [25] | 66 => [9] | _ => []) 12) (callN (mkX noPX noOX) D 12) (mkXP noPX) (orcA46 draws i) [25] noLt 0 (lpOf 46 0) ((loopA46 draws me).t0 i) [] ((loopA46 draws me).h0 i) (loopA46 draws me).end_ = treeA46 draws me i := by kernel_rfl
def treeB46 (draws : List Int) (me : Int) (d : Int) : DT (Ex × Snap) :=
  .ob (1 = 1 ∧ 0 ≤ (0 : Int) ∧ (0 : Int) < ((1 : Nat) : Int)) (
  .node ((me : Int) == d) (
    .leaf (.normal, ([.slice 3 0 draws.length 1 none, .slice 4 0 1 1 none, .int .u32 (wrapK .u32 (d + 1))], [some .dead, some .dead, some .dead, some (.cells true (mskVs (fnO 5 []) (draws.map (V.int .u32)))), some (.cells true [.int .u32 me])]))) (
    .leaf ((.exit 2), ([.slice 3 0 draws.length 1 none, .slice 4 0 1 1 none, .int .u32 d], [some .dead, some .dead, some .dead, some (.cells true (mskVs (fnO 5 []) (draws.map (V.int .u32)))), some (.cells true [.int .u32 me])]))))
set_option maxRecDepth 1000000 in
theorem treeB46_eq (draws : List Int) (me : Int) (d : Int) : codeT (callT (mkXT noPX noOX) (mkXP noPX) (mkX noPX noOX) D (fun _ => noOrc) (fun k => match k with | 46 => [36] | 66 => [9] | _ => []) 12) (callN (mkX noPX noOX) D 12) (mkXP noPX) noOrc [36] noLt 2 (lpOf 46 1) ((loopB46 draws me).t0 d) [] ((loopB46 draws me).h0 d) (loopB46 draws me).end_ = treeB46 draws me d := by kernel_rfl
def tree46 (draws : List Int) (me : Int) : DT V :=
  .ob ((([.slice 3 0 draws.length 1 none, .slice 4 0 1 1 none, .int .i64 0], [some .dead, some .dead, some .dead, some (.cells true (mskVs (fnO 5 []) (draws.map (V.int .u32)))), some (.cells true [.int .u32 me])]) : Snap) = (loopA46 draws me).S 0) (
  .ob (0 ≤ draws.length ∧ draws.length < 4611686018427387904) (
  .node (hasD me (draws.drop 0)) (
    .leaf (.tup [.int .u32 (freshL me (draws.drop 0) 0).1, .int .i64 ((freshL me (draws.drop 0) 0).2 : Int)])) (
    .ob ((([.slice 3 0 draws.length 1 none, .slice 4 0 1 1 none, .int .u32 1], [some .dead, some .dead, some .dead, some (.cells true (mskVs (fnO 5 []) (draws.map (V.int .u32)))), some (.cells true [.int .u32 me])]) : Snap) = (loopB46 draws me).S 1) (
    .ob ((1 : Int) = 1 ∨ ((1 : Int) = 2 ∧ me = 1)) (
    .leaf (.tup [.int .u32 (if me = 1 then 2 else 1), .int .i64 ((draws.length : Nat) : Int)]))))))
noncomputable def lt46 (draws : List Int) (me : Int) : Lt := fun k => match k with | 0 => (loopA46 draws me).lt | _ => (loopB46 draws me).lt
set_option maxRecDepth 1000000 in
theorem tree46_eq (draws : List Int) (me : Int) (i o j q : Nat) : funT (mkXT noPX noOX) (mkXP noPX) (mkX noPX noOX) D (fun _ => noOrc) (fun _ => []) 11 noOrc [] (lt46 draws me) (dOf 46) [.slice 3 0 draws.length 1 none, .slice 4 0 1 1 none] (smallH [.w i o (draws.map (V.int .u32)), .w j q [.int .u32 me]]) (fun v _ => v) = tree46 draws me := by kernel_rfl
def loopN60 (me : Int) : LoopD Int where
  nt := 36
  fr := fun ex => match ex with | .ret => ⟨[4, 5], 4, []⟩ | _ => ⟨[0, 1, 8], 4, []⟩
  S := fun d => ([.nils, .slice 3 0 1 1 none, .int .u32 d], [some .dead, some .dead, some .dead, some (.cells true [.int .u32 me])])
  out := fun d => .ob (d = 1 ∨ (d = 2 ∧ me = 1)) (.leaf (.exit 2, ([.nils, .slice 3 0 1 1 none, .int .u32 (if me = 1 then 2 else 1)], [some .dead, some .dead, some .dead, some (.cells true [.int .u32 me])])))
  pick := fun _ => 1
def treeN60 (me : Int) (d : Int) : DT (Ex × Snap) :=
  .ob (1 = 1 ∧ 0 ≤ (0 : Int) ∧ (0 : Int) < ((1 : Nat) : Int)) (
  .node ((d : Int) == me) (
    .leaf (.normal, ([.nils, .slice 3 0 1 1 none, .int .u32 (wrapK .u32 (d + 1))], [some .dead, some .dead, some .dead, some (.cells true [.int .u32 me])]))) (
    .leaf ((.exit 2), ([.nils, .slice 3 0 1 1 none, .int .u32 d], [some .dead, some .dead, some .dead, some (.cells true [.int .u32 me])]))))
set_option maxRecDepth 1000000 in
theorem treeN60_eq (me : Int) (d : Int) : codeT (callT (mkXT noPX noOX) (mkXP noPX) (mkX noPX noOX) D (fun _ => noOrc) (fun k => match k with | 60 => [30] | 74 => [8] | 90 => [9] | _ => []) 12) (callN (mkX noPX noOX) D 12) (mkXP noPX) noOrc [30] noLt 2 (lpOf 60 1) ((loopN60 me).t0 d) [] ((loopN60 me).h0 d) (loopN60 me).end_ = treeN60 me d := by kernel_rfl
def tree60N (me : Int) : DT V :=
  .ob ((([.nils, .slice 3 0 1 1 none, .int .u32 1], [some .dead, some .dead, some .dead, some (.cells true [.int .u32 me])]) : Snap) = (loopN60 me).S 1) (
  .ob ((1 : Int) = 1 ∨ ((1 : Int) = 2 ∧ me = 1)) (
  .leaf (.tup [.int .u32 (if me = 1 then 2 else 1), .int .i64 0])))
noncomputable def lt60N (me : Int) : Lt := fun k => match k with | 2 => (loopN60 me).lt | _ => fun _ _ => .fail
set_option maxRecDepth 1000000 in
theorem tree60N_eq (me : Int) (j q : Nat) : funT (mkXT noPX noOX) (mkXP noPX) (mkX noPX noOX) D (fun _ => noOrc) (fun k => match k with | 60 => [12] | _ => []) 11 noOrc [12] (lt60N me) (dOf 60) [.nils, .slice 3 0 1 1 none] (smallH [.w j q [.int .u32 me]]) (fun v _ => v) = tree60N me := by kernel_rfl
def loopN46 (me : Int) : LoopD Int where
  nt := 42
  fr := fun ex => match ex with | .ret => ⟨[4, 5], 4, []⟩ | _ => ⟨[0, 1, 7], 4, []⟩
  S := fun d => ([.nils, .slice 3 0 1 1 none, .int .u32 d], [some .dead, some .dead, some .dead, some (.cells true [.int .u32 me])])
  out := fun d => .ob (d = 1 ∨ (d = 2 ∧ me = 1)) (.leaf (.exit 2, ([.nils, .slice 3 0 1 1 none, .int .u32 (if me = 1 then 2 else 1)], [some .dead, some .dead, some .dead, some (.cells true [.int .u32 me])])))
  pick := fun _ => 1
def treeN46 (me : Int) (d : Int) : DT (Ex × Snap) :=
  .ob (1 = 1 ∧ 0 ≤ (0 : Int) ∧ (0 : Int) < ((1 : Nat) : Int)) (
  .node ((me : Int) == d) (
    .leaf (.normal, ([.nils, .slice 3 0 1 1 none, .int .u32 (wrapK .u32 (d + 1))], [some .dead, some .dead, some .dead, some (.cells true [.int .u32 me])]))) (
    .leaf ((.exit 2), ([.nils, .slice 3 0 1 1 none, .int .u32 d], [some .dead, some .dead, some .dead, some (.cells true [.int .u32 me])]))))
set_option maxRecDepth 1000000 in
theorem treeN46_eq (me : Int) (d : Int) : codeT (callT (mkXT noPX noOX) (mkXP noPX) (mkX noPX noOX) D (fun _ => noOrc) (fun k => match k with | 46 => [36] | 66 => [9] | _ => []) 12) (callN (mkX noPX noOX) D 12) (mkXP noPX) noOrc [36] noLt 2 (lpOf 46 1) ((loopN46 me).t0 d) [] ((loopN46 me).h0 d) (loopN46 me).end_ = treeN46 me d := by kernel_rfl
def tree46N (me : Int) : DT V :=
  .ob ((([.nils, .slice 3 0 1 1 none, .int .u32 1], [some .dead, some .dead, some .dead, some (.cells true [.int .u32 me])]) : Snap) = (loopN46 me).S 1) (
  .ob ((1 : Int) = 1 ∨ ((1 : Int) = 2 ∧ me = 1)) (
  .leaf (.tup [.int .u32 (if me = 1 then 2 else 1), .int .i64 0])))
noncomputable def lt46N (me : Int) : Lt := fun k => match k with | 2 => (loopN46 me).lt | _ => fun _ _ => .fail
set_option maxRecDepth 1000000 in
theorem tree46N_eq (me : Int) (j q : Nat) : funT (mkXT noPX noOX) (mkXP noPX) (mkX noPX noOX) D (fun _ => noOrc) (fun k => match k with | 46 => [11] | _ => []) 11 noOrc [11] (lt46N me) (dOf 46) [.nils, .slice 3 0 1 1 none] (smallH [.w j q [.int .u32 me]]) (fun v _ => v) = tree46N me := by kernel_rfl
theorem drop_getD : ∀ (l : List Int) (i : Nat), i < l.length → l.drop i = l.getD i 0 :: l.drop (i + 1)
  | [], i, h => by simp at h
  | a :: l, 0, _ => by simp
  | a :: l, i + 1, h => by simpa using drop_getD l i (by simpa using h)
theorem ints_at : ∀ (l : List Int) (i : Nat), i < l.length → cellAt (l.map (V.int .u32)) i = some (.int .u32 (l.getD i 0))
  | [], i, h => by simp at h
  | a :: l, 0, _ => by simp [cellAt]
  | a :: l, i + 1, h => by simpa [cellAt] using ints_at l i (by simpa using h)
theorem msk_ints (f : Nat → Option Nat) (l : List Int) : mskVs f (l.map (V.int .u32)) = l.map (V.int .u32) := mskVs_of (flats_int .u32 l)
theorem fresh_none (me : Int) : ∀ (l : List Int) (i : Nat), hasD me l = false → freshL me l i = (if me = 1 then 2 else 1, i + l.length)
  | [], i, _ => by simp [freshL]
  | d :: l, i, h => by
    simp only [hasD, Bool.or_eq_false_iff] at h
    simp only [freshL, h.1, Bool.false_eq_true, if_false]
    rw [fresh_none me l (i + 1) h.2, List.length_cons]
    congr 1
    omega

theorem roundA60 (draws : List Int) (me : Int) (i : Nat) (Pr : Ex × Snap → Prop) (ho : ((loopA60 draws me).out i).sat Pr) : (treeA60 draws me i).sat ((loopA60 draws me).next (fun i => draws.length + 1 - i) i Pr) := by
  obtain ⟨⟨hi, hn⟩, hP, hN⟩ := ho
  unfold treeA60
  simp only [DT.sat, msk_ints, Int.toNat_natCast, Nat.zero_add, Nat.mul_one]
  by_cases hlt : i < draws.length
  · have e0 := ints_at draws i hlt
    rw [drop_getD draws i hlt] at hP hN
    generalize draws.getD i 0 = d at *
    simp only [hasD, freshL] at hP hN
    have w : wrapK .i64 ((i : Int) + 1) = ((i + 1 : Nat) : Int) := by rw [wrap64 (by omega) (by omega)]; omega
    have k : (i : Int) < (draws.length : Int) := by omega
    simp only [w, e0]
    cases hok : okD me d with
    | true =>
      simp only [hok, Bool.true_or, if_true] at hP
      simp only [okD, Bool.and_eq_true, bne_iff_ne, ne_eq] at hok
      obtain ⟨⟨o1, o2⟩, o3⟩ := hok
      have o3' : ¬ me = d := fun e => o3 e.symm
      simp [k, o1, o2, o3, o3']
      exact hP trivial
    | false =>
      simp only [hok, Bool.false_or, Bool.false_eq_true, if_false] at hP hN
      have fin : ∀ s : Snap, s = (loopA60 draws me).S (i + 1) → (loopA60 draws me).next (fun i => draws.length + 1 - i) i Pr (.normal, s) := fun s hs =>
        ⟨i + 1, hs, by simp only; omega, ⟨by omega, hn⟩, hP, hN⟩
      by_cases q1 : d = 0
      · simp [k, q1]
        exact fin _ rfl
      · by_cases q2 : d = 4294967295
        · simp [k, q2]
          exact fin _ rfl
        · have q3 : d = me := by
            apply Classical.byContradiction
            intro q3
            simp [okD, q1, q2, q3] at hok
          simp [k, q1, q2, q3]
          first | exact fin _ rfl | (subst q3; simp [q1, q2]; exact fin _ rfl)
  · have k : ¬ (i : Int) < (draws.length : Int) := by omega
    have : draws.drop i = [] := List.drop_eq_nil_of_le (by omega)
    rw [this] at hN
    simp [k]
    exact hN rfl
theorem roundB60 (draws : List Int) (me : Int) (d : Int) (Pr : Ex × Snap → Prop) (ho : ((loopB60 draws me).out d).sat Pr) : (treeB60 draws me d).sat ((loopB60 draws me).next (fun d => (3 - d).toNat) d Pr) := by
  obtain ⟨hd, hP⟩ := ho
  unfold treeB60
  simp only [DT.sat, msk_ints]
  rcases hd with rfl | ⟨rfl, rfl⟩
  · by_cases h : me = 1
    · subst h
      refine ⟨by simp, fun _ => ⟨2, rfl, by simp, .inr ⟨rfl, rfl⟩, hP⟩, fun h => by simp at h⟩
    · refine ⟨by simp, fun h2 => ?_, fun _ => ?_⟩
      · exfalso
        simp at h2
        first | exact h h2 | exact h h2.symm
      · have hP' : Pr _ := hP
        simp only [if_neg h] at hP'
        exact hP'
  · refine ⟨by simp, fun h => by simp at h, fun _ => ?_⟩
    have hP' : Pr _ := hP
    simp only [if_true] at hP'
    exact hP'
theorem sat60 (draws : List Int) (me : Int) (hn : draws.length < 4611686018427387904) : (tree60 draws me).sat fun v => v = .tup [.int .u32 (freshL me draws 0).1, .int .i64 ((freshL me draws 0).2 : Int)] := by
  unfold tree60
  simp only [DT.sat, msk_ints, List.drop_zero]
  refine ⟨rfl, ⟨Nat.zero_le _, hn⟩, fun _ => by first | trivial | rfl, fun h => ⟨rfl, by simp, ?_⟩⟩
  rw [fresh_none me draws 0 h, Nat.zero_add]
theorem loops60 : loopsIn 0 (dOf 60).body = [(0, lpOf 60 0), (2, lpOf 60 1)] := by kernel_rfl
set_option maxRecDepth 1000000 in
theorem run60 (draws : List Int) (me : Int) (hn : draws.length < 4611686018427387904) (i o j q : Nat) : Run Tryz.prog 60 [.slice 3 0 draws.length 1 none, .slice 4 0 1 1 none] (smallH [.w i o (draws.map (V.int .u32)), .w j q [.int .u32 me]]) fun r _ => r = .tup [.int .u32 (freshL me draws 0).1, .int .i64 ((freshL me draws 0).2 : Int)] := by
  refine run_loops mixed TabX.nil tabD (dIs (by kernel_rfl)) (lt := lt60 draws me) (fun hint p hp => ?_) (tree60_eq draws me i o j q) (Q := fun v => v = .tup [.int .u32 (freshL me draws 0).1, .int .i64 ((freshL me draws 0).2 : Int)]) (sat60 draws me hn)
  rw [loops60] at hp
  simp only [List.mem_cons, List.not_mem_nil, or_false] at hp
  rcases hp with rfl | rfl
  · exact LoopD.lt1 mixed TabX.nil tabD (loopA60 draws me) (fun i => draws.length + 1 - i) (fun ex => match ex with | .normal => ⟨show 3 ≤ 5 by decide, show 5 ≤ 5 by decide⟩ | .exit _ => ⟨show 3 ≤ 5 by decide, show 5 ≤ 5 by decide⟩ | .ret => ⟨show 3 ≤ 5 by decide, show 5 ≤ 5 by decide⟩) (by kernel_rfl) (orc := orcA60 draws) (treeA60_eq draws me) (roundA60 draws me)
  · exact LoopD.lt1 mixed TabX.nil tabD (loopB60 draws me) (fun d => (3 - d).toNat) (fun ex => match ex with | .normal => ⟨show 3 ≤ 5 by decide, show 5 ≤ 5 by decide⟩ | .exit _ => ⟨show 3 ≤ 5 by decide, show 5 ≤ 5 by decide⟩ | .ret => ⟨show 3 ≤ 5 by decide, show 5 ≤ 5 by decide⟩) (by kernel_rfl) (orc := fun _ => noOrc) (treeB60_eq draws me) (roundB60 draws me)

theorem roundA46 (draws : List Int) (me : Int) (i : Nat) (Pr : Ex × Snap → Prop) (ho : ((loopA46 draws me).out i).sat Pr) : (treeA46 draws me i).sat ((loopA46 draws me).next (fun i => draws.length + 1 - i) i Pr) := by
  obtain ⟨⟨hi, hn⟩, hP, hN⟩ := ho
  unfold treeA46
  simp only [DT.sat, msk_ints, Int.toNat_natCast, Nat.zero_add, Nat.mul_one]
  by_cases hlt : i < draws.length
  · have e0 := ints_at draws i hlt
    rw [drop_getD draws i hlt] at hP hN
    generalize draws.getD i 0 = d at *
    simp only [hasD, freshL] at hP hN
    have w : wrapK .i64 ((i : Int) + 1) = ((i + 1 : Nat) : Int) := by rw [wrap64 (by omega) (by omega)]; omega
    have k : (i : Int) < (draws.length : Int) := by omega
    simp only [w, e0]
    cases hok : okD me d with
    | true =>
      simp only [hok, Bool.true_or, if_true] at hP
      simp only [okD, Bool.and_eq_true, bne_iff_ne, ne_eq] at hok
      obtain ⟨⟨o1, o2⟩, o3⟩ := hok
      have o3' : ¬ me = d := fun e => o3 e.symm
      simp [k, o1, o2, o3, o3']
      exact hP trivial
    | false =>
      simp only [hok, Bool.false_or, Bool.false_eq_true, if_false] at hP hN
      have fin : ∀ s : Snap, s = (loopA46 draws me).S (i + 1) → (loopA46 draws me).next (fun i => draws.length + 1 - i) i Pr (.normal, s) := fun s hs =>
        ⟨i + 1, hs, by simp only; omega, ⟨by omega, hn⟩, hP, hN⟩
      by_cases q1 : d = 0
      · simp [k, q1]
        exact fin _ rfl
      · by_cases q2 : d = 4294967295
        · simp [k, q2]
          exact fin _ rfl
        · have q3 : d = me := by
            apply Classical.byContradiction
            intro q3
            simp [okD, q1, q2, q3] at hok
          simp [k, q1, q2, q3]
          first | exact fin _ rfl | (subst q3; simp [q1, q2]; exact fin _ rfl)
  · have k : ¬ (i : Int) < (draws.length : Int) := by omega
    have : draws.drop i = [] := List.drop_eq_nil_of_le (by omega)
    rw [this] at hN
    simp [k]
    exact hN rfl
theorem roundB46 (draws : List Int) (me : Int) (d : Int) (Pr : Ex × Snap → Prop) (ho : ((loopB46 draws me).out d).sat Pr) : (treeB46 draws me d).sat ((loopB46 draws me).next (fun d => (3 - d).toNat) d Pr) := by
  obtain ⟨hd, hP⟩ := ho
  unfold treeB46
  simp only [DT.sat, msk_ints]
  rcases hd with rfl | ⟨rfl, rfl⟩
  · by_cases h : me = 1
    · subst h
      refine ⟨by simp, fun _ => ⟨2, rfl, by simp, .inr ⟨rfl, rfl⟩, hP⟩, fun h => by simp at h⟩
    · refine ⟨by simp, fun h2 => ?_, fun _ => ?_⟩
      · exfalso
        simp at h2
        first | exact h h2 | exact h h2.symm
      · have hP' : Pr _ := hP
        simp only [if_neg h] at hP'
        exact hP'
  · refine ⟨by simp, fun h => by simp at h, fun _ => ?_⟩
    have hP' : Pr _ := hP
    simp only [if_true] at hP'
    exact hP'
theorem sat46 (draws : List Int) (me : Int) (hn : draws.length < 4611686018427387904) : (tree46 draws me).sat fun v => v = .tup [.int .u32 (freshL me draws 0).1, .int .i64 ((freshL me draws 0).2 : Int)] := by
  unfold tree46
  simp only [DT.sat, msk_ints, List.drop_zero]
  refine ⟨rfl, ⟨Nat.zero_le _, hn⟩, fun _ => by first | trivial | rfl, fun h => ⟨rfl, by simp, ?_⟩⟩
  rw [fresh_none me draws 0 h, Nat.zero_add]
theorem loops46 : loopsIn 0 (dOf 46).body = [(0, lpOf 46 0), (2, lpOf 46 1)] := by kernel_rfl
set_option maxRecDepth 1000000 in
theorem run46 (draws : List Int) (me : Int) (hn : draws.length < 4611686018427387904) (i o j q : Nat) : Run Tryz.prog 46 [.slice 3 0 draws.length 1 none, .slice 4 0 1 1 none] (smallH [.w i o (draws.map (V.int .u32)), .w j q [.int .u32 me]]) fun r _ => r = .tup [.int .u32 (freshL me draws 0).1, .int .i64 ((freshL me draws 0).2 : Int)] := by
  refine run_loops mixed TabX.nil tabD (dIs (by kernel_rfl)) (lt := lt46 draws me) (fun hint p hp => ?_) (tree46_eq draws me i o j q) (Q := fun v => v = .tup [.int .u32 (freshL me draws 0).1, .int .i64 ((freshL me draws 0).2 : Int)]) (sat46 draws me hn)
  rw [loops46] at hp
  simp only [List.mem_cons, List.not_mem_nil, or_false] at hp
  rcases hp with rfl | rfl
  · exact LoopD.lt1 mixed TabX.nil tabD (loopA46 draws me) (fun i => draws.length + 1 - i) (fun ex => match ex with | .normal => ⟨show 3 ≤ 5 by decide, show 5 ≤ 5 by decide⟩ | .exit _ => ⟨show 3 ≤ 5 by decide, show 5 ≤ 5 by decide⟩ | .ret => ⟨show 3 ≤ 5 by decide, show 5 ≤ 5 by decide⟩) (by kernel_rfl) (orc := orcA46 draws) (treeA46_eq draws me) (roundA46 draws me)
  · exact LoopD.lt1 mixed TabX.nil tabD (loopB46 draws me) (fun d => (3 - d).toNat) (fun ex => match ex with | .normal => ⟨show 3 ≤ 5 by decide, show 5 ≤ 5 by decide⟩ | .exit _ => ⟨show 3 ≤ 5 by decide, show 5 ≤ 5 by decide⟩ | .ret => ⟨show 3 ≤ 5 by decide, show 5 ≤ 5 by decide⟩) (by kernel_rfl) (orc := fun _ => noOrc) (treeB46_eq draws me) (roundB46 draws me)

def vInt : V → Int
  | .int _ n => n
  | _ => 0
def hdInt : List V → Int
  | v :: _ => vInt v
  | [] => 0
def pF (a b : List V) : Prop × V := ((∃ (l : List Int) (me : Int), a = l.map (V.int .u32) ∧ b = [V.int .u32 me] ∧ l.length < 4611686018427387904), .tup [.int .u32 (freshL (hdInt b) (a.map vInt) 0).1, .int .i64 ((freshL (hdInt b) (a.map vInt) 0).2 : Int)])
def pFN (b : List V) : Prop × V := ((∃ me : Int, b = [V.int .u32 me]), .tup [.int .u32 (if hdInt b = 1 then 2 else 1), .int .i64 0])
theorem vInt_map : ∀ l : List Int, (l.map (V.int .u32)).map vInt = l
  | [] => rfl
  | a :: l => by simp [vInt, vInt_map l]
theorem ansF60 : AnsO Tryz.prog 60 (fun args h => (gW2 pF args h).run) := by
  refine ansW2 fun a b i o j q hp => ?_
  obtain ⟨l, me, rfl, rfl, hn⟩ := hp
  refine ⟨flats_int .u32 l, rfl, rfl, ?_⟩
  simp only [pF, vInt_map, hdInt, vInt, List.length_map]
  exact run60 l me hn i o j q
theorem ansF46 : AnsO Tryz.prog 46 (fun args h => (gW2 pF args h).run) := by
  refine ansW2 fun a b i o j q hp => ?_
  obtain ⟨l, me, rfl, rfl, hn⟩ := hp
  refine ⟨flats_int .u32 l, rfl, rfl, ?_⟩
  simp only [pF, vInt_map, hdInt, vInt, List.length_map]
  exact run46 l me hn i o j q

theorem roundN60 (me : Int) (d : Int) (Pr : Ex × Snap → Prop) (ho : ((loopN60 me).out d).sat Pr) : (treeN60 me d).sat ((loopN60 me).next (fun d => (3 - d).toNat) d Pr) := by
  obtain ⟨hd, hP⟩ := ho
  unfold treeN60
  simp only [DT.sat]
  rcases hd with rfl | ⟨rfl, rfl⟩
  · by_cases h : me = 1
    · subst h
      refine ⟨by simp, fun _ => ⟨2, rfl, by simp, .inr ⟨rfl, rfl⟩, hP⟩, fun h => by simp at h⟩
    · refine ⟨by simp, fun h2 => ?_, fun _ => ?_⟩
      · exfalso
        simp at h2
        first | exact h h2 | exact h h2.symm
      · have hP' : Pr _ := hP
        simp only [if_neg h] at hP'
        exact hP'
  · refine ⟨by simp, fun h => by simp at h, fun _ => ?_⟩
    have hP' : Pr _ := hP
    simp only [if_true] at hP'
    exact hP'
theorem sat60N (me : Int) : (tree60N me).sat fun v => v = .tup [.int .u32 (if me = 1 then 2 else 1), .int .i64 0] := by
  unfold tree60N
  simp [DT.sat, loopN60]
set_option maxRecDepth 1000000 in
theorem ansN60 : AnsO Tryz.prog 60 (fun args h => (gWN pFN args h).run) := by
  refine ansWN fun b j q hp => ?_
  obtain ⟨me, rfl⟩ := hp
  refine ⟨rfl, rfl, ?_⟩
  refine run_loops mixed TabX.nil tabD (dIs (by kernel_rfl)) (lt := lt60N me) (fun hint p hp => ?_) (tree60N_eq me j q) (Q := fun v => v = .tup [.int .u32 (if me = 1 then 2 else 1), .int .i64 0]) (sat60N me)
  rw [loops60] at hp
  simp only [List.mem_cons, List.not_mem_nil, or_false] at hp
  rcases hp with rfl | rfl
  · exact fun _ _ _ _ _ h => absurd h (fun q => q)
  · exact LoopD.lt1 mixed TabX.nil tabD (loopN60 me) (fun d => (3 - d).toNat) (fun ex => match ex with | .normal => ⟨show 3 ≤ 4 by decide, show 4 ≤ 4 by decide⟩ | .exit _ => ⟨show 3 ≤ 4 by decide, show 4 ≤ 4 by decide⟩ | .ret => ⟨show 3 ≤ 4 by decide, show 4 ≤ 4 by decide⟩) (by kernel_rfl) (orc := fun _ => noOrc) (treeN60_eq me) (roundN60 me)

theorem roundN46 (me : Int) (d : Int) (Pr : Ex × Snap → Prop) (ho : ((loopN46 me).out d).sat Pr) : (treeN46 me d).sat ((loopN46 me).next (fun d => (3 - d).toNat) d Pr) := by
  obtain ⟨hd, hP⟩ := ho
  unfold treeN46
  simp only [DT.sat]
  rcases hd with rfl | ⟨rfl, rfl⟩
  · by_cases h : me = 1
    · subst h
      refine ⟨by simp, fun _ => ⟨2, rfl, by simp, .inr ⟨rfl, rfl⟩, hP⟩, fun h => by simp at h⟩
    · refine ⟨by simp, fun h2 => ?_, fun _ => ?_⟩
      · exfalso
        simp at h2
        first | exact h h2 | exact h h2.symm
      · have hP' : Pr _ := hP
        simp only [if_neg h] at hP'
        exact hP'
  · refine ⟨by simp, fun h => by simp at h, fun _ => ?_⟩
    have hP' : Pr _ := hP
    simp only [if_true] at hP'
    exact hP'
theorem sat46N (me : Int) : (tree46N me).sat fun v => v = .tup [.int .u32 (if me = 1 then 2 else 1), .int .i64 0] := by
  unfold tree46N
  simp [DT.sat, loopN46]
set_option maxRecDepth 1000000 in
theorem ansN46 : AnsO Tryz.prog 46 (fun args h => (gWN pFN args h).run) := by
  refine ansWN fun b j q hp => ?_
  obtain ⟨me, rfl⟩ := hp
  refine ⟨rfl, rfl, ?_⟩
  refine run_loops mixed TabX.nil tabD (dIs (by kernel_rfl)) (lt := lt46N me) (fun hint p hp => ?_) (tree46N_eq me j q) (Q := fun v => v = .tup [.int .u32 (if me = 1 then 2 else 1), .int .i64 0]) (sat46N me)
  rw [loops46] at hp
  simp only [List.mem_cons, List.not_mem_nil, or_false] at hp
  rcases hp with rfl | rfl
  · exact fun _ _ _ _ _ h => absurd h (fun q => q)
  · exact LoopD.lt1 mixed TabX.nil tabD (loopN46 me) (fun d => (3 - d).toNat) (fun ex => match ex with | .normal => ⟨show 3 ≤ 4 by decide, show 4 ≤ 4 by decide⟩ | .exit _ => ⟨show 3 ≤ 4 by decide, show 4 ≤ 4 by decide⟩ | .ret => ⟨show 3 ≤ 4 by decide, show 4 ≤ 4 by decide⟩) (by kernel_rfl) (orc := fun _ => noOrc) (treeN46_eq me) (roundN46 me)
end Go.Proofs.YtjnhaaolbcmdbaaGreatDoor
