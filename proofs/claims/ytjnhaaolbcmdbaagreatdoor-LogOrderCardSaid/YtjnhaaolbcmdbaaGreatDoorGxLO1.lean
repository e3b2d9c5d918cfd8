/- LogOrder: its trees. -/
import Derived.Test.YtjnhaaolbcmdbaaGreatDoorGxLW2
import Derived.Test.YtjnhaaolbcmdbaaGreatDoorGxT14
namespace Go.Proofs.YtjnhaaolbcmdbaaGreatDoor
open Go Gw Go.RowKit
set_option linter.unusedSimpArgs false
set_option linter.unusedVariables false
def pxLW : PTab := consP 22 pXid (consP 59 pXid (consP 58 pNick (consP 57 pNick noPX)))
def oxLW : OTab := consO 18 (gTrue kT0 kT1 kT2) (consO 36 (gN pNewL) (consT 37 (gC pAddW) (consT 51 (gR pAllW) (consT 38 (gR pClW) noOX))))
theorem tabLW : TabX Tryz.prog pxLW oxLW := ⟨tabLp.p, (((((TabX.nil (P := Tryz.prog)).addT ansClW).addT ansAllW).addT ansAddW).addO ansNewL |>.addO ⟨fr_gTrue _ _ _, begun_ok⟩).o⟩
def okCell (o : Option V) (x : V) : Bool := match o with
  | some y => V.beq y x
  | none => false
def mkD (d : Int) : Gw.Device := ⟨d, [100]⟩
def logOf (o : Option (List Int)) : Gw.Log := ⟨0, o.map (List.map mkD), o.map (List.map fun _ => 2), none⟩
def ownB (d : Int) : Bool := d != 0 && d != 4294967295
def hasI (d : Int) : List Int → Bool
  | [] => false
  | a :: l => (a == d) || hasI d l
def wsStep (o : Option (List Int)) (d : Int) : Option (List Int) := if (ownB d && !hasI d (o.getD [])) = true then some (o.getD [] ++ [d]) else o
def wsG (frm : List Int) (i : Nat) (o : Option (List Int)) : Option (List Int) := ((frm.take 12).drop i).foldl wsStep o
def invA (frm : List Int) (x : Nat × Option (List Int)) : Prop := x.1 ≤ min frm.length 12 ∧ (x.2.getD []).length ≤ x.1 ∧ x.2 ≠ some []
def snA (frm : List Int) (x : Nat × Option (List Int)) : Snap := match x with
  | (i, none) => ([.slice 3 0 frm.length 1 none, .ptr 4 0, .nils, .int .i64 ((i : Nat) : Int)], [some (.cells true (zsV .u8 kT0)), some (.cells true (zsV .u8 kT1)), some (.cells true (zsV .u8 kT2)), some (.cells true (frm.map (V.int .u32))), some (.obj (.log (logOf none))), none])
  | (i, some l) => ([.slice 3 0 frm.length 1 none, .ptr 4 0, .slice 5 0 l.length 1 none, .int .i64 ((i : Nat) : Int)], [some (.cells true (zsV .u8 kT0)), some (.cells true (zsV .u8 kT1)), some (.cells true (zsV .u8 kT2)), some (.cells true (frm.map (V.int .u32))), some (.obj (.log (logOf (some l)))), some (.cells false (l.map (V.int .u32)))])
def loopA17 (frm : List Int) : LoopD (Nat × Option (List Int)) where
  nt := 100
  fr := fun ex => match ex with | .normal => ⟨[0, 4, 5, 6], 5, [.t 5]⟩ | .exit _ => ⟨[4, 5], 5, [.t 5]⟩ | .ret => ⟨[], 5, []⟩
  S := snA frm
  out := fun x => .ob (invA frm x) (.node (wsG frm x.1 x.2).isNone (.leaf (.exit 0, ([.ptr 4 0, .nils], [some (.cells true (zsV .u8 kT0)), some (.cells true (zsV .u8 kT1)), some (.cells true (zsV .u8 kT2)), some (.cells true (frm.map (V.int .u32))), some (.obj (.log (logOf none))), none]))) (.leaf (.exit 0, ([.ptr 4 0, .slice 5 0 ((wsG frm x.1 x.2).getD []).length 1 none], [some (.cells true (zsV .u8 kT0)), some (.cells true (zsV .u8 kT1)), some (.cells true (zsV .u8 kT2)), some (.cells true (frm.map (V.int .u32))), some (.obj (.log (logOf (some ((wsG frm x.1 x.2).getD []))))), some (.cells false (((wsG frm x.1 x.2).getD []).map (V.int .u32)))]))))
  pick := fun _ => (0, none)
def loopB17 (frm l : List Int) (i : Nat) : LoopD (Nat × Bool) where
  nt := 100
  fr := fun ex => match ex with | .normal => ⟨[0, 4, 5, 6, 7, 8, 32, 33, 34], 13, []⟩ | .exit _ => ⟨[0, 4, 5, 6, 7, 8], 13, []⟩ | .ret => ⟨[], 13, []⟩
  S := fun x => ([.slice 3 0 frm.length 1 none, .ptr 4 0, .slice 5 0 l.length 1 none, .int .i64 ((i : Nat) : Int), .ptr 11 0, .bool x.2, .slice 5 0 l.length 1 none, .int .i64 ((l.length : Nat) : Int), .int .i64 ((x.1 : Nat) : Int)], [some (.cells true (zsV .u8 kT0)), some (.cells true (zsV .u8 kT1)), some (.cells true (zsV .u8 kT2)), some (.cells true (frm.map (V.int .u32))), some (.obj (.log (logOf (some l)))), some (.cells false (l.map (V.int .u32))), none, none, none, none, none, some (.cells false [.int .u32 (frm.getD i 0), .int .u32 0, .int .i64 2, .int .i64 6, .bool false, .str [100]]), none])
  out := fun x => .ob (x.1 ≤ l.length ∧ l.length ≤ 12 ∧ i < frm.length) (.leaf (.exit 2, ([.slice 3 0 frm.length 1 none, .ptr 4 0, .slice 5 0 l.length 1 none, .int .i64 ((i : Nat) : Int), .ptr 11 0, .bool (x.2 || hasI (frm.getD i 0) (l.drop x.1))], [some (.cells true (zsV .u8 kT0)), some (.cells true (zsV .u8 kT1)), some (.cells true (zsV .u8 kT2)), some (.cells true (frm.map (V.int .u32))), some (.obj (.log (logOf (some l)))), some (.cells false (l.map (V.int .u32))), none, none, none, none, none, some (.cells false [.int .u32 (frm.getD i 0), .int .u32 0, .int .i64 2, .int .i64 6, .bool false, .str [100]]), none])))
  pick := fun _ => (0, false)
def snC (frm : List Int) (l : List Int) (x : Option Nat) : Snap := match x with
  | none => ([.ptr 4 0, .nils, .nils, .int .i64 0, .int .i64 ((0 : Nat) : Int)], [some (.cells true (zsV .u8 kT0)), some (.cells true (zsV .u8 kT1)), some (.cells true (zsV .u8 kT2)), some (.cells true (frm.map (V.int .u32))), some (.obj (.log (logOf none))), none, none])
  | some j => ([.ptr 4 0, .slice 5 0 l.length 1 none, .slice 6 0 l.length 2 none, .int .i64 ((l.length : Nat) : Int), .int .i64 ((j : Nat) : Int)], [some (.cells true (zsV .u8 kT0)), some (.cells true (zsV .u8 kT1)), some (.cells true (zsV .u8 kT2)), some (.cells true (frm.map (V.int .u32))), some (.obj (.log (logOf (some l)))), some (.cells false (l.map (V.int .u32))), some (.obj (.devs (l.map mkD)))])
def xC (frm : List Int) (l : List Int) (x : Option Nat) : Snap := match x with
  | none => ([.ptr 4 0], [some (.cells true (zsV .u8 kT0)), some (.cells true (zsV .u8 kT1)), some (.cells true (zsV .u8 kT2)), some (.cells true (frm.map (V.int .u32))), some (.obj (.log (logOf none))), none, none])
  | some _ => ([.ptr 4 0], [some (.cells true (zsV .u8 kT0)), some (.cells true (zsV .u8 kT1)), some (.cells true (zsV .u8 kT2)), some (.cells true (frm.map (V.int .u32))), some (.obj (.log (logOf (some l)))), some (.cells false (l.map (V.int .u32))), some (.obj (.devs (l.map mkD)))])
def loopC17 (frm l : List Int) : LoopD (Option Nat) where
  nt := 100
  fr := fun ex => match ex with | .normal => ⟨[4, 5, 11, 81, 82], 7, []⟩ | .exit _ => ⟨[4], 7, []⟩ | .ret => ⟨[], 5, []⟩
  S := snC frm l
  out := fun x => .ob (x.getD 0 ≤ l.length ∧ l.length ≤ 12) (.leaf (.exit 4, xC frm l x))
  pick := fun p => match p.1 with
    | [_, _, .nils, _, _] => none
    | _ => some 0
def orcAN17 (frm : List Int) (i : Nat) : Orc := (fun k => match k with | 30 => some fun _ h => (.int .u32 (frm.getD (((i : Nat) : Int) : Int).toNat 0), h) | 54 => some fun _ h => (.int .u32 (frm.getD (((i : Nat) : Int) : Int).toNat 0), h) | 60 => some fun _ h => (.int .u32 (frm.getD (((i : Nat) : Int) : Int).toNat 0), h) | 70 => some fun _ h => (.int .u32 (frm.getD (((i : Nat) : Int) : Int).toNat 0), h) | _ => none)
def orcAS17 (frm l : List Int) (i : Nat) : Orc := (fun k => match k with | 30 => some fun _ h => (.int .u32 (frm.getD (((i : Nat) : Int) : Int).toNat 0), h) | 54 => some fun _ h => (.int .u32 (frm.getD (((i : Nat) : Int) : Int).toNat 0), h) | 60 => some fun _ h => (.int .u32 (frm.getD (((i : Nat) : Int) : Int).toNat 0), h) | 70 => some fun _ h => (.int .u32 (frm.getD (((i : Nat) : Int) : Int).toNat 0), h) | _ => none)
def orcB17 (frm l : List Int) (i : Nat) (x : Nat × Bool) : Orc := (fun k => match k with | 37 => some fun _ h => (.int .u32 (l.getD (((x.1 : Nat) : Int) : Int).toNat 0), h) | 44 => some fun _ h => (.int .u32 (frm.getD (((i : Nat) : Int) : Int).toNat 0), h) | _ => none)
def orcCN17 : Orc := noOrc
def orcCS17 (frm l : List Int) (j : Nat) : Orc := (fun k => match k with | 89 => some fun _ h => (.int .u32 ((l.map mkD).getD (((j : Nat) : Int) : Int).toNat {}).id, h) | 93 => some fun _ h => (.int .u32 (l.getD (((j : Nat) : Int) : Int).toNat 0), h) | _ => none)
noncomputable def lpB17 : DC := (((loopsIn 0 (dOf 17).body)[1]?).getD (0, .skip)).2
noncomputable def lpC17 : DC := (((loopsIn 0 (dOf 17).body)[2]?).getD (0, .skip)).2
noncomputable def ltB17 (frm l : List Int) (i : Nat) : Lt := fun _ => (loopB17 frm l i).lt
def treeAN17 (frm : List Int) (i : Nat) : DT (Ex × Snap) :=
  .ob (((decide ((((i : Nat) : Int) : Int) < ((frm.length : Nat) : Int))) == true) = true → ((True) ∧ ((True) ∧ (True)))) (
  .node (cond ((decide ((((i : Nat) : Int) : Int) < ((frm.length : Nat) : Int))) == true) (decide ((((i : Nat) : Int) : Int) < 12)) false) (
    .ob (1 = 1 ∧ 0 ≤ (((i : Nat) : Int) : Int) ∧ (((i : Nat) : Int) : Int) < ((frm.length : Nat) : Int)) (
    .ob ((cellAt (frm.map (V.int .u32)) (0 + (((i : Nat) : Int) : Int).toNat * 1)) = some (.int .u32 (frm.getD i 0))) (
    .ob (1 = 1 ∧ 0 ≤ (((i : Nat) : Int) : Int) ∧ (((i : Nat) : Int) : Int) < ((frm.length : Nat) : Int)) (
    .ob ((cellAt (frm.map (V.int .u32)) (0 + (((i : Nat) : Int) : Int).toNat * 1)) = some (.int .u32 (frm.getD i 0))) (
    .ob (okLogW 11 (logOf none)) (
    .ob (((okCell (cellAt (frm.map (V.int .u32)) (0 + (((i : Nat) : Int) : Int).toNat * 1)) (.int .u32 (frm.getD i 0))) && true) = true) (
    .ob (((((frm.getD i 0) : Int) != 0) == true) = true → ((True) ∧ ((True) ∧ (True)))) (
    .node (!((logAdd (logOf none) ⟨(frm.getD i 0), 0, 2, 6, false, [100]⟩).1 == (cond ((((frm.getD i 0) : Int) != 0) == true) (((frm.getD i 0) : Int) != 4294967295) false))) (
      .leaf (.ret, ([], [some (.cells true (zsV .u8 kT0)), some (.cells true (zsV .u8 kT1)), some (.cells true (zsV .u8 kT2)), some (.cells true (mskVs (fnO 5 []) (frm.map (V.int .u32)))), some (.obj (.log (logAdd (logOf none) ⟨(frm.getD i 0), 0, 2, 6, false, [100]⟩).2))]))) (
      .ob (1 = 1 ∧ 0 ≤ (((i : Nat) : Int) : Int) ∧ (((i : Nat) : Int) : Int) < ((frm.length : Nat) : Int)) (
      .ob ((cellAt (frm.map (V.int .u32)) (0 + (((i : Nat) : Int) : Int).toNat * 1)) = some (.int .u32 (frm.getD i 0))) (
      .ob (((((frm.getD i 0) : Int) != 0) == true) = true → ((True) ∧ ((True) ∧ (True)))) (
      .ob (((cond ((((frm.getD i 0) : Int) != 0) == true) (((frm.getD i 0) : Int) != 4294967295) false) == true) = true → ((True) ∧ ((True) ∧ (True)))) (
      .node (cond ((cond ((((frm.getD i 0) : Int) != 0) == true) (((frm.getD i 0) : Int) != 4294967295) false) == true) true false) (
        .ob (1 = 1 ∧ 0 ≤ (((i : Nat) : Int) : Int) ∧ (((i : Nat) : Int) : Int) < ((frm.length : Nat) : Int)) (
        .ob ((cellAt (frm.map (V.int .u32)) (0 + (((i : Nat) : Int) : Int).toNat * 1)) = some (.int .u32 (frm.getD i 0))) (
        .ob ((1 = 1 ∧ ([.int .u32 (frm.getD i 0)] : List V).length = 1 * 1) ∧ allOne [.int .u32 (frm.getD i 0)] = true ∧ 1 * 4 ≤ 70368744177664) (
        .leaf (.normal, ([.slice 3 0 frm.length 1 none, .ptr 4 0, .slice 5 0 1 1 none, .int .i64 (wrapK .i64 (((i : Nat) : Int) + 1))], [some (.cells true (zsV .u8 kT0)), some (.cells true (zsV .u8 kT1)), some (.cells true (zsV .u8 kT2)), some (.cells true (mskVs (fnO 5 [some 21]) (frm.map (V.int .u32)))), some (.obj (.log (logAdd (logOf none) ⟨(frm.getD i 0), 0, 2, 6, false, [100]⟩).2)), some (.cells false [.int .u32 (frm.getD i 0)])])))))) (
        .leaf (.normal, ([.slice 3 0 frm.length 1 none, .ptr 4 0, .nils, .int .i64 (wrapK .i64 (((i : Nat) : Int) + 1))], [some (.cells true (zsV .u8 kT0)), some (.cells true (zsV .u8 kT1)), some (.cells true (zsV .u8 kT2)), some (.cells true (mskVs (fnO 5 [none]) (frm.map (V.int .u32)))), some (.obj (.log (logAdd (logOf none) ⟨(frm.getD i 0), 0, 2, 6, false, [100]⟩).2)), none])))))))))))))))) (
    .leaf ((.exit 0), ([.ptr 4 0, .nils], [some (.cells true (zsV .u8 kT0)), some (.cells true (zsV .u8 kT1)), some (.cells true (zsV .u8 kT2)), some (.cells true (mskVs (fnO 5 [none]) (frm.map (V.int .u32)))), some (.obj (.log (logOf none))), none]))))
set_option maxRecDepth 1000000 in
theorem treeAN17_eq (frm : List Int) (i : Nat) : codeT (callT (mkXT pxLW oxLW) (mkXP pxLW) (mkX pxLW oxLW) D (fun _ => noOrc) (fun k => match k with | 17 => [35] | _ => []) 12) (callN (mkX pxLW oxLW) D 12) (mkXP pxLW) (orcAN17 frm i) [35] noLt 0 (lpOf 17 0) ((loopA17 frm).t0 (i, none)) [] ((loopA17 frm).h0 (i, none)) (loopA17 frm).end_ = treeAN17 frm i := by kernel_rfl
def treeAS17 (frm l : List Int) (i : Nat) : DT (Ex × Snap) :=
  .ob (((decide ((((i : Nat) : Int) : Int) < ((frm.length : Nat) : Int))) == true) = true → ((True) ∧ ((True) ∧ (True)))) (
  .node (cond ((decide ((((i : Nat) : Int) : Int) < ((frm.length : Nat) : Int))) == true) (decide ((((i : Nat) : Int) : Int) < 12)) false) (
    .ob (1 = 1 ∧ 0 ≤ (((i : Nat) : Int) : Int) ∧ (((i : Nat) : Int) : Int) < ((frm.length : Nat) : Int)) (
    .ob ((cellAt (frm.map (V.int .u32)) (0 + (((i : Nat) : Int) : Int).toNat * 1)) = some (.int .u32 (frm.getD i 0))) (
    .ob ((([.slice 3 0 frm.length 1 none, .ptr 4 0, .slice 5 0 l.length 1 none, .int .i64 ((i : Nat) : Int), .ptr 11 0, .bool false, .slice 5 0 l.length 1 none, .int .i64 ((l.length : Nat) : Int), .int .i64 0], [some (.cells true (zsV .u8 kT0)), some (.cells true (zsV .u8 kT1)), some (.cells true (zsV .u8 kT2)), some (.cells true (mskVs (fnO 13 []) (frm.map (V.int .u32)))), some (.obj (.log (logOf (some l)))), some (.cells false (mskVs (fnO 13 []) (l.map (V.int .u32)))), none, none, none, none, none, some (.cells false [.int .u32 (frm.getD i 0), .int .u32 0, .int .i64 2, .int .i64 6, .bool false, .str [100]]), none]) : Snap) = (loopB17 frm l i).S (0, false)) (
    .ob (0 ≤ l.length ∧ l.length ≤ 12 ∧ i < frm.length) (
    .ob (1 = 1 ∧ 0 ≤ (((i : Nat) : Int) : Int) ∧ (((i : Nat) : Int) : Int) < ((frm.length : Nat) : Int)) (
    .ob ((cellAt (frm.map (V.int .u32)) (0 + (((i : Nat) : Int) : Int).toNat * 1)) = some (.int .u32 (frm.getD i 0))) (
    .ob (okLogW 11 (logOf (some l))) (
    .ob (((okCell (cellAt (frm.map (V.int .u32)) (0 + (((i : Nat) : Int) : Int).toNat * 1)) (.int .u32 (frm.getD i 0))) && true) = true) (
    .ob (((((frm.getD i 0) : Int) != 0) == true) = true → ((True) ∧ ((True) ∧ (True)))) (
    .node (!((logAdd (logOf (some l)) ⟨(frm.getD i 0), 0, 2, 6, false, [100]⟩).1 == (cond ((((frm.getD i 0) : Int) != 0) == true) (((frm.getD i 0) : Int) != 4294967295) false))) (
      .leaf (.ret, ([], [some (.cells true (zsV .u8 kT0)), some (.cells true (zsV .u8 kT1)), some (.cells true (zsV .u8 kT2)), some (.cells true (mskVs (fnO 5 []) (frm.map (V.int .u32)))), some (.obj (.log (logAdd (logOf (some l)) ⟨(frm.getD i 0), 0, 2, 6, false, [100]⟩).2))]))) (
      .ob (1 = 1 ∧ 0 ≤ (((i : Nat) : Int) : Int) ∧ (((i : Nat) : Int) : Int) < ((frm.length : Nat) : Int)) (
      .ob ((cellAt (frm.map (V.int .u32)) (0 + (((i : Nat) : Int) : Int).toNat * 1)) = some (.int .u32 (frm.getD i 0))) (
      .ob (((((frm.getD i 0) : Int) != 0) == true) = true → ((True) ∧ ((True) ∧ (True)))) (
      .ob (((cond ((((frm.getD i 0) : Int) != 0) == true) (((frm.getD i 0) : Int) != 4294967295) false) == true) = true → ((True) ∧ ((True) ∧ (True)))) (
      .node (cond ((cond ((((frm.getD i 0) : Int) != 0) == true) (((frm.getD i 0) : Int) != 4294967295) false) == true) (!(false || hasI (frm.getD i 0) (l.drop 0))) false) (
        .ob (1 = 1 ∧ 0 ≤ (((i : Nat) : Int) : Int) ∧ (((i : Nat) : Int) : Int) < ((frm.length : Nat) : Int)) (
        .ob ((cellAt (frm.map (V.int .u32)) (0 + (((i : Nat) : Int) : Int).toNat * 1)) = some (.int .u32 (frm.getD i 0))) (
        .ob ((1 = 1 ∧ ([.int .u32 (frm.getD i 0)] : List V).length = 1 * 1) ∧ allOne [.int .u32 (frm.getD i 0)] = true ∧ 1 = 1 ∧ (l.length + 1) * 4 ≤ 70368744177664 ∧ ((l.map (V.int .u32)) : List V).length = l.length * 1) (
        .leaf (.normal, ([.slice 3 0 frm.length 1 none, .ptr 4 0, .slice 5 0 (l.length + 1) 1 none, .int .i64 (wrapK .i64 (((i : Nat) : Int) + 1))], [some (.cells true (zsV .u8 kT0)), some (.cells true (zsV .u8 kT1)), some (.cells true (zsV .u8 kT2)), some (.cells true (mskVs (fnO 5 [some 21]) (frm.map (V.int .u32)))), some (.obj (.log (logAdd (logOf (some l)) ⟨(frm.getD i 0), 0, 2, 6, false, [100]⟩).2)), some (.cells false (mskVs (fnO 5 [some 21]) ((l.map (V.int .u32)) ++ [.int .u32 (frm.getD i 0)])))])))))) (
        .leaf (.normal, ([.slice 3 0 frm.length 1 none, .ptr 4 0, .slice 5 0 l.length 1 none, .int .i64 (wrapK .i64 (((i : Nat) : Int) + 1))], [some (.cells true (zsV .u8 kT0)), some (.cells true (zsV .u8 kT1)), some (.cells true (zsV .u8 kT2)), some (.cells true (mskVs (fnO 5 [some 5]) (frm.map (V.int .u32)))), some (.obj (.log (logAdd (logOf (some l)) ⟨(frm.getD i 0), 0, 2, 6, false, [100]⟩).2)), some (.cells false (mskVs (fnO 5 [some 5]) (l.map (V.int .u32))))])))))))))))))))))) (
    .leaf ((.exit 0), ([.ptr 4 0, .slice 5 0 l.length 1 none], [some (.cells true (zsV .u8 kT0)), some (.cells true (zsV .u8 kT1)), some (.cells true (zsV .u8 kT2)), some (.cells true (mskVs (fnO 5 [some 5]) (frm.map (V.int .u32)))), some (.obj (.log (logOf (some l)))), some (.cells false (mskVs (fnO 5 [some 5]) (l.map (V.int .u32))))]))))
set_option maxRecDepth 1000000 in
theorem treeAS17_eq (frm l : List Int) (i : Nat) : codeT (callT (mkXT pxLW oxLW) (mkXP pxLW) (mkX pxLW oxLW) D (fun _ => noOrc) (fun k => match k with | 17 => [35] | _ => []) 12) (callN (mkX pxLW oxLW) D 12) (mkXP pxLW) (orcAS17 frm l i) [35] (ltB17 frm l i) 0 (lpOf 17 0) ((loopA17 frm).t0 (i, some l)) [] ((loopA17 frm).h0 (i, some l)) (loopA17 frm).end_ = treeAS17 frm l i := by kernel_rfl
def treeB17 (frm l : List Int) (i : Nat) (x : Nat × Bool) : DT (Ex × Snap) :=
  .node (decide ((((x.1 : Nat) : Int) : Int) < ((l.length : Nat) : Int))) (
    .ob (1 = 1 ∧ 0 ≤ (((x.1 : Nat) : Int) : Int) ∧ (((x.1 : Nat) : Int) : Int) < ((l.length : Nat) : Int)) (
    .ob ((cellAt (l.map (V.int .u32)) (0 + (((x.1 : Nat) : Int) : Int).toNat * 1)) = some (.int .u32 (l.getD (((x.1 : Nat) : Int) : Int).toNat 0))) (
    .ob ((x.2 == false) = true → ((True) ∧ ((True) ∧ ((True) ∧ ((1 = 1 ∧ 0 ≤ (((i : Nat) : Int) : Int) ∧ (((i : Nat) : Int) : Int) < ((frm.length : Nat) : Int)) ∧ (((cellAt (frm.map (V.int .u32)) (0 + (((i : Nat) : Int) : Int).toNat * 1)) = some (.int .u32 (frm.getD i 0))) ∧ ((True) ∧ (True)))))))) (
    .leaf (.normal, ([.slice 3 0 frm.length 1 none, .ptr 4 0, .slice 5 0 l.length 1 none, .int .i64 ((i : Nat) : Int), .ptr 11 0, .bool (cond (x.2 == false) (((l.getD (((x.1 : Nat) : Int) : Int).toNat 0) : Int) == (frm.getD i 0)) true), .slice 5 0 l.length 1 none, .int .i64 ((l.length : Nat) : Int), .int .i64 (wrapK .i64 (((x.1 : Nat) : Int) + 1))], [some (.cells true (zsV .u8 kT0)), some (.cells true (zsV .u8 kT1)), some (.cells true (zsV .u8 kT2)), some (.cells true (mskVs (fnO 13 []) (frm.map (V.int .u32)))), some (.obj (.log (logOf (some l)))), some (.cells false (mskVs (fnO 13 []) (l.map (V.int .u32)))), none, none, none, none, none, some (.cells false [.int .u32 (frm.getD i 0), .int .u32 0, .int .i64 2, .int .i64 6, .bool false, .str [100]]), none])))))) (
    .leaf ((.exit 2), ([.slice 3 0 frm.length 1 none, .ptr 4 0, .slice 5 0 l.length 1 none, .int .i64 ((i : Nat) : Int), .ptr 11 0, .bool x.2], [some (.cells true (zsV .u8 kT0)), some (.cells true (zsV .u8 kT1)), some (.cells true (zsV .u8 kT2)), some (.cells true (mskVs (fnO 13 []) (frm.map (V.int .u32)))), some (.obj (.log (logOf (some l)))), some (.cells false (mskVs (fnO 13 []) (l.map (V.int .u32)))), none, none, none, none, none, some (.cells false [.int .u32 (frm.getD i 0), .int .u32 0, .int .i64 2, .int .i64 6, .bool false, .str [100]]), none])))
set_option maxRecDepth 1000000 in
theorem treeB17_eq (frm l : List Int) (i : Nat) (x : Nat × Bool) : codeT (callT (mkXT pxLW oxLW) (mkXP pxLW) (mkX pxLW oxLW) D (fun _ => noOrc) (fun _ => []) 12) (callN (mkX pxLW oxLW) D 12) (mkXP pxLW) (orcB17 frm l i x) [] noLt 2 (lpB17) ((loopB17 frm l i).t0 x) [] ((loopB17 frm l i).h0 x) (loopB17 frm l i).end_ = treeB17 frm l i x := by kernel_rfl
def treeCN17 (frm l : List Int) : DT (Ex × Snap) :=
  .node (decide ((((0 : Nat) : Int) : Int) < 0)) (
    .fail) (
    .leaf ((.exit 4), ([.ptr 4 0], [some (.cells true (zsV .u8 kT0)), some (.cells true (zsV .u8 kT1)), some (.cells true (zsV .u8 kT2)), some (.cells true (mskVs (fnO 7 []) (frm.map (V.int .u32)))), some (.obj (.log (logOf none))), none, none])))
set_option maxRecDepth 1000000 in
theorem treeCN17_eq (frm l : List Int) : codeT (callT (mkXT pxLW oxLW) (mkXP pxLW) (mkX pxLW oxLW) D (fun _ => noOrc) (fun _ => []) 12) (callN (mkX pxLW oxLW) D 12) (mkXP pxLW) orcCN17 [] noLt 4 (lpC17) ((loopC17 frm l).t0 none) [] ((loopC17 frm l).h0 none) (loopC17 frm l).end_ = treeCN17 frm l := by kernel_rfl
def treeCS17 (frm l : List Int) (j : Nat) : DT (Ex × Snap) :=
  .node (decide ((((j : Nat) : Int) : Int) < ((l.length : Nat) : Int))) (
    .ob (2 = 2 ∧ 0 ≤ (((j : Nat) : Int) : Int) ∧ (((j : Nat) : Int) : Int) < ((l.length : Nat) : Int)) (
    .ob ((cellAt ((l.map mkD).flatMap Gw.Device.vs) ((0 + (((j : Nat) : Int) : Int).toNat * 2) + 0)) = some (.int .u32 ((l.map mkD).getD (((j : Nat) : Int) : Int).toNat {}).id)) (
    .ob (1 = 1 ∧ 0 ≤ (((j : Nat) : Int) : Int) ∧ (((j : Nat) : Int) : Int) < ((l.length : Nat) : Int)) (
    .ob ((cellAt (l.map (V.int .u32)) (0 + (((j : Nat) : Int) : Int).toNat * 1)) = some (.int .u32 (l.getD (((j : Nat) : Int) : Int).toNat 0))) (
    .node ((((l.map mkD).getD (((j : Nat) : Int) : Int).toNat {}).id : Int) != (l.getD (((j : Nat) : Int) : Int).toNat 0)) (
      .leaf (.ret, ([], [some (.cells true (zsV .u8 kT0)), some (.cells true (zsV .u8 kT1)), some (.cells true (zsV .u8 kT2)), some (.cells true (mskVs (fnO 5 []) (frm.map (V.int .u32)))), some (.obj (.log (logOf (some l))))]))) (
      .leaf (.normal, ([.ptr 4 0, .slice 5 0 l.length 1 none, .slice 6 0 l.length 2 none, .int .i64 ((l.length : Nat) : Int), .int .i64 (wrapK .i64 (((j : Nat) : Int) + 1))], [some (.cells true (zsV .u8 kT0)), some (.cells true (zsV .u8 kT1)), some (.cells true (zsV .u8 kT2)), some (.cells true (mskVs (fnO 7 []) (frm.map (V.int .u32)))), some (.obj (.log (logOf (some l)))), some (.cells false (mskVs (fnO 7 []) (l.map (V.int .u32)))), some (.obj (.devs (l.map mkD)))])))))))) (
    .leaf ((.exit 4), ([.ptr 4 0], [some (.cells true (zsV .u8 kT0)), some (.cells true (zsV .u8 kT1)), some (.cells true (zsV .u8 kT2)), some (.cells true (mskVs (fnO 7 []) (frm.map (V.int .u32)))), some (.obj (.log (logOf (some l)))), some (.cells false (mskVs (fnO 7 []) (l.map (V.int .u32)))), some (.obj (.devs (l.map mkD)))])))
set_option maxRecDepth 1000000 in
theorem treeCS17_eq (frm l : List Int) (j : Nat) : codeT (callT (mkXT pxLW oxLW) (mkXP pxLW) (mkX pxLW oxLW) D (fun _ => noOrc) (fun _ => []) 12) (callN (mkX pxLW oxLW) D 12) (mkXP pxLW) (orcCS17 frm l j) [] noLt 4 (lpC17) ((loopC17 frm l).t0 (some j)) [] ((loopC17 frm l).h0 (some j)) (loopC17 frm l).end_ = treeCS17 frm l j := by kernel_rfl
noncomputable def ltF17 (frm : List Int) : Lt := fun k => match k with | 0 => (loopA17 frm).lt | 4 => (loopC17 frm ((wsG frm 0 none).getD [])).lt | _ => fun _ _ => .fail
def treeF17 (frm : List Int) : DT V :=
  .ob ((([.slice 3 0 frm.length 1 none, .ptr 4 0, .nils, .int .i64 0], [some (.cells true (zsV .u8 kT0)), some (.cells true (zsV .u8 kT1)), some (.cells true (zsV .u8 kT2)), some (.cells true (mskVs (fnO 5 [none]) (frm.map (V.int .u32)))), some (.obj (.log ⟨0, none, none, none⟩)), none]) : Snap) = (loopA17 frm).S (0, none)) (
  .ob (invA frm (0, none)) (
  .node (wsG frm 0 none).isNone (
    .ob (okLogW 12 (logOf none)) (
    .node ((logOf none) : Gw.Log).devs.isSome (
      .node (((((Option.getD ((logOf none) : Gw.Log).devs []).length : Nat) : Int) : Int) != 0) (
        .leaf (.bool false)) (
        .ob ((([.ptr 4 0, .nils, .slice 6 0 (Option.getD ((logOf none) : Gw.Log).devs []).length 2 none, .int .i64 (((Option.getD ((logOf none) : Gw.Log).devs []).length : Nat) : Int), .int .i64 0], [some (.cells true (zsV .u8 kT0)), some (.cells true (zsV .u8 kT1)), some (.cells true (zsV .u8 kT2)), some (.cells true (mskVs (fnO 7 []) (frm.map (V.int .u32)))), some (.obj (.log (logOf none))), none, some (.obj (.devs (Option.getD ((logOf none) : Gw.Log).devs [])))]) : Snap) = (loopC17 frm ((wsG frm 0 none).getD [])).S (some 0)) (
        .ob ((Option.getD ((some 0) : Option Nat) 0) ≤ (((wsG frm 0 none).getD []) : List Int).length ∧ (((wsG frm 0 none).getD []) : List Int).length ≤ 12) (
        .ob (okLogW 12 (logOf (some ((wsG frm 0 none).getD [])))) (
        .node false (
          .leaf (.bool true)) (
          .leaf (.bool true))))))) (
      .node false (
        .leaf (.bool false)) (
        .ob ((([.ptr 4 0, .nils, .nils, .int .i64 0, .int .i64 0], [some (.cells true (zsV .u8 kT0)), some (.cells true (zsV .u8 kT1)), some (.cells true (zsV .u8 kT2)), some (.cells true (mskVs (fnO 7 []) (frm.map (V.int .u32)))), some (.obj (.log (logOf none))), none, none]) : Snap) = (loopC17 frm ((wsG frm 0 none).getD [])).S none) (
        .ob ((Option.getD (none : Option Nat) 0) ≤ (((wsG frm 0 none).getD []) : List Int).length ∧ (((wsG frm 0 none).getD []) : List Int).length ≤ 12) (
        .ob (okLogW 12 (logOf none)) (
        .node false (
          .leaf (.bool true)) (
          .leaf (.bool true))))))))) (
    .ob (okLogW 12 (logOf (some ((wsG frm 0 none).getD [])))) (
    .node ((logOf (some ((wsG frm 0 none).getD []))) : Gw.Log).devs.isSome (
      .node (((((Option.getD ((logOf (some ((wsG frm 0 none).getD []))) : Gw.Log).devs []).length : Nat) : Int) : Int) != ((((wsG frm 0 none).getD []).length : Nat) : Int)) (
        .leaf (.bool false)) (
        .ob ((([.ptr 4 0, .slice 5 0 ((wsG frm 0 none).getD []).length 1 none, .slice 6 0 (Option.getD ((logOf (some ((wsG frm 0 none).getD []))) : Gw.Log).devs []).length 2 none, .int .i64 (((Option.getD ((logOf (some ((wsG frm 0 none).getD []))) : Gw.Log).devs []).length : Nat) : Int), .int .i64 0], [some (.cells true (zsV .u8 kT0)), some (.cells true (zsV .u8 kT1)), some (.cells true (zsV .u8 kT2)), some (.cells true (mskVs (fnO 7 []) (frm.map (V.int .u32)))), some (.obj (.log (logOf (some ((wsG frm 0 none).getD []))))), some (.cells false (mskVs (fnO 7 []) (((wsG frm 0 none).getD []).map (V.int .u32)))), some (.obj (.devs (Option.getD ((logOf (some ((wsG frm 0 none).getD []))) : Gw.Log).devs [])))]) : Snap) = (loopC17 frm ((wsG frm 0 none).getD [])).S (some 0)) (
        .ob ((Option.getD ((some 0) : Option Nat) 0) ≤ (((wsG frm 0 none).getD []) : List Int).length ∧ (((wsG frm 0 none).getD []) : List Int).length ≤ 12) (
        .ob (okLogW 12 (logOf (some ((wsG frm 0 none).getD [])))) (
        .node false (
          .leaf (.bool true)) (
          .leaf (.bool true))))))) (
      .node ((0 : Int) != ((((wsG frm 0 none).getD []).length : Nat) : Int)) (
        .leaf (.bool false)) (
        .ob ((([.ptr 4 0, .slice 5 0 ((wsG frm 0 none).getD []).length 1 none, .nils, .int .i64 0, .int .i64 0], [some (.cells true (zsV .u8 kT0)), some (.cells true (zsV .u8 kT1)), some (.cells true (zsV .u8 kT2)), some (.cells true (mskVs (fnO 7 []) (frm.map (V.int .u32)))), some (.obj (.log (logOf (some ((wsG frm 0 none).getD []))))), some (.cells false (mskVs (fnO 7 []) (((wsG frm 0 none).getD []).map (V.int .u32)))), none]) : Snap) = (loopC17 frm ((wsG frm 0 none).getD [])).S none) (
        .ob ((Option.getD (none : Option Nat) 0) ≤ (((wsG frm 0 none).getD []) : List Int).length ∧ (((wsG frm 0 none).getD []) : List Int).length ≤ 12) (
        .ob (okLogW 12 (logOf none)) (
        .node false (
          .leaf (.bool true)) (
          .leaf (.bool true)))))))))))
set_option maxRecDepth 1000000 in
theorem treeF17_eq (frm : List Int) : funT (mkXT pxLW oxLW) (mkXP pxLW) (mkX pxLW oxLW) D (fun _ => noOrc) (fun k => match k with | 17 => [13, 99] | _ => []) 11 noOrc [13, 99] (ltF17 frm) (dOf 17) [.slice 3 0 frm.length 1 none] ((tabH kT0 kT1 kT2 4).put 3 (some (.cells true (frm.map (V.int .u32))))) (fun v _ => v) = treeF17 frm := by kernel_rfl
end Go.Proofs.YtjnhaaolbcmdbaaGreatDoor
