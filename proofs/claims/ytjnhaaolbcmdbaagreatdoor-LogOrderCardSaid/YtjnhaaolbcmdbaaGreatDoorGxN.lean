/- Kinds of runes; the rune at the front of a text. -/
import Derived.Test.YtjnhaaolbcmdbaaGreatDoorGxK5
namespace Go.Proofs.YtjnhaaolbcmdbaaGreatDoor
open Go Gw Go.RowKit
set_option linter.unusedSimpArgs false
set_option linter.unusedVariables false
def kindOf (r : Int) : Int :=
  if (97 ≤ r ∧ r ≤ 122) ∨ (65 ≤ r ∧ r ≤ 90) then 1
  else if 48 ≤ r ∧ r ≤ 57 then 2
  else if 32 ≤ r ∧ r ≤ 126 then 3
  else if 160 ≤ r ∧ r ≤ 1114111 ∧ r ≠ 65533 ∧ (r < 55296 ∨ 57343 < r) then 4
  else 0
def pKind : List V → Option V
  | [.int .i32 r] => some (.int .i64 (kindOf r))
  | _ => none
def pKindR : List V → Option V
  | [.int .i64 r] => some (.int .i64 (kindOf r))
  | _ => none
def tree70 (r : Int) : DT V :=
  .ob (((decide ((r : Int) ≥ 97)) == true) = true → ((True) ∧ ((True) ∧ (True)))) (
  .node ((cond ((decide ((r : Int) ≥ 97)) == true) (decide ((r : Int) ≤ 122)) false) == false) (
    .node ((decide ((r : Int) ≥ 65)) == true) (
      .node (decide ((r : Int) ≤ 90)) (
        .leaf (.int .i64 1)) (
        .ob (((decide ((r : Int) ≥ 48)) == true) = true → ((True) ∧ ((True) ∧ (True)))) (
        .node (cond ((decide ((r : Int) ≥ 48)) == true) (decide ((r : Int) ≤ 57)) false) (
          .leaf (.int .i64 2)) (
          .ob (((decide ((r : Int) ≥ 32)) == true) = true → ((True) ∧ ((True) ∧ (True)))) (
          .node (cond ((decide ((r : Int) ≥ 32)) == true) (decide ((r : Int) ≤ 126)) false) (
            .leaf (.int .i64 3)) (
            .ob (((decide ((r : Int) ≥ 160)) == true) = true → ((True) ∧ ((True) ∧ (True)))) (
            .node ((cond ((decide ((r : Int) ≥ 160)) == true) ((r : Int) != 65533) false) == true) (
              .ob (((decide ((0 : Int) ≤ r)) == true) = true → ((True) ∧ ((True) ∧ (True)))) (
              .node (cond ((decide ((0 : Int) ≤ r)) == true) (decide ((r : Int) < 55296)) false) (
                .leaf (.int .i64 4)) (
                .ob (((decide ((57343 : Int) < r)) == true) = true → ((True) ∧ ((True) ∧ (True)))) (
                .node (cond ((decide ((57343 : Int) < r)) == true) (decide ((r : Int) ≤ 1114111)) false) (
                  .leaf (.int .i64 4)) (
                  .leaf (.int .i64 0)))))) (
              .leaf (.int .i64 0))))))))) (
      .ob (((decide ((r : Int) ≥ 48)) == true) = true → ((True) ∧ ((True) ∧ (True)))) (
      .node (cond ((decide ((r : Int) ≥ 48)) == true) (decide ((r : Int) ≤ 57)) false) (
        .leaf (.int .i64 2)) (
        .ob (((decide ((r : Int) ≥ 32)) == true) = true → ((True) ∧ ((True) ∧ (True)))) (
        .node (cond ((decide ((r : Int) ≥ 32)) == true) (decide ((r : Int) ≤ 126)) false) (
          .leaf (.int .i64 3)) (
          .ob (((decide ((r : Int) ≥ 160)) == true) = true → ((True) ∧ ((True) ∧ (True)))) (
          .node ((cond ((decide ((r : Int) ≥ 160)) == true) ((r : Int) != 65533) false) == true) (
            .ob (((decide ((0 : Int) ≤ r)) == true) = true → ((True) ∧ ((True) ∧ (True)))) (
            .node (cond ((decide ((0 : Int) ≤ r)) == true) (decide ((r : Int) < 55296)) false) (
              .leaf (.int .i64 4)) (
              .ob (((decide ((57343 : Int) < r)) == true) = true → ((True) ∧ ((True) ∧ (True)))) (
              .node (cond ((decide ((57343 : Int) < r)) == true) (decide ((r : Int) ≤ 1114111)) false) (
                .leaf (.int .i64 4)) (
                .leaf (.int .i64 0)))))) (
            .leaf (.int .i64 0))))))))) (
    .leaf (.int .i64 1)))
set_option maxRecDepth 1000000 in
theorem tree70_eq (r : Int) : funT (mkXT noPX noOX) (mkXP noPX) (mkX noPX noOX) D (fun _ => noOrc) (fun k => match k with | 70 => [41] | _ => []) 5 noOrc [41] noLt (dOf 70) [.int .i32 r] (smallH []) (fun v _ => v) = tree70 r := by kernel_rfl
theorem ans70 : AnsO Tryz.prog 70 (gP pKind) := by
  refine ansP fun args v h => ?_
  unfold pKind at h
  split at h
  · rename_i r
    simp only [Option.some.injEq] at h
    subst h
    refine ⟨rfl, rfl, run_plain mixed TabX.nil tabD (dIs (by kernel_rfl)) (by kernel_rfl) (tree70_eq r) (Q := fun v => v = .int .i64 (kindOf r)) ?_⟩
    simp [tree70, DT.sat, kindOf]
    grind
  · cases h
def tree72 (r : Int) : DT V :=
  .ob (((decide ((r : Int) ≥ 97)) == true) = true → ((True) ∧ ((True) ∧ (True)))) (
  .node ((cond ((decide ((r : Int) ≥ 97)) == true) (decide ((r : Int) ≤ 122)) false) == false) (
    .node ((decide ((r : Int) ≥ 65)) == true) (
      .node (decide ((r : Int) ≤ 90)) (
        .leaf (.int .i64 1)) (
        .ob (((decide ((r : Int) ≥ 48)) == true) = true → ((True) ∧ ((True) ∧ (True)))) (
        .node (cond ((decide ((r : Int) ≥ 48)) == true) (decide ((r : Int) ≤ 57)) false) (
          .leaf (.int .i64 2)) (
          .ob (((decide ((r : Int) ≥ 32)) == true) = true → ((True) ∧ ((True) ∧ (True)))) (
          .node (cond ((decide ((r : Int) ≥ 32)) == true) (decide ((r : Int) ≤ 126)) false) (
            .leaf (.int .i64 3)) (
            .ob (((decide ((r : Int) ≥ 160)) == true) = true → ((True) ∧ ((True) ∧ (True)))) (
            .ob (((cond ((decide ((r : Int) ≥ 160)) == true) (decide ((r : Int) ≤ 1114111)) false) == true) = true → ((True) ∧ ((True) ∧ (True)))) (
            .node ((cond ((cond ((decide ((r : Int) ≥ 160)) == true) (decide ((r : Int) ≤ 1114111)) false) == true) ((r : Int) != 65533) false) == true) (
              .node ((decide ((r : Int) < 55296)) == false) (
                .node (decide ((r : Int) > 57343)) (
                  .leaf (.int .i64 4)) (
                  .leaf (.int .i64 0))) (
                .leaf (.int .i64 4))) (
              .leaf (.int .i64 0)))))))))) (
      .ob (((decide ((r : Int) ≥ 48)) == true) = true → ((True) ∧ ((True) ∧ (True)))) (
      .node (cond ((decide ((r : Int) ≥ 48)) == true) (decide ((r : Int) ≤ 57)) false) (
        .leaf (.int .i64 2)) (
        .ob (((decide ((r : Int) ≥ 32)) == true) = true → ((True) ∧ ((True) ∧ (True)))) (
        .node (cond ((decide ((r : Int) ≥ 32)) == true) (decide ((r : Int) ≤ 126)) false) (
          .leaf (.int .i64 3)) (
          .ob (((decide ((r : Int) ≥ 160)) == true) = true → ((True) ∧ ((True) ∧ (True)))) (
          .ob (((cond ((decide ((r : Int) ≥ 160)) == true) (decide ((r : Int) ≤ 1114111)) false) == true) = true → ((True) ∧ ((True) ∧ (True)))) (
          .node ((cond ((cond ((decide ((r : Int) ≥ 160)) == true) (decide ((r : Int) ≤ 1114111)) false) == true) ((r : Int) != 65533) false) == true) (
            .node ((decide ((r : Int) < 55296)) == false) (
              .node (decide ((r : Int) > 57343)) (
                .leaf (.int .i64 4)) (
                .leaf (.int .i64 0))) (
              .leaf (.int .i64 4))) (
            .leaf (.int .i64 0)))))))))) (
    .leaf (.int .i64 1)))
set_option maxRecDepth 1000000 in
theorem tree72_eq (r : Int) : funT (mkXT noPX noOX) (mkXP noPX) (mkX noPX noOX) D (fun _ => noOrc) (fun _ => []) 5 noOrc [] noLt (dOf 72) [.int .i64 r] (smallH []) (fun v _ => v) = tree72 r := by kernel_rfl
theorem ans72 : AnsO Tryz.prog 72 (gP pKindR) := by
  refine ansP fun args v h => ?_
  unfold pKindR at h
  split at h
  · rename_i r
    simp only [Option.some.injEq] at h
    subst h
    refine ⟨rfl, rfl, run_plain mixed TabX.nil tabD (dIs (by kernel_rfl)) (by kernel_rfl) (tree72_eq r) (Q := fun v => v = .int .i64 (kindOf r)) ?_⟩
    simp [tree72, DT.sat, kindOf]
    grind
  · cases h
def r1end (n : Int) (least r : Int) : Int × Int × Bool := if r < least ∨ (55296 ≤ r ∧ r < 57344) ∨ 1114111 < r then (0, 1, false) else (r, n, true)
def byteOf (s : Str) (i : Nat) : Int := (((s.getD i 0).toNat : Nat) : Int)
def r1cont (s : Str) (i : Nat) : Bool := decide (i < s.length) && decide (128 ≤ byteOf s i) && decide (byteOf s i < 192)
def r1acc (s : Str) : Nat → Nat → Int → Int
  | 0, _, r => r
  | f + 1, i, r => r1acc s f (i + 1) (r * 64 + byteOf s i - 128)
def r1ok (s : Str) : Nat → Nat → Bool
  | 0, _ => true
  | f + 1, i => r1cont s i && r1ok s f (i + 1)
def r1fin (s : Str) (n : Nat) (least r : Int) : Int × Int × Bool := if r1ok s (n - 1) 1 = true then r1end n least (r1acc s (n - 1) 1 r) else (0, 1, false)
def r1 (s : Str) : Int × Int × Bool :=
  if byteOf s 0 < 128 then (byteOf s 0, 1, true)
  else if 194 ≤ byteOf s 0 ∧ byteOf s 0 < 224 then r1fin s 2 128 (byteOf s 0 - 192)
  else if 224 ≤ byteOf s 0 ∧ byteOf s 0 < 240 then r1fin s 3 2048 (byteOf s 0 - 224)
  else if 240 ≤ byteOf s 0 ∧ byteOf s 0 < 245 then r1fin s 4 65536 (byteOf s 0 - 240)
  else (0, 1, false)
def pR1 : List V → Option V
  | [.str (b :: t)] => some (.tup [.int .i64 (r1 (b :: t)).1, .int .i64 (r1 (b :: t)).2.1, .bool (r1 (b :: t)).2.2])
  | _ => none
noncomputable def lpOf71 : DC := lpOf 71 0
structure St71 where
  n : Nat
  least : Int
  r : Int
  i : Nat
def inv71 (x : St71) : Prop := 1 ≤ x.i ∧ x.i ≤ x.n ∧ x.n ≤ 4 ∧ 0 ≤ x.r ∧ x.r < 2 ^ (6 * x.i)
def loop71 (s : Str) : LoopD St71 where
  nt := 91
  fr := fun ex => match ex with | .normal => ⟨[0, 6, 7, 8, 9], 3, []⟩ | .exit _ => ⟨[6, 7, 8], 3, []⟩ | .ret => ⟨[2, 3, 4], 3, []⟩
  S := fun x => ([.str s, .int .i64 (x.n : Int), .int .i64 x.least, .int .i64 x.r, .int .i64 (x.i : Int)], [some .dead, some .dead, some .dead])
  out := fun x => .ob (inv71 x) (.node (r1ok s (x.n - x.i) x.i) (.leaf (.exit 1, ([.int .i64 (x.n : Int), .int .i64 x.least, .int .i64 (r1acc s (x.n - x.i) x.i x.r)], [some .dead, some .dead, some .dead]))) (.leaf (.ret, ([.int .i64 0, .int .i64 1, .bool false], [some .dead, some .dead, some .dead]))))
  pick := fun p => match p.1 with
    | [_, .int _ n, .int _ l, .int _ r, _] => ⟨n.toNat, l, r, 1⟩
    | _ => ⟨0, 0, 0, 0⟩
def tree71L (s : Str) (x : St71) : DT (Ex × Snap) :=
  .node (decide ((((x.i : Nat) : Int) : Int) < ((x.n : Nat) : Int))) (
    .ob (((decide ((((x.i : Nat) : Int) : Int) ≥ ((s : Str).length : Int))) == false) = true → ((True) ∧ ((True) ∧ ((0 ≤ (((x.i : Nat) : Int) : Int) ∧ (((x.i : Nat) : Int) : Int) < (((s : Str).length : Nat) : Int)) ∧ ((True) ∧ (True)))))) (
    .ob (((cond ((decide ((((x.i : Nat) : Int) : Int) ≥ ((s : Str).length : Int))) == false) (decide ((((((s : Str).getD (((x.i : Nat) : Int) : Int).toNat 0).toNat : Nat) : Int) : Int) < 128)) true) == false) = true → ((True) ∧ ((True) ∧ ((0 ≤ (((x.i : Nat) : Int) : Int) ∧ (((x.i : Nat) : Int) : Int) < (((s : Str).length : Nat) : Int)) ∧ ((True) ∧ (True)))))) (
    .node (cond ((cond ((decide ((((x.i : Nat) : Int) : Int) ≥ ((s : Str).length : Int))) == false) (decide ((((((s : Str).getD (((x.i : Nat) : Int) : Int).toNat 0).toNat : Nat) : Int) : Int) < 128)) true) == false) (decide ((((((s : Str).getD (((x.i : Nat) : Int) : Int).toNat 0).toNat : Nat) : Int) : Int) ≥ 192)) true) (
      .leaf (.ret, ([.int .i64 0, .int .i64 1, .bool false], [some .dead, some .dead, some .dead]))) (
      .ob (0 ≤ (((x.i : Nat) : Int) : Int) ∧ (((x.i : Nat) : Int) : Int) < (((s : Str).length : Nat) : Int)) (
      .leaf (.normal, ([.str s, .int .i64 ((x.n : Nat) : Int), .int .i64 x.least, .int .i64 (wrapK .i64 ((wrapK .i64 ((wrapK .i64 (x.r * 64)) + (wrapK .i64 ((((s : Str).getD (((x.i : Nat) : Int) : Int).toNat 0).toNat : Nat) : Int)))) - 128)), .int .i64 (wrapK .i64 (((x.i : Nat) : Int) + 1))], [some .dead, some .dead, some .dead]))))))) (
    .leaf ((.exit 1), ([.int .i64 ((x.n : Nat) : Int), .int .i64 x.least, .int .i64 x.r], [some .dead, some .dead, some .dead])))
set_option maxRecDepth 1000000 in
theorem tree71L_eq (s : Str) (x : St71) : codeT (callT (mkXT noPX noOX) (mkXP noPX) (mkX noPX noOX) D (fun _ => noOrc) (fun _ => []) 6) (callN (mkX noPX noOX) D 6) (mkXP noPX) noOrc [] noLt 1 (lpOf 71 0) ((loop71 s).t0 x) [] ((loop71 s).h0 x) (loop71 s).end_ = tree71L s x := by kernel_rfl
def tree71 (s : Str) : DT V :=
  .ob (0 ≤ (0 : Int) ∧ (0 : Int) < (((s : Str).length : Nat) : Int)) (
  .node (decide (((wrapK .i64 ((((s : Str).getD (0 : Int).toNat 0).toNat : Nat) : Int)) : Int) < 128)) (
    .leaf (.tup [.int .i64 (wrapK .i64 ((((s : Str).getD (0 : Int).toNat 0).toNat : Nat) : Int)), .int .i64 1, .bool true])) (
    .ob (((decide (((wrapK .i64 ((((s : Str).getD (0 : Int).toNat 0).toNat : Nat) : Int)) : Int) ≥ 194)) == true) = true → ((True) ∧ ((True) ∧ (True)))) (
    .node (cond ((decide (((wrapK .i64 ((((s : Str).getD (0 : Int).toNat 0).toNat : Nat) : Int)) : Int) ≥ 194)) == true) (decide (((wrapK .i64 ((((s : Str).getD (0 : Int).toNat 0).toNat : Nat) : Int)) : Int) < 224)) false) (
      .ob ((([.str s, .int .i64 2, .int .i64 128, .int .i64 (wrapK .i64 ((wrapK .i64 ((((s : Str).getD (0 : Int).toNat 0).toNat : Nat) : Int)) - 192)), .int .i64 1], [some .dead, some .dead, some .dead]) : Snap) = (loop71 s).S ⟨2, 128, (wrapK .i64 ((wrapK .i64 ((((s : Str).getD (0 : Int).toNat 0).toNat : Nat) : Int)) - 192)), 1⟩) (
      .ob (inv71 ⟨2, 128, (wrapK .i64 ((wrapK .i64 ((((s : Str).getD (0 : Int).toNat 0).toNat : Nat) : Int)) - 192)), 1⟩) (
      .node (r1ok s (2 - 1) 1) (
        .node ((decide (((r1acc s (2 - 1) 1 (wrapK .i64 ((wrapK .i64 ((((s : Str).getD (0 : Int).toNat 0).toNat : Nat) : Int)) - 192))) : Int) < 128)) == false) (
          .node ((decide (((r1acc s (2 - 1) 1 (wrapK .i64 ((wrapK .i64 ((((s : Str).getD (0 : Int).toNat 0).toNat : Nat) : Int)) - 192))) : Int) ≥ 55296)) == true) (
            .ob (((decide (((r1acc s (2 - 1) 1 (wrapK .i64 ((wrapK .i64 ((((s : Str).getD (0 : Int).toNat 0).toNat : Nat) : Int)) - 192))) : Int) < 57344)) == false) = true → ((True) ∧ ((True) ∧ (True)))) (
            .node (cond ((decide (((r1acc s (2 - 1) 1 (wrapK .i64 ((wrapK .i64 ((((s : Str).getD (0 : Int).toNat 0).toNat : Nat) : Int)) - 192))) : Int) < 57344)) == false) (decide (((r1acc s (2 - 1) 1 (wrapK .i64 ((wrapK .i64 ((((s : Str).getD (0 : Int).toNat 0).toNat : Nat) : Int)) - 192))) : Int) > 1114111)) true) (
              .leaf (.tup [.int .i64 0, .int .i64 1, .bool false])) (
              .leaf (.tup [.int .i64 (r1acc s (2 - 1) 1 (wrapK .i64 ((wrapK .i64 ((((s : Str).getD (0 : Int).toNat 0).toNat : Nat) : Int)) - 192))), .int .i64 2, .bool true])))) (
            .node (decide (((r1acc s (2 - 1) 1 (wrapK .i64 ((wrapK .i64 ((((s : Str).getD (0 : Int).toNat 0).toNat : Nat) : Int)) - 192))) : Int) > 1114111)) (
              .leaf (.tup [.int .i64 0, .int .i64 1, .bool false])) (
              .leaf (.tup [.int .i64 (r1acc s (2 - 1) 1 (wrapK .i64 ((wrapK .i64 ((((s : Str).getD (0 : Int).toNat 0).toNat : Nat) : Int)) - 192))), .int .i64 2, .bool true])))) (
          .leaf (.tup [.int .i64 0, .int .i64 1, .bool false]))) (
        .leaf (.tup [.int .i64 0, .int .i64 1, .bool false]))))) (
      .ob (((decide (((wrapK .i64 ((((s : Str).getD (0 : Int).toNat 0).toNat : Nat) : Int)) : Int) ≥ 224)) == true) = true → ((True) ∧ ((True) ∧ (True)))) (
      .node (cond ((decide (((wrapK .i64 ((((s : Str).getD (0 : Int).toNat 0).toNat : Nat) : Int)) : Int) ≥ 224)) == true) (decide (((wrapK .i64 ((((s : Str).getD (0 : Int).toNat 0).toNat : Nat) : Int)) : Int) < 240)) false) (
        .ob ((([.str s, .int .i64 3, .int .i64 2048, .int .i64 (wrapK .i64 ((wrapK .i64 ((((s : Str).getD (0 : Int).toNat 0).toNat : Nat) : Int)) - 224)), .int .i64 1], [some .dead, some .dead, some .dead]) : Snap) = (loop71 s).S ⟨3, 2048, (wrapK .i64 ((wrapK .i64 ((((s : Str).getD (0 : Int).toNat 0).toNat : Nat) : Int)) - 224)), 1⟩) (
        .ob (inv71 ⟨3, 2048, (wrapK .i64 ((wrapK .i64 ((((s : Str).getD (0 : Int).toNat 0).toNat : Nat) : Int)) - 224)), 1⟩) (
        .node (r1ok s (3 - 1) 1) (
          .node ((decide (((r1acc s (3 - 1) 1 (wrapK .i64 ((wrapK .i64 ((((s : Str).getD (0 : Int).toNat 0).toNat : Nat) : Int)) - 224))) : Int) < 2048)) == false) (
            .node ((decide (((r1acc s (3 - 1) 1 (wrapK .i64 ((wrapK .i64 ((((s : Str).getD (0 : Int).toNat 0).toNat : Nat) : Int)) - 224))) : Int) ≥ 55296)) == true) (
              .ob (((decide (((r1acc s (3 - 1) 1 (wrapK .i64 ((wrapK .i64 ((((s : Str).getD (0 : Int).toNat 0).toNat : Nat) : Int)) - 224))) : Int) < 57344)) == false) = true → ((True) ∧ ((True) ∧ (True)))) (
              .node (cond ((decide (((r1acc s (3 - 1) 1 (wrapK .i64 ((wrapK .i64 ((((s : Str).getD (0 : Int).toNat 0).toNat : Nat) : Int)) - 224))) : Int) < 57344)) == false) (decide (((r1acc s (3 - 1) 1 (wrapK .i64 ((wrapK .i64 ((((s : Str).getD (0 : Int).toNat 0).toNat : Nat) : Int)) - 224))) : Int) > 1114111)) true) (
                .leaf (.tup [.int .i64 0, .int .i64 1, .bool false])) (
                .leaf (.tup [.int .i64 (r1acc s (3 - 1) 1 (wrapK .i64 ((wrapK .i64 ((((s : Str).getD (0 : Int).toNat 0).toNat : Nat) : Int)) - 224))), .int .i64 3, .bool true])))) (
              .node (decide (((r1acc s (3 - 1) 1 (wrapK .i64 ((wrapK .i64 ((((s : Str).getD (0 : Int).toNat 0).toNat : Nat) : Int)) - 224))) : Int) > 1114111)) (
                .leaf (.tup [.int .i64 0, .int .i64 1, .bool false])) (
                .leaf (.tup [.int .i64 (r1acc s (3 - 1) 1 (wrapK .i64 ((wrapK .i64 ((((s : Str).getD (0 : Int).toNat 0).toNat : Nat) : Int)) - 224))), .int .i64 3, .bool true])))) (
            .leaf (.tup [.int .i64 0, .int .i64 1, .bool false]))) (
          .leaf (.tup [.int .i64 0, .int .i64 1, .bool false]))))) (
        .ob (((decide (((wrapK .i64 ((((s : Str).getD (0 : Int).toNat 0).toNat : Nat) : Int)) : Int) ≥ 240)) == true) = true → ((True) ∧ ((True) ∧ (True)))) (
        .node (cond ((decide (((wrapK .i64 ((((s : Str).getD (0 : Int).toNat 0).toNat : Nat) : Int)) : Int) ≥ 240)) == true) (decide (((wrapK .i64 ((((s : Str).getD (0 : Int).toNat 0).toNat : Nat) : Int)) : Int) < 245)) false) (
          .ob ((([.str s, .int .i64 4, .int .i64 65536, .int .i64 (wrapK .i64 ((wrapK .i64 ((((s : Str).getD (0 : Int).toNat 0).toNat : Nat) : Int)) - 240)), .int .i64 1], [some .dead, some .dead, some .dead]) : Snap) = (loop71 s).S ⟨4, 65536, (wrapK .i64 ((wrapK .i64 ((((s : Str).getD (0 : Int).toNat 0).toNat : Nat) : Int)) - 240)), 1⟩) (
          .ob (inv71 ⟨4, 65536, (wrapK .i64 ((wrapK .i64 ((((s : Str).getD (0 : Int).toNat 0).toNat : Nat) : Int)) - 240)), 1⟩) (
          .node (r1ok s (4 - 1) 1) (
            .node ((decide (((r1acc s (4 - 1) 1 (wrapK .i64 ((wrapK .i64 ((((s : Str).getD (0 : Int).toNat 0).toNat : Nat) : Int)) - 240))) : Int) < 65536)) == false) (
              .node ((decide (((r1acc s (4 - 1) 1 (wrapK .i64 ((wrapK .i64 ((((s : Str).getD (0 : Int).toNat 0).toNat : Nat) : Int)) - 240))) : Int) ≥ 55296)) == true) (
                .ob (((decide (((r1acc s (4 - 1) 1 (wrapK .i64 ((wrapK .i64 ((((s : Str).getD (0 : Int).toNat 0).toNat : Nat) : Int)) - 240))) : Int) < 57344)) == false) = true → ((True) ∧ ((True) ∧ (True)))) (
                .node (cond ((decide (((r1acc s (4 - 1) 1 (wrapK .i64 ((wrapK .i64 ((((s : Str).getD (0 : Int).toNat 0).toNat : Nat) : Int)) - 240))) : Int) < 57344)) == false) (decide (((r1acc s (4 - 1) 1 (wrapK .i64 ((wrapK .i64 ((((s : Str).getD (0 : Int).toNat 0).toNat : Nat) : Int)) - 240))) : Int) > 1114111)) true) (
                  .leaf (.tup [.int .i64 0, .int .i64 1, .bool false])) (
                  .leaf (.tup [.int .i64 (r1acc s (4 - 1) 1 (wrapK .i64 ((wrapK .i64 ((((s : Str).getD (0 : Int).toNat 0).toNat : Nat) : Int)) - 240))), .int .i64 4, .bool true])))) (
                .node (decide (((r1acc s (4 - 1) 1 (wrapK .i64 ((wrapK .i64 ((((s : Str).getD (0 : Int).toNat 0).toNat : Nat) : Int)) - 240))) : Int) > 1114111)) (
                  .leaf (.tup [.int .i64 0, .int .i64 1, .bool false])) (
                  .leaf (.tup [.int .i64 (r1acc s (4 - 1) 1 (wrapK .i64 ((wrapK .i64 ((((s : Str).getD (0 : Int).toNat 0).toNat : Nat) : Int)) - 240))), .int .i64 4, .bool true])))) (
              .leaf (.tup [.int .i64 0, .int .i64 1, .bool false]))) (
            .leaf (.tup [.int .i64 0, .int .i64 1, .bool false]))))) (
          .leaf (.tup [.int .i64 0, .int .i64 1, .bool false])))))))))
noncomputable def lt71 (s : Str) : Lt := fun _ => (loop71 s).lt
set_option maxRecDepth 1000000 in
theorem tree71_eq (s : Str) : funT (mkXT noPX noOX) (mkXP noPX) (mkX noPX noOX) D (fun _ => noOrc) (fun _ => []) 5 noOrc [] (lt71 s) (dOf 71) [.str s] (smallH []) (fun v _ => v) = tree71 s := by kernel_rfl
end Go.Proofs.YtjnhaaolbcmdbaaGreatDoor

/- The rune at the front of a text: its contract. -/
namespace Go.Proofs.YtjnhaaolbcmdbaaGreatDoor
open Go Gw Go.RowKit
set_option linter.unusedSimpArgs false
set_option linter.unusedVariables false

theorem byte_range (s : Str) (i : Nat) : 0 ≤ byteOf s i ∧ byteOf s i < 256 := by
  unfold byteOf
  have := (s.getD i 0).toNat_lt
  omega
theorem pow6 {i : Nat} (h : i ≤ 4) : (2 : Int) ^ (6 * i) ≤ 16777216 := by
  match i, h with
  | 0, _ => decide
  | 1, _ => decide
  | 2, _ => decide
  | 3, _ => decide
  | 4, _ => decide
theorem pow6_succ (i : Nat) : (2 : Int) ^ (6 * (i + 1)) = 64 * 2 ^ (6 * i) := by
  rw [Nat.mul_add, Int.pow_add]; omega
theorem round71 (s : Str) (x : St71) (Pr : Ex × Snap → Prop) (ho : ((loop71 s).out x).sat Pr) : (tree71L s x).sat ((loop71 s).next (fun x => x.n - x.i) x Pr) := by
  obtain ⟨⟨h1, h2, h3, h4, h5⟩, hP, hN⟩ := ho
  unfold tree71L
  simp only [DT.sat, Int.toNat_natCast]
  have hb := byte_range s x.i
  have hbe : (((s.getD x.i 0).toNat : Nat) : Int) = byteOf s x.i := rfl
  simp only [hbe]
  have hp := pow6 (i := x.i) (by omega)
  by_cases hlt : x.i < x.n
  · obtain ⟨m, hm⟩ : ∃ m, x.n - x.i = m + 1 := ⟨x.n - x.i - 1, by omega⟩
    rw [hm] at hP hN
    simp only [r1ok, r1acc] at hP hN
    refine ⟨fun _ => ?_, fun h => by simp at h; omega⟩
    by_cases hc : r1cont s x.i = true
    · have hc' := hc
      simp only [r1cont, Bool.and_eq_true, decide_eq_true_eq] at hc'
      obtain ⟨⟨a1, a2⟩, a3⟩ := hc'
      simp only [hc, Bool.true_and] at hP hN
      refine ⟨fun _ => ⟨trivial, trivial, ⟨by omega, by omega⟩, trivial, trivial⟩, fun _ => ⟨trivial, trivial, ⟨by omega, by omega⟩, trivial, trivial⟩, fun h => ?_, fun _ => ⟨⟨by omega, by omega⟩, ?_⟩⟩
      · exfalso
        have e1 : decide ((x.i : Int) ≥ (s.length : Int)) = false := by simp; omega
        have e2 : decide (byteOf s x.i < 128) = false := by simp; omega
        have e3 : decide (byteOf s x.i ≥ 192) = false := by simp; omega
        rw [e1, e2, e3] at h
        simp at h
      · have e1 : wrapK .i64 (wrapK .i64 (wrapK .i64 (x.r * 64) + wrapK .i64 (byteOf s x.i)) - 128) = x.r * 64 + byteOf s x.i - 128 := by
          rw [wrap64 (n := x.r * 64) (by omega) (by omega), wrap64 (n := byteOf s x.i) (by omega) (by omega), wrap64 (n := x.r * 64 + byteOf s x.i) (by omega) (by omega), wrap64 (by omega) (by omega)]
        have e2 : wrapK .i64 ((x.i : Int) + 1) = ((x.i + 1 : Nat) : Int) := by rw [wrap64 (by omega) (by omega)]; omega
        rw [e1, e2]
        refine ⟨⟨x.n, x.least, x.r * 64 + byteOf s x.i - 128, x.i + 1⟩, rfl, by simp only; omega, ⟨by simp only; omega, by simp only; omega, h3, by simp only; omega, ?_⟩, ?_⟩
        · simp only
          rw [pow6_succ]
          omega
        · have e3 : x.n - (x.i + 1) = m := by omega
          simp only [e3]
          exact ⟨hP, hN⟩
    · have hc' : r1cont s x.i = false := by simpa using hc
      simp only [hc', Bool.false_and] at hN
      have hn := hN trivial
      refine ⟨fun h => ⟨trivial, trivial, ⟨by omega, ?_⟩, trivial, trivial⟩, fun h => ⟨trivial, trivial, ⟨by omega, ?_⟩, trivial, trivial⟩, fun _ => hn, fun h => ?_⟩
      · simp at h; omega
      · by_cases hl : (x.i : Int) ≥ (s.length : Int)
        · simp [hl] at h
        · omega
      · exfalso
        apply hc
        by_cases hl : (x.i : Int) ≥ (s.length : Int)
        · simp [hl] at h
        · by_cases h128 : byteOf s x.i < 128
          · simp [hl, h128] at h
          · simp [hl, h128] at h
            simp [r1cont]
            omega
  · refine ⟨fun h => by simp at h; omega, fun _ => ?_⟩
    have e : x.n - x.i = 0 := by omega
    rw [e] at hP
    exact hP rfl
theorem inv71_1 {n : Nat} {l r : Int} (hn : 1 ≤ n ∧ n ≤ 4) (h0 : 0 ≤ r) (h1 : r < 64) : inv71 ⟨n, l, r, 1⟩ := ⟨Nat.le_refl 1, hn.1, hn.2, h0, h1⟩
theorem byte0 (s : Str) : (((s.getD (0 : Int).toNat 0).toNat : Nat) : Int) = byteOf s 0 := rfl
theorem wrapB (s : Str) (i : Nat) : wrapK .i64 (byteOf s i) = byteOf s i := by
  have := byte_range s i
  exact wrap64 (by omega) (by omega)
theorem sat71 (s : Str) (hs : s ≠ []) : (tree71 s).sat fun v => v = .tup [.int .i64 (r1 s).1, .int .i64 (r1 s).2.1, .bool (r1 s).2.2] := by
  unfold tree71
  rw [byte0]
  have hb := byte_range s 0
  have hl : 0 < s.length := List.length_pos_iff.2 hs
  simp only [wrapB]
  have r1e : ∀ k : Int, 0 ≤ byteOf s 0 - k → k ≤ 240 → 0 ≤ k → wrapK .i64 (byteOf s 0 - k) = byteOf s 0 - k := fun k h1 h2 h3 => wrap64 (by omega) (by omega)
  by_cases c0 : byteOf s 0 < 128
  · simp [DT.sat, c0, hl, r1]
  · by_cases c1 : 194 ≤ byteOf s 0 ∧ byteOf s 0 < 224
    · rw [r1e 192 (by omega) (by omega) (by omega)]
      simp only [DT.sat]
      have hr : r1 s = r1fin s 2 128 (byteOf s 0 - 192) := by simp [r1, c0, c1]
      rw [hr]
      refine ⟨by omega, fun h => by simp at h; omega, fun _ => ⟨fun _ => ⟨trivial, trivial, trivial⟩, fun _ => ⟨rfl, inv71_1 (by decide) (by omega) (by omega), ?_⟩, fun h => by simp [c1] at h⟩⟩
      unfold r1fin r1end
      generalize r1acc s (2 - 1) 1 (byteOf s 0 - 192) = a
      cases r1ok s (2 - 1) 1 <;> simp <;> grind
    · by_cases c2 : 224 ≤ byteOf s 0 ∧ byteOf s 0 < 240
      · rw [r1e 224 (by omega) (by omega) (by omega)]
        simp only [DT.sat]
        have hr : r1 s = r1fin s 3 2048 (byteOf s 0 - 224) := by simp [r1, c0, c1, c2]
        rw [hr]
        refine ⟨by omega, fun h => by simp at h; omega, fun _ => ⟨fun _ => ⟨trivial, trivial, trivial⟩, fun h => by simp at h; omega, fun _ => ⟨fun _ => ⟨trivial, trivial, trivial⟩, fun _ => ⟨rfl, inv71_1 (by decide) (by omega) (by omega), ?_⟩, fun h => by simp [c2] at h⟩⟩⟩
        unfold r1fin r1end
        generalize r1acc s (3 - 1) 1 (byteOf s 0 - 224) = a
        cases r1ok s (3 - 1) 1 <;> simp <;> grind
      · by_cases c3 : 240 ≤ byteOf s 0 ∧ byteOf s 0 < 245
        · rw [r1e 240 (by omega) (by omega) (by omega)]
          simp only [DT.sat]
          have hr : r1 s = r1fin s 4 65536 (byteOf s 0 - 240) := by simp [r1, c0, c1, c2, c3]
          rw [hr]
          refine ⟨by omega, fun h => by simp at h; omega, fun _ => ⟨fun _ => ⟨trivial, trivial, trivial⟩, fun h => by simp at h; omega, fun _ => ⟨fun _ => ⟨trivial, trivial, trivial⟩, fun h => by simp at h; omega, fun _ => ⟨fun _ => ⟨trivial, trivial, trivial⟩, fun _ => ⟨rfl, inv71_1 (by decide) (by omega) (by omega), ?_⟩, fun h => by simp [c3] at h⟩⟩⟩⟩
          unfold r1fin r1end
          generalize r1acc s (4 - 1) 1 (byteOf s 0 - 240) = a
          cases r1ok s (4 - 1) 1 <;> simp <;> grind
        · simp only [DT.sat]
          have hr : r1 s = (0, 1, false) := by simp [r1, c0, c1, c2, c3]
          rw [hr]
          refine ⟨by omega, fun h => by simp at h; omega, fun _ => ⟨fun _ => ⟨trivial, trivial, trivial⟩, fun h => by simp at h; omega, fun _ => ⟨fun _ => ⟨trivial, trivial, trivial⟩, fun h => by simp at h; omega, fun _ => ⟨fun _ => ⟨trivial, trivial, trivial⟩, fun h => by simp at h; omega, fun _ => rfl⟩⟩⟩⟩
theorem loops71 : loopsIn 0 (dOf 71).body = [(1, lpOf 71 0)] := by kernel_rfl
set_option maxRecDepth 1000000 in
theorem ans71 : AnsO Tryz.prog 71 (gP pR1) := by
  refine ansP fun args v h => ?_
  unfold pR1 at h
  split at h
  · rename_i b t
    · have hs : b :: t ≠ [] := by simp
      simp only [Option.some.injEq] at h
      subst h
      generalize b :: t = s at hs ⊢
      refine ⟨rfl, rfl, ?_⟩
      refine run_loops mixed TabX.nil tabD (dIs (by kernel_rfl)) (lt := lt71 s) (fun hint p hp => ?_) (tree71_eq s) (Q := fun v => v = .tup [.int .i64 (r1 s).1, .int .i64 (r1 s).2.1, .bool (r1 s).2.2]) (sat71 s hs)
      rw [loops71] at hp
      simp only [List.mem_cons, List.not_mem_nil, or_false] at hp
      subst hp
      exact LoopD.lt1 mixed TabX.nil tabD (loop71 s) (fun x => x.n - x.i) (fun ex => match ex with | .normal => ⟨Nat.le_refl 3, Nat.le_refl 3⟩ | .exit _ => ⟨Nat.le_refl 3, Nat.le_refl 3⟩ | .ret => ⟨Nat.le_refl 3, Nat.le_refl 3⟩) (by kernel_rfl) (tree71L_eq s) (round71 s)
  · cases h
end Go.Proofs.YtjnhaaolbcmdbaaGreatDoor

/- Names: nick.May and the document's MayNick. -/
namespace Go.Proofs.YtjnhaaolbcmdbaaGreatDoor
open Go Gw Go.RowKit
set_option linter.unusedSimpArgs false
set_option linter.unusedVariables false
def pxN : PTab := consP 72 pKindR (consP 71 pR1 (consP 70 pKind noPX))
theorem tabN : TabX Tryz.prog pxN noOX := ((TabX.nil.addP ans70).addP ans71).addP ans72
def stepOf (s : Str) (p : Nat) : Nat := (decodeL s p).2
def runeOf (s : Str) (p : Nat) : Int := (((decodeL s p).1 : Nat) : Int)
def nickL : Nat → Str → Bool
  | 0, _ => true
  | f + 1, u => if u = [] then true else (kindOf (runeOf u 0) != 0) && nickL f (u.drop (stepOf u 0))
def nickOk (s : Str) : Bool := nickL s.length s && decide (s.length ≤ 20)
def pNick : List V → Option V
  | [.str s] => some (.bool (nickOk s))
  | _ => none
def loop57 (s : Str) : LoopD (Nat × Nat) where
  nt := 16
  fr := fun ex => match ex with | .normal => ⟨[0, 6], 5, []⟩ | .exit _ => ⟨[0], 3, []⟩ | .ret => ⟨[2], 3, []⟩
  S := fun x => ([.str s, .ptr 4 0], [some .dead, some .dead, some .dead, none, some (.iter s x.2)])
  out := fun x => .ob (s.length - x.2 ≤ x.1) (.node (nickL x.1 (s.drop x.2)) (.leaf (.exit 0, ([.str s], [some .dead, some .dead, some .dead]))) (.leaf (.ret, ([.bool false], [some .dead, some .dead, some .dead]))))
  pick := fun _ => (s.length, 0)
def loop58 (s : Str) : LoopD (Nat × Str) where
  nt := 29
  fr := fun ex => match ex with | .normal => ⟨[0, 3], 3, []⟩ | .exit _ => ⟨[0], 3, []⟩ | .ret => ⟨[2], 3, []⟩
  S := fun x => ([.str s, .str x.2], [some .dead, some .dead, some .dead])
  out := fun x => .ob (x.2.length ≤ x.1) (.node (nickL x.1 x.2) (.leaf (.exit 0, ([.str s], [some .dead, some .dead, some .dead]))) (.leaf (.ret, ([.bool false], [some .dead, some .dead, some .dead]))))
  pick := fun _ => (s.length, s)
def tree57A (s : Str) (n p : Nat) : DT (Ex × Snap) :=
  .ob (nextV ((loop57 s).h0 (n, p)) (.ptr 4 0) = some (.tup [.bool true, .int .i64 (p : Int), .int .i32 (runeOf s p)], (((loop57 s).h0 (n, p)).put 4 (some (.iter s (p + stepOf s p)))))) (
  .node (((kindOf (runeOf s p)) : Int) == 0) (
    .leaf (.ret, ([.bool false], [some .dead, some .dead, some .dead]))) (
    .leaf (.normal, ([.str s, .ptr 4 0], [some .dead, some .dead, some .dead, none, some (.iter s (p + stepOf s p))]))))
def orc57A (s : Str) (p : Nat) : Orc := (fun k => match k with | 7 => some fun _ h => (.tup [.bool true, .int .i64 (p : Int), .int .i32 (runeOf s p)], h.put 4 (some (.iter s (p + stepOf s p)))) | _ => none)
set_option maxRecDepth 1000000 in
theorem tree57A_eq (s : Str) (n p : Nat) : codeT (callT (mkXT pxN noOX) (mkXP pxN) (mkX pxN noOX) D (fun _ => noOrc) (fun k => match k with | 57 => [8] | _ => []) 6) (callN (mkX pxN noOX) D 6) (mkXP pxN) (orc57A s p) [8] noLt 0 (lpOf 57 0) ((loop57 s).t0 (n, p)) [] ((loop57 s).h0 (n, p)) (loop57 s).end_ = tree57A s n p := by kernel_rfl
def tree57B (s : Str) (n p : Nat) : DT (Ex × Snap) :=
  .ob (nextV ((loop57 s).h0 (n, p)) (.ptr 4 0) = some (.tup [.bool false], ((loop57 s).h0 (n, p)))) (
  .leaf ((.exit 0), ([.str s], [some .dead, some .dead, some .dead])))
def orc57B (s : Str) (p : Nat) : Orc := (fun k => match k with | 7 => some fun _ h => (.tup [.bool false], h) | _ => none)
set_option maxRecDepth 1000000 in
theorem tree57B_eq (s : Str) (n p : Nat) : codeT (callT (mkXT pxN noOX) (mkXP pxN) (mkX pxN noOX) D (fun _ => noOrc) (fun k => match k with | 57 => [8] | _ => []) 6) (callN (mkX pxN noOX) D 6) (mkXP pxN) (orc57B s p) [8] noLt 0 (lpOf 57 0) ((loop57 s).t0 (n, p)) [] ((loop57 s).h0 (n, p)) (loop57 s).end_ = tree57B s n p := by kernel_rfl
def tree57 (s : Str) : DT V :=
  .ob ((([.str s, .ptr 4 0], [some .dead, some .dead, some .dead, none, some (.iter s 0)]) : Snap) = (loop57 s).S (s.length, 0)) (
  .ob (s.length - 0 ≤ s.length) (
  .node (nickL s.length (s.drop 0)) (
    .leaf (.bool (decide ((((s : Str).length : Int) : Int) ≤ 20)))) (
    .leaf (.bool false))))
noncomputable def lt57 (s : Str) : Lt := fun _ => (loop57 s).lt
set_option maxRecDepth 1000000 in
theorem tree57_eq (s : Str) : funT (mkXT pxN noOX) (mkXP pxN) (mkX pxN noOX) D (fun _ => noOrc) (fun _ => []) 5 noOrc [] (lt57 s) (dOf 57) [.str s] (smallH []) (fun v _ => v) = tree57 s := by kernel_rfl
def tree58C (s : Str) (b : UInt8) (t : Str) : DT (Ex × Snap) :=
  .node (!(((b :: t) : Str) == [])) (
    .ob (((!(r1 (b :: t)).2.2) == false) = true → ((True) ∧ ((True) ∧ ((True) ∧ (True))))) (
    .node (cond ((!(r1 (b :: t)).2.2) == false) (((kindOf (r1 (b :: t)).1) : Int) == 0) true) (
      .leaf (.ret, ([.bool false], [some .dead, some .dead, some .dead]))) (
      .ob ((True) ∧ (0 ≤ ((r1 (b :: t)).2.1 : Int) ∧ ((r1 (b :: t)).2.1 : Int) ≤ ((((b :: t) : Str).length : Nat) : Int))) (
      .leaf (.normal, ([.str s, .str (extractL (b :: t) (((r1 (b :: t)).2.1 : Int).toNat) ((b :: t) : Str).length)], [some .dead, some .dead, some .dead])))))) (
    .leaf ((.exit 0), ([.str s], [some .dead, some .dead, some .dead])))
set_option maxRecDepth 1000000 in
theorem tree58C_eq (s : Str) (n : Nat) (b : UInt8) (t : Str) : codeT (callT (mkXT pxN noOX) (mkXP pxN) (mkX pxN noOX) D (fun _ => noOrc) (fun _ => []) 6) (callN (mkX pxN noOX) D 6) (mkXP pxN) noOrc [] noLt 0 (lpOf 58 0) ((loop58 s).t0 (n, (b :: t))) [] ((loop58 s).h0 (n, (b :: t))) (loop58 s).end_ = tree58C s b t := by kernel_rfl
def tree58N (s : Str) : DT (Ex × Snap) :=
  .node false (
    .fail) (
    .leaf ((.exit 0), ([.str s], [some .dead, some .dead, some .dead])))
set_option maxRecDepth 1000000 in
theorem tree58N_eq (s : Str) (n : Nat) : codeT (callT (mkXT pxN noOX) (mkXP pxN) (mkX pxN noOX) D (fun _ => noOrc) (fun _ => []) 6) (callN (mkX pxN noOX) D 6) (mkXP pxN) noOrc [] noLt 0 (lpOf 58 0) ((loop58 s).t0 (n, [])) [] ((loop58 s).h0 (n, [])) (loop58 s).end_ = tree58N s  := by kernel_rfl
def tree58 (s : Str) : DT V :=
  .ob ((([.str s, .str s], [some .dead, some .dead, some .dead]) : Snap) = (loop58 s).S (s.length, s)) (
  .ob (s.length ≤ s.length) (
  .node (nickL s.length s) (
    .leaf (.bool (decide ((((s : Str).length : Int) : Int) ≤ 20)))) (
    .leaf (.bool false))))
noncomputable def lt58 (s : Str) : Lt := fun _ => (loop58 s).lt
set_option maxRecDepth 1000000 in
theorem tree58_eq (s : Str) : funT (mkXT pxN noOX) (mkXP pxN) (mkX pxN noOX) D (fun _ => noOrc) (fun _ => []) 5 noOrc [] (lt58 s) (dOf 58) [.str s] (smallH []) (fun v _ => v) = tree58 s := by kernel_rfl
end Go.Proofs.YtjnhaaolbcmdbaaGreatDoor

/- Names: one law for nick.May and the document's MayNick. -/
namespace Go.Proofs.YtjnhaaolbcmdbaaGreatDoor
open Go Gw Go.RowKit
set_option linter.unusedSimpArgs false
set_option linter.unusedVariables false

theorem get_bytes (s : Str) (i : Nat) : (⟨⟨s⟩⟩ : ByteArray).get! i = s.getD i 0 := by
  show (⟨s⟩ : Array UInt8)[i]! = _
  simp only [List.getElem!_toArray, List.getD_eq_getElem?_getD]
  by_cases h : i < s.length
  · simp [getElem!_def, h]
  · simp [getElem!_def, h]
    rfl
def decR (b0 b1 b2 b3 : Nat) (k1 k2 k3 : Bool) : Nat × Nat :=
  if b0 < 0x80 then (b0, 1)
  else if b0 / 32 == 6 && k1 then
    (if (b0 % 32) * 64 + b1 % 64 ≥ 0x80 then ((b0 % 32) * 64 + b1 % 64, 2) else (Utf8.runeError, 1))
  else if b0 / 16 == 14 && k1 && k2 then
    (if (b0 % 16) * 4096 + (b1 % 64) * 64 + b2 % 64 ≥ 0x800 && Utf8.valid ((b0 % 16) * 4096 + (b1 % 64) * 64 + b2 % 64 : Nat) then ((b0 % 16) * 4096 + (b1 % 64) * 64 + b2 % 64, 3) else (Utf8.runeError, 1))
  else if b0 / 8 == 30 && k1 && k2 && k3 then
    (if (b0 % 8) * 262144 + (b1 % 64) * 4096 + (b2 % 64) * 64 + b3 % 64 ≥ 0x10000 && Utf8.valid ((b0 % 8) * 262144 + (b1 % 64) * 4096 + (b2 % 64) * 64 + b3 % 64 : Nat) then ((b0 % 8) * 262144 + (b1 % 64) * 4096 + (b2 % 64) * 64 + b3 % 64, 4) else (Utf8.runeError, 1))
  else (Utf8.runeError, 1)
def bN (s : Str) (p k : Nat) : Nat := (s.getD (p + k) 0).toNat
def kN (s : Str) (p k : Nat) : Bool := decide (p + k < s.length) && bN s p k / 64 == 2
theorem decode_eq (s : Str) (p : Nat) : decodeL s p = decR (bN s p 0) (bN s p 1) (bN s p 2) (bN s p 3) (kN s p 1) (kN s p 2) (kN s p 3) := by
  unfold decodeL Utf8.decode decR kN bN
  simp only [get_bytes]
  rfl
theorem bN_drop (s : Str) (p k : Nat) : bN (s.drop p) 0 k = bN s p k := by
  simp [bN, List.getD_eq_getElem?_getD]
theorem kN_drop (s : Str) (p k : Nat) : kN (s.drop p) 0 k = kN s p k := by
  simp only [kN, bN_drop, List.length_drop]
  congr 1
  simp
  omega
theorem decode_drop (s : Str) (p : Nat) : decodeL s p = decodeL (s.drop p) 0 := by
  simp only [decode_eq, bN_drop, kN_drop]
theorem byte_bN (s : Str) (k : Nat) : byteOf s k = (bN s 0 k : Int) := by simp [byteOf, bN]
theorem cont_kN (s : Str) (k : Nat) : r1cont s k = kN s 0 k := by
  simp only [r1cont, kN, byte_bN, Nat.zero_add, Bool.and_assoc]
  congr 1
  rw [Bool.eq_iff_iff]
  simp
  omega
theorem bN_lt (s : Str) (p k : Nat) : bN s p k < 256 := (s.getD (p + k) 0).toNat_lt
theorem kN_b {s : Str} {p k : Nat} (h : kN s p k = true) : bN s p k / 64 = 2 := by
  simp [kN] at h
  exact h.2
theorem dec_r1 (u : Str) : ((r1 u).2.2 = true → ((decodeL u 0).1 : Int) = (r1 u).1 ∧ ((decodeL u 0).2 : Int) = (r1 u).2.1) ∧ ((r1 u).2.2 = false → decodeL u 0 = (65533, 1)) := by
  rw [decode_eq]
  have h0 := bN_lt u 0 0
  have h1 := bN_lt u 0 1
  have h2 := bN_lt u 0 2
  have h3 := bN_lt u 0 3
  have g1 := @kN_b u 0 1
  have g2 := @kN_b u 0 2
  have g3 := @kN_b u 0 3
  have e : r1 u = if (bN u 0 0 : Int) < 128 then ((bN u 0 0 : Int), 1, true)
      else if 194 ≤ (bN u 0 0 : Int) ∧ (bN u 0 0 : Int) < 224 then (if kN u 0 1 = true then r1end 2 128 (((bN u 0 0 : Int) - 192) * 64 + bN u 0 1 - 128) else (0, 1, false))
      else if 224 ≤ (bN u 0 0 : Int) ∧ (bN u 0 0 : Int) < 240 then (if (kN u 0 1 && kN u 0 2) = true then r1end 3 2048 ((((bN u 0 0 : Int) - 224) * 64 + bN u 0 1 - 128) * 64 + bN u 0 2 - 128) else (0, 1, false))
      else if 240 ≤ (bN u 0 0 : Int) ∧ (bN u 0 0 : Int) < 245 then (if (kN u 0 1 && (kN u 0 2 && kN u 0 3)) = true then r1end 4 65536 (((((bN u 0 0 : Int) - 240) * 64 + bN u 0 1 - 128) * 64 + bN u 0 2 - 128) * 64 + bN u 0 3 - 128) else (0, 1, false))
      else (0, 1, false) := by
    simp only [r1, r1fin, r1ok, r1acc, byte_bN, cont_kN, Bool.and_true]
    rfl
  rw [e]
  clear e
  generalize bN u 0 0 = b0 at *
  generalize bN u 0 1 = b1 at *
  generalize bN u 0 2 = b2 at *
  generalize bN u 0 3 = b3 at *
  generalize kN u 0 1 = k1 at *
  generalize kN u 0 2 = k2 at *
  generalize kN u 0 3 = k3 at *
  by_cases c0 : b0 < 128
  · have : (b0 : Int) < 128 := by omega
    simp [decR, c0, this]
  · have c0' : ¬ (b0 : Int) < 128 := by omega
    rw [if_neg c0']
    unfold decR
    rw [if_neg (show ¬ b0 < 0x80 from c0)]
    by_cases c1 : b0 / 32 = 6
    · have d1 : ¬ b0 / 16 = 14 := by omega
      have d2 : ¬ b0 / 8 = 30 := by omega
      have f1 : ¬ (224 ≤ (b0 : Int) ∧ (b0 : Int) < 240) := by omega
      have f2 : ¬ (240 ≤ (b0 : Int) ∧ (b0 : Int) < 245) := by omega
      rw [if_neg f1, if_neg f2]
      cases k1 with
      | false => simp [c1, d1, d2, Utf8.runeError]
      | true =>
        have := g1 rfl
        simp only [c1, beq_self_eq_true, Bool.and_self, if_true]
        by_cases c2 : 194 ≤ (b0 : Int) ∧ (b0 : Int) < 224
        · rw [if_pos c2]
          have e1 : (b0 % 32) * 64 + b1 % 64 ≥ 0x80 := by omega
          rw [if_pos e1]
          unfold r1end
          rw [if_neg (by omega)]
          simp
          omega
        · rw [if_neg c2]
          have e1 : ¬ (b0 % 32) * 64 + b1 % 64 ≥ 0x80 := by omega
          rw [if_neg e1]
          simp [Utf8.runeError]
    · have f0 : ¬ (194 ≤ (b0 : Int) ∧ (b0 : Int) < 224) := by omega
      rw [if_neg f0]
      have n1 : (b0 / 32 == 6) = false := by simpa using c1
      simp only [n1, Bool.false_and, Bool.false_eq_true, if_false]
      by_cases c3 : b0 / 16 = 14
      · have f1 : 224 ≤ (b0 : Int) ∧ (b0 : Int) < 240 := by omega
        have d2 : (b0 / 8 == 30) = false := by simp; omega
        rw [if_pos f1]
        simp only [c3, d2, beq_self_eq_true, Bool.true_and, Bool.false_and, Bool.false_eq_true, if_false]
        cases hk : (k1 && k2) with
        | false => simp [Utf8.runeError]
        | true =>
          simp only [Bool.and_eq_true] at hk
          have := g1 hk.1
          have := g2 hk.2
          simp only [if_true]
          generalize hc : (b0 % 16) * 4096 + (b1 % 64) * 64 + b2 % 64 = c
          have hr : ((((b0 : Int) - 224) * 64 + b1 - 128) * 64 + b2 - 128) = (c : Int) := by omega
          rw [hr]
          have hv : Utf8.valid (c : Int) = (decide (c < 55296) || (decide (57344 ≤ c) && decide (c ≤ 1114111))) := by
            unfold Utf8.valid
            rw [Bool.eq_iff_iff]
            simp
            omega
          rw [hv]
          unfold r1end
          by_cases hq : (c : Int) < 2048 ∨ (55296 ≤ (c : Int) ∧ (c : Int) < 57344) ∨ 1114111 < (c : Int)
          · rw [if_pos hq, if_neg (by simp; omega)]
            simp [Utf8.runeError]
          · rw [if_neg hq, if_pos (by simp; omega)]
            simp
      · have f1 : ¬ (224 ≤ (b0 : Int) ∧ (b0 : Int) < 240) := by omega
        rw [if_neg f1]
        have n2 : (b0 / 16 == 14) = false := by simpa using c3
        simp only [n2, Bool.false_and, Bool.false_eq_true, if_false]
        by_cases c4 : b0 / 8 = 30
        · simp only [c4, beq_self_eq_true, Bool.true_and]
          cases hk : (k1 && k2 && k3) with
          | false =>
            have hk' : (k1 && (k2 && k3)) = false := by rw [← Bool.and_assoc]; exact hk
            simp only [hk', Bool.false_eq_true, if_false, ite_self]
            simp [Utf8.runeError]
          | true =>
            have hk' : (k1 && (k2 && k3)) = true := by rw [← Bool.and_assoc]; exact hk
            simp only [Bool.and_eq_true] at hk
            have := g1 hk.1.1
            have := g2 hk.1.2
            have := g3 hk.2
            simp only [hk', if_true]
            generalize hc : (b0 % 8) * 262144 + (b1 % 64) * 4096 + (b2 % 64) * 64 + b3 % 64 = c
            have hr : (((((b0 : Int) - 240) * 64 + b1 - 128) * 64 + b2 - 128) * 64 + b3 - 128) = (c : Int) := by omega
            rw [hr]
            have hv : Utf8.valid (c : Int) = (decide (c < 55296) || (decide (57344 ≤ c) && decide (c ≤ 1114111))) := by
              unfold Utf8.valid
              rw [Bool.eq_iff_iff]
              simp
              omega
            rw [hv]
            unfold r1end
            by_cases hz : (240 ≤ (b0 : Int) ∧ (b0 : Int) < 245)
            · rw [if_pos hz]
              by_cases hq : (c : Int) < 65536 ∨ (55296 ≤ (c : Int) ∧ (c : Int) < 57344) ∨ 1114111 < (c : Int)
              · rw [if_pos hq, if_neg (by simp; omega)]
                simp [Utf8.runeError]
              · rw [if_neg hq, if_pos (by simp; omega)]
                simp
            · rw [if_neg hz, if_neg (by simp; omega)]
              simp [Utf8.runeError]
        · have f2 : ¬ (240 ≤ (b0 : Int) ∧ (b0 : Int) < 245) := by omega
          rw [if_neg f2]
          have n3 : (b0 / 8 == 30) = false := by simpa using c4
          simp [n3, Utf8.runeError]
theorem dec_step (u : Str) (p : Nat) : 1 ≤ (decodeL u p).2 := by
  rw [decode_eq]
  unfold decR
  repeat' split
  all_goals simp

theorem r1_len (b : UInt8) (t : Str) : (r1 (b :: t)).2.2 = true → (r1 (b :: t)).2.1 ≤ ((b :: t).length : Int) ∧ 0 ≤ (r1 (b :: t)).2.1 := by
  have key : ∀ (n : Nat) (l r : Int), 1 ≤ n → (r1fin (b :: t) n l r).2.2 = true → (r1fin (b :: t) n l r).2.1 ≤ ((b :: t).length : Int) ∧ 0 ≤ (r1fin (b :: t) n l r).2.1 := by
    intro n l r hn hq
    unfold r1fin at hq ⊢
    have ok : ∀ (f i : Nat), i < (b :: t).length → r1ok (b :: t) f i = true → i + f ≤ (b :: t).length := by
      intro f
      induction f with
      | zero => intro i hi _; omega
      | succ f ih =>
        intro i hi h
        simp only [r1ok, Bool.and_eq_true, r1cont, decide_eq_true_eq] at h
        cases f with
        | zero => omega
        | succ f =>
          have h2 := h.2
          simp only [r1ok, Bool.and_eq_true, r1cont, decide_eq_true_eq] at h2
          have := ih (i + 1) (by omega) h.2
          omega
    split at hq
    · rename_i hk
      rw [if_pos hk]
      unfold r1end at hq ⊢
      split at hq
      · simp at hq
      · rename_i hz
        rw [if_neg hz]
        simp only
        cases hn1 : n - 1 with
        | zero => simp; omega
        | succ m =>
          rw [hn1] at hk
          have h3 := hk
          simp only [r1ok, Bool.and_eq_true, r1cont, decide_eq_true_eq] at h3
          have := ok (m + 1) 1 (by omega) hk
          omega
    · simp at hq
  intro hq
  unfold r1 at hq ⊢
  split
  · simp; omega
  · rename_i c0
    rw [if_neg c0] at hq
    split
    · rename_i c1
      rw [if_pos c1] at hq
      exact key 2 _ _ (by decide) hq
    · rename_i c1
      rw [if_neg c1] at hq
      split
      · rename_i c2
        rw [if_pos c2] at hq
        exact key 3 _ _ (by decide) hq
      · rename_i c2
        rw [if_neg c2] at hq
        split
        · rename_i c3
          rw [if_pos c3] at hq
          exact key 4 _ _ (by decide) hq
        · rename_i c3
          rw [if_neg c3] at hq
          simp at hq
theorem step_drop (s : Str) (p : Nat) : stepOf s p = stepOf (s.drop p) 0 := by unfold stepOf; rw [decode_drop]
theorem rune_drop (s : Str) (p : Nat) : runeOf s p = runeOf (s.drop p) 0 := by unfold runeOf; rw [decode_drop]
theorem step_pos (s : Str) (p : Nat) : 1 ≤ stepOf s p := dec_step s p

theorem round57 (s : Str) (x : Nat × Nat) (Pr : Ex × Snap → Prop) (ho : ((loop57 s).out x).sat Pr) : (if x.2 < s.length then tree57A s x.1 x.2 else tree57B s x.1 x.2).sat ((loop57 s).next (fun x => x.1) x Pr) := by
  obtain ⟨n, p⟩ := x
  obtain ⟨h1, hP, hN⟩ := ho
  simp only at h1 hP hN ⊢
  have hg : ((loop57 s).h0 (n, p)).get 4 = some (.iter s p) := by
    simp only [LoopD.h0]; rw [mkH_get]; rfl
  by_cases hp : p < s.length
  · rw [if_pos hp]
    unfold tree57A
    simp only [DT.sat]
    obtain ⟨m, rfl⟩ : ∃ m, n = m + 1 := ⟨n - 1, by omega⟩
    have hd : s.drop p ≠ [] := by simp; omega
    have hn : nickL (m + 1) (s.drop p) = ((kindOf (runeOf s p) != 0) && nickL m (s.drop (p + stepOf s p))) := by
      simp only [nickL, if_neg hd]
      rw [← rune_drop, ← step_drop, List.drop_drop]
    rw [hn] at hP hN
    refine ⟨?_, fun hk => ?_, fun hk => ?_⟩
    · unfold nextV
      simp only [hg, if_pos hp]
      rfl
    · have : (kindOf (runeOf s p) != 0) = false := by simpa using hk
      rw [this] at hN
      exact hN rfl
    · have : (kindOf (runeOf s p) != 0) = true := by simpa using hk
      rw [this] at hP hN
      simp only [Bool.true_and] at hP hN
      have := step_pos s p
      exact ⟨(m, p + stepOf s p), rfl, Nat.lt_succ_self m, by show s.length - (p + stepOf s p) ≤ m; omega, hP, hN⟩
  · rw [if_neg hp]
    unfold tree57B
    simp only [DT.sat]
    have hd : s.drop p = [] := by simp; omega
    have hn : nickL n (s.drop p) = true := by
      rw [hd]
      cases n <;> simp [nickL]
    refine ⟨?_, hP hn⟩
    unfold nextV
    simp only [hg, if_neg hp]
theorem sat57 (s : Str) : (tree57 s).sat fun v => v = .bool (nickOk s) := by
  unfold tree57 nickOk
  simp only [DT.sat, List.drop_zero]
  refine ⟨rfl, by omega, fun h => ?_, fun h => ?_⟩
  · rw [h]
    simp
    omega
  · rw [h]; rfl
theorem loops57 : loopsIn 0 (dOf 57).body = [(0, lpOf 57 0)] := by kernel_rfl
set_option maxRecDepth 1000000 in
theorem ans57 : AnsO Tryz.prog 57 (gP pNick) := by
  refine ansP fun args v h => ?_
  unfold pNick at h
  split at h
  · rename_i s
    simp only [Option.some.injEq] at h
    subst h
    refine ⟨rfl, rfl, ?_⟩
    refine run_loops mixed tabN tabD (dIs (by kernel_rfl)) (lt := lt57 s) (fun hint p hp => ?_) (tree57_eq s) (Q := fun v => v = .bool (nickOk s)) (sat57 s)
    rw [loops57] at hp
    simp only [List.mem_cons, List.not_mem_nil, or_false] at hp
    subst hp
    exact LoopD.lt1 mixed tabN tabD (loop57 s) (fun x => x.1) (fun ex => match ex with | .normal => ⟨show 3 ≤ 5 by decide, show 3 ≤ 5 by decide⟩ | .exit _ => ⟨Nat.le_refl 3, Nat.le_refl 3⟩ | .ret => ⟨Nat.le_refl 3, Nat.le_refl 3⟩) (by kernel_rfl)
      (orc := fun x => if x.2 < s.length then orc57A s x.2 else orc57B s x.2) (tree := fun x => if x.2 < s.length then tree57A s x.1 x.2 else tree57B s x.1 x.2)
      (fun x => by
        by_cases h : x.2 < s.length
        · simp only [if_pos h]; exact tree57A_eq s x.1 x.2
        · simp only [if_neg h]; exact tree57B_eq s x.1 x.2) (round57 s)
  · cases h

def tree58L (s : Str) (x : Nat × Str) : DT (Ex × Snap) := match x.2 with
  | [] => tree58N s
  | b :: t => tree58C s b t
theorem round58 (s : Str) (x : Nat × Str) (Pr : Ex × Snap → Prop) (ho : ((loop58 s).out x).sat Pr) : (tree58L s x).sat ((loop58 s).next (fun x => x.1) x Pr) := by
  obtain ⟨n, u⟩ := x
  obtain ⟨h1, hP, hN⟩ := ho
  simp only at h1 hP hN ⊢
  cases u with
  | nil =>
    simp only [tree58L, tree58N, DT.sat]
    refine ⟨fun h => (by cases h), fun _ => ?_⟩
    exact hP (by cases n <;> simp [nickL])
  | cons b t =>
    simp only [tree58L]
    unfold tree58C
    obtain ⟨m, rfl⟩ : ∃ m, n = m + 1 := ⟨n - 1, by simp at h1; omega⟩
    have hn : nickL (m + 1) (b :: t) = ((kindOf (runeOf (b :: t) 0) != 0) && nickL m ((b :: t).drop (stepOf (b :: t) 0))) := by
      simp only [nickL, if_neg (List.cons_ne_nil b t)]
    rw [hn] at hP hN
    obtain ⟨hd1, hd2⟩ := dec_r1 (b :: t)
    have hst := step_pos (b :: t) 0
    have hle : (r1 (b :: t)).2.2 = true → (r1 (b :: t)).2.1 ≤ ((b :: t).length : Int) ∧ 0 ≤ (r1 (b :: t)).2.1 := r1_len b t
    generalize hu : b :: t = u at *
    have hne : (!(u == [])) = true := by subst hu; rfl
    simp only [DT.sat, hne]
    refine ⟨fun _ => ⟨fun _ => ⟨trivial, trivial, trivial, trivial⟩, fun hk => ?_, fun hk => ?_⟩, fun h => by cases h⟩
    · have hz : (kindOf (runeOf u 0) != 0) = false := by
        cases hok : (r1 u).2.2 with
        | false =>
          unfold runeOf
          rw [hd2 hok]
          decide
        | true =>
          rw [hok] at hk
          simp at hk
          unfold runeOf
          rw [(hd1 hok).1, hk]
          decide
      rw [hz] at hN
      exact hN rfl
    · have hok : (r1 u).2.2 = true := by
        cases hok : (r1 u).2.2 with
        | false => rw [hok] at hk; simp at hk
        | true => rfl
      rw [hok] at hk
      simp at hk
      have hz : (kindOf (runeOf u 0) != 0) = true := by
        unfold runeOf
        rw [(hd1 hok).1]
        simpa using hk
      rw [hz] at hP hN
      simp only [Bool.true_and] at hP hN
      obtain ⟨l1, l2⟩ := hle hok
      have hsn : (r1 u).2.1.toNat = stepOf u 0 := by
        have := (hd1 hok).2
        unfold stepOf
        omega
      refine ⟨⟨trivial, l2, l1⟩, (m, u.drop (stepOf u 0)), ?_, Nat.lt_succ_self m, ?_, hP, hN⟩
      · rw [hsn]
        show (([V.str s, V.str (extractL u (stepOf u 0) u.length)], _) : Snap) = ([V.str s, V.str (u.drop (stepOf u 0))], _)
        have : extractL u (stepOf u 0) u.length = u.drop (stepOf u 0) := by
          unfold extractL
          exact List.take_of_length_le (by simp)
        rw [this]
      · show (u.drop (stepOf u 0)).length ≤ m
        have h1' : u.length ≤ m + 1 := h1
        rw [List.length_drop]
        omega
theorem sat58 (s : Str) : (tree58 s).sat fun v => v = .bool (nickOk s) := by
  unfold tree58 nickOk
  simp only [DT.sat]
  refine ⟨rfl, Nat.le_refl _, fun h => ?_, fun h => ?_⟩
  · rw [h]
    simp
    omega
  · rw [h]; rfl
theorem loops58 : loopsIn 0 (dOf 58).body = [(0, lpOf 58 0)] := by kernel_rfl
set_option maxRecDepth 1000000 in
theorem ans58 : AnsO Tryz.prog 58 (gP pNick) := by
  refine ansP fun args v h => ?_
  unfold pNick at h
  split at h
  · rename_i s
    simp only [Option.some.injEq] at h
    subst h
    refine ⟨rfl, rfl, ?_⟩
    refine run_loops mixed tabN tabD (dIs (by kernel_rfl)) (lt := lt58 s) (fun hint p hp => ?_) (tree58_eq s) (Q := fun v => v = .bool (nickOk s)) (sat58 s)
    rw [loops58] at hp
    simp only [List.mem_cons, List.not_mem_nil, or_false] at hp
    subst hp
    exact LoopD.lt1 mixed tabN tabD (loop58 s) (fun x => x.1) (fun ex => match ex with | .normal => ⟨Nat.le_refl 3, Nat.le_refl 3⟩ | .exit _ => ⟨Nat.le_refl 3, Nat.le_refl 3⟩ | .ret => ⟨Nat.le_refl 3, Nat.le_refl 3⟩) (by kernel_rfl)
      (orc := fun _ => noOrc) (tree := tree58L s)
      (fun x => match x with | (n, []) => tree58N_eq s n | (n, b :: t) => tree58C_eq s n b t) (round58 s)
  · cases h
end Go.Proofs.YtjnhaaolbcmdbaaGreatDoor

/- xid.May and the document's MayXid. -/
namespace Go.Proofs.YtjnhaaolbcmdbaaGreatDoor
open Go Gw Go.RowKit
set_option linter.unusedSimpArgs false
set_option linter.unusedVariables false
def mayXid (x : Gw.Xid) : Bool := x.src != 0 && x.src != 4294967295 && (x.slots == 1 || x.slots == 6 || x.slots == 8) && decide (-1 ≤ x.slot) && decide (x.slot < x.slots) && nickOk x.nick
def pXid : List V → Option V
  | [.agg [.int .u32 a, .int .u32 b, .int .i64 c, .int .i64 d, .bool e, .str f]] => some (.bool (mayXid ⟨a, b, c, d, e, f⟩))
  | _ => none
theorem pXid_in {args : List V} {v : V} (h : pXid args = some v) : ∃ x : Gw.Xid, args = [.agg x.vs] ∧ v = .bool (mayXid x) := by
  unfold pXid at h
  split at h
  · rename_i a b c d e f
    simp only [Option.some.injEq] at h
    exact ⟨⟨a, b, c, d, e, f⟩, rfl, h.symm⟩
  · cases h
def pxK : PTab := consP 58 pNick (consP 57 pNick noPX)
theorem tabK : TabX Tryz.prog pxK noOX := (TabX.nil.addP ans57).addP ans58
def tree59 (x : Gw.Xid) : DT V :=
  .ob ((((x.slots : Int) == 1) == false) = true → ((True) ∧ ((True) ∧ ((True) ∧ (True))))) (
  .ob (((cond (((x.slots : Int) == 1) == false) ((x.slots : Int) == 6) true) == false) = true → ((True) ∧ ((True) ∧ ((True) ∧ (True))))) (
  .ob ((((x.src : Int) != 0) == true) = true → ((True) ∧ ((True) ∧ (True)))) (
  .ob (((cond (((x.src : Int) != 0) == true) ((x.src : Int) != 4294967295) false) == true) = true → ((True) ∧ (True))) (
  .ob (((cond ((cond (((x.src : Int) != 0) == true) ((x.src : Int) != 4294967295) false) == true) (cond ((cond (((x.slots : Int) == 1) == false) ((x.slots : Int) == 6) true) == false) ((x.slots : Int) == 8) true) false) == true) = true → ((True) ∧ ((True) ∧ ((True) ∧ (True))))) (
  .ob (((cond ((cond ((cond (((x.src : Int) != 0) == true) ((x.src : Int) != 4294967295) false) == true) (cond ((cond (((x.slots : Int) == 1) == false) ((x.slots : Int) == 6) true) == false) ((x.slots : Int) == 8) true) false) == true) (decide ((x.slot : Int) ≥ (-1))) false) == true) = true → ((True) ∧ ((True) ∧ ((True) ∧ ((True) ∧ ((True) ∧ (True))))))) (
  .ob (((cond ((cond ((cond ((cond (((x.src : Int) != 0) == true) ((x.src : Int) != 4294967295) false) == true) (cond ((cond (((x.slots : Int) == 1) == false) ((x.slots : Int) == 6) true) == false) ((x.slots : Int) == 8) true) false) == true) (decide ((x.slot : Int) ≥ (-1))) false) == true) (decide ((x.slot : Int) < x.slots)) false) == true) = true → ((True) ∧ ((True) ∧ ((True) ∧ (True))))) (
  .leaf (.bool (cond ((cond ((cond ((cond ((cond (((x.src : Int) != 0) == true) ((x.src : Int) != 4294967295) false) == true) (cond ((cond (((x.slots : Int) == 1) == false) ((x.slots : Int) == 6) true) == false) ((x.slots : Int) == 8) true) false) == true) (decide ((x.slot : Int) ≥ (-1))) false) == true) (decide ((x.slot : Int) < x.slots)) false) == true) (nickOk x.nick) false)))))))))
set_option maxRecDepth 1000000 in
theorem tree59_eq (x : Gw.Xid) : funT (mkXT pxK noOX) (mkXP pxK) (mkX pxK noOX) D (fun _ => noOrc) (fun _ => []) 5 noOrc [] noLt (dOf 59) [.agg x.vs] (smallH []) (fun v _ => v) = tree59 x := by kernel_rfl
theorem ans59 : AnsO Tryz.prog 59 (gP pXid) := by
  refine ansP fun args v h => ?_
  obtain ⟨x, rfl, rfl⟩ := pXid_in h
  refine ⟨rfl, rfl, run_plain mixed tabK tabD (dIs (by kernel_rfl)) (by kernel_rfl) (tree59_eq x) (Q := fun r => r = .bool (mayXid x)) ?_⟩
  unfold tree59 mayXid
  generalize nickOk x.nick = b
  simp [DT.sat]
  all_goals grind
def tree22 (x : Gw.Xid) : DT V :=
  .ob ((((x.src : Int) != 0) == true) = true → ((True) ∧ ((True) ∧ (True)))) (
  .node ((cond (((x.src : Int) != 0) == true) ((x.src : Int) != 4294967295) false) == true) (
    .node (((x.slots : Int) == 1) == false) (
      .node (((x.slots : Int) == 6) == false) (
        .ob ((((x.slots : Int) == 8) == true) = true → ((True) ∧ ((True) ∧ ((True) ∧ (True))))) (
        .ob (((cond (((x.slots : Int) == 8) == true) (decide ((x.slot : Int) ≥ (-1))) false) == true) = true → ((True) ∧ ((True) ∧ ((True) ∧ ((True) ∧ ((True) ∧ (True))))))) (
        .ob (((cond ((cond (((x.slots : Int) == 8) == true) (decide ((x.slot : Int) ≥ (-1))) false) == true) (decide ((x.slot : Int) < x.slots)) false) == true) = true → ((True) ∧ ((True) ∧ ((True) ∧ (True))))) (
        .leaf (.bool (cond ((cond ((cond (((x.slots : Int) == 8) == true) (decide ((x.slot : Int) ≥ (-1))) false) == true) (decide ((x.slot : Int) < x.slots)) false) == true) (nickOk x.nick) false)))))) (
        .ob (((decide ((x.slot : Int) ≥ (-1))) == true) = true → ((True) ∧ ((True) ∧ ((True) ∧ ((True) ∧ ((True) ∧ (True))))))) (
        .ob (((cond ((decide ((x.slot : Int) ≥ (-1))) == true) (decide ((x.slot : Int) < x.slots)) false) == true) = true → ((True) ∧ ((True) ∧ ((True) ∧ (True))))) (
        .leaf (.bool (cond ((cond ((decide ((x.slot : Int) ≥ (-1))) == true) (decide ((x.slot : Int) < x.slots)) false) == true) (nickOk x.nick) false)))))) (
      .ob (((decide ((x.slot : Int) ≥ (-1))) == true) = true → ((True) ∧ ((True) ∧ ((True) ∧ ((True) ∧ ((True) ∧ (True))))))) (
      .ob (((cond ((decide ((x.slot : Int) ≥ (-1))) == true) (decide ((x.slot : Int) < x.slots)) false) == true) = true → ((True) ∧ ((True) ∧ ((True) ∧ (True))))) (
      .leaf (.bool (cond ((cond ((decide ((x.slot : Int) ≥ (-1))) == true) (decide ((x.slot : Int) < x.slots)) false) == true) (nickOk x.nick) false)))))) (
    .leaf (.bool false)))
set_option maxRecDepth 1000000 in
theorem tree22_eq (x : Gw.Xid) : funT (mkXT pxK noOX) (mkXP pxK) (mkX pxK noOX) D (fun _ => noOrc) (fun _ => []) 5 noOrc [] noLt (dOf 22) [.agg x.vs] (smallH []) (fun v _ => v) = tree22 x := by kernel_rfl
theorem ans22 : AnsO Tryz.prog 22 (gP pXid) := by
  refine ansP fun args v h => ?_
  obtain ⟨x, rfl, rfl⟩ := pXid_in h
  refine ⟨rfl, rfl, run_plain mixed tabK tabD (dIs (by kernel_rfl)) (by kernel_rfl) (tree22_eq x) (Q := fun r => r = .bool (mayXid x)) ?_⟩
  unfold tree22 mayXid
  generalize nickOk x.nick = b
  simp [DT.sat]
  all_goals grind
end Go.Proofs.YtjnhaaolbcmdbaaGreatDoor
