/- What is proved: glowwormlaw16.QueryDeaf returns true, whatever it is given, and turns nothing that was there, in every world that holds the three laid tables; conditions: none beyond those of its card. -/
import Derived.Test.YtjnhaaolbcmdbaaGreatDoorGxL
import Derived.Test.YtjnhaaolbcmdbaaGreatDoorGxX1
import Derived.Test.YtjnhaaolbcmdbaaGreatDoorGxB5
namespace Go.Proofs.YtjnhaaolbcmdbaaGreatDoor
open Go Gw Go.RowKit
set_option linter.unusedSimpArgs false
set_option linter.unusedVariables false
def kQD (slots : Int) : Int := (([1, 6, 8] : List Int).getD ((((wrapK .i64 (((slots : Int).tmod 3) + 3)) : Int).tmod 3) : Int).toNat 0)
def aQD (w : Int) : Int := (((wrapK .i64 (((w : Int).tmod 100) + 100)) : Int).tmod 100)
def qN (K : Int) (i : Nat) : Int := min (i : Int) (8 * K + 2)
def loopQD (y : Gw.Xid) (K A : Int) : LoopD Nat where
  nt := 74
  fr := fun ex => match ex with | .normal => ⟨[1, 2, 3, 8, 9], 28, []⟩ | _ => ⟨[1, 2, 3, 8], 28, []⟩
  S := fun i => ([.int .i64 K, .int .i64 A, .ptr 3 0, .ptr 25 0, .int .i64 ((i : Nat) : Int)], [some (.cells true (zsV .u8 kT0)), some (.cells true (zsV .u8 kT1)), some (.cells true (zsV .u8 kT2)), some (.cells false y.vs), none, some (.cells false y.vs), some (.cells false y.vs), some (.cells false [.int .i64 1, .int .i64 6, .int .i64 8]), none, none, none, none, none, none, none, none, none, none, none, some (.cells false [.int .u32 77, .int .u32 0, .int .i64 0, .int .i64 K, .bool false, .str [110]]), none, none, none, none, none, some (.cells false [.int .u32 77, .int .u32 0, .int .i64 0, .int .i64 K, .bool false, .str [110], .int .i64 (qN K i), .ptr 27 0]), none, some (.obj (.log ⟨77, none, none, none⟩))])
  out := fun i => .ob ((i : Int) ≤ A ∧ A < 100 ∧ (K = 1 ∨ K = 6 ∨ K = 8)) (.leaf (.exit 0, ([.int .i64 K, .int .i64 A, .ptr 3 0, .ptr 25 0], [some (.cells true (zsV .u8 kT0)), some (.cells true (zsV .u8 kT1)), some (.cells true (zsV .u8 kT2)), some (.cells false y.vs), none, some (.cells false y.vs), some (.cells false y.vs), some (.cells false [.int .i64 1, .int .i64 6, .int .i64 8]), none, none, none, none, none, none, none, none, none, none, none, some (.cells false [.int .u32 77, .int .u32 0, .int .i64 0, .int .i64 K, .bool false, .str [110]]), none, none, none, none, none, some (.cells false [.int .u32 77, .int .u32 0, .int .i64 0, .int .i64 K, .bool false, .str [110], .int .i64 (qN K A.toNat), .ptr 27 0]), none, some (.obj (.log ⟨77, none, none, none⟩))])))
  pick := fun _ => 0
def treeQDL (y : Gw.Xid) (K A : Int) (i : Nat) : DT (Ex × Snap) :=
  .node (decide ((((i : Nat) : Int) : Int) < A)) (
    .node (decide (((qN K i) : Int) > (wrapK .i64 ((wrapK .i64 (K * 8)) + 1)))) (
      .leaf (.normal, ([.int .i64 K, .int .i64 A, .ptr 3 0, .ptr 25 0, .int .i64 (wrapK .i64 (((i : Nat) : Int) + 1))], [some (.cells true (zsV .u8 kT0)), some (.cells true (zsV .u8 kT1)), some (.cells true (zsV .u8 kT2)), some (.cells false y.vs), none, some (.cells false y.vs), some (.cells false y.vs), some (.cells false [.int .i64 1, .int .i64 6, .int .i64 8]), none, none, none, none, none, none, none, none, none, none, none, some (.cells false [.int .u32 77, .int .u32 0, .int .i64 0, .int .i64 K, .bool false, .str [110]]), none, none, none, none, none, some (.cells false [.int .u32 77, .int .u32 0, .int .i64 0, .int .i64 K, .bool false, .str [110], .int .i64 (qN K i), .ptr 27 0]), none, some (.obj (.log ⟨77, none, none, none⟩))]))) (
      .ob (IntKind.i64 = IntKind.i64 ∧ (8 : Int) ≠ 0) (
      .ob (IntKind.i64 = IntKind.i64 ∧ (8 : Int) ≠ 0) (
      .ob (((((((qN K i) : Int).tmod 8) : Int) != 0) == false) = true → ((True) ∧ ((True) ∧ ((True) ∧ ((True) ∧ ((True) ∧ ((True) ∧ ((True) ∧ (True))))))))) (
      .node (cond ((((((qN K i) : Int).tmod 8) : Int) != 0) == false) (decide (((wrapK .i64 (((qN K i) : Int).tdiv 8)) : Int) > K)) true) (
        .leaf (.normal, ([.int .i64 K, .int .i64 A, .ptr 3 0, .ptr 25 0, .int .i64 (wrapK .i64 (((i : Nat) : Int) + 1))], [some (.cells true (zsV .u8 kT0)), some (.cells true (zsV .u8 kT1)), some (.cells true (zsV .u8 kT2)), some (.cells false y.vs), none, some (.cells false y.vs), some (.cells false y.vs), some (.cells false [.int .i64 1, .int .i64 6, .int .i64 8]), none, none, none, none, none, none, none, none, none, none, none, some (.cells false [.int .u32 77, .int .u32 0, .int .i64 0, .int .i64 K, .bool false, .str [110]]), none, none, none, none, none, some (.cells false [.int .u32 77, .int .u32 0, .int .i64 0, .int .i64 K, .bool false, .str [110], .int .i64 (wrapK .i64 ((qN K i) + 1)), .ptr 27 0]), none, some (.obj (.log ⟨77, none, none, none⟩))]))) (
        .node (((wrapK .i64 (((qN K i) : Int).tdiv 8)) : Int) == K) (
          .leaf (.normal, ([.int .i64 K, .int .i64 A, .ptr 3 0, .ptr 25 0, .int .i64 (wrapK .i64 (((i : Nat) : Int) + 1))], [some (.cells true (zsV .u8 kT0)), some (.cells true (zsV .u8 kT1)), some (.cells true (zsV .u8 kT2)), some (.cells false y.vs), none, some (.cells false y.vs), some (.cells false y.vs), some (.cells false [.int .i64 1, .int .i64 6, .int .i64 8]), none, none, none, none, none, none, none, none, none, none, none, some (.cells false [.int .u32 77, .int .u32 0, .int .i64 0, .int .i64 K, .bool false, .str [110]]), none, none, none, none, none, some (.cells false [.int .u32 77, .int .u32 0, .int .i64 0, .int .i64 K, .bool false, .str [110], .int .i64 (wrapK .i64 ((qN K i) + 1)), .ptr 27 0]), none, some (.obj (.log ⟨77, none, none, none⟩))]))) (
          .leaf (.normal, ([.int .i64 K, .int .i64 A, .ptr 3 0, .ptr 25 0, .int .i64 (wrapK .i64 (((i : Nat) : Int) + 1))], [some (.cells true (zsV .u8 kT0)), some (.cells true (zsV .u8 kT1)), some (.cells true (zsV .u8 kT2)), some (.cells false y.vs), none, some (.cells false y.vs), some (.cells false y.vs), some (.cells false [.int .i64 1, .int .i64 6, .int .i64 8]), none, none, none, none, none, none, none, none, none, none, none, some (.cells false [.int .u32 77, .int .u32 0, .int .i64 0, .int .i64 K, .bool false, .str [110]]), none, none, none, none, none, some (.cells false [.int .u32 77, .int .u32 0, .int .i64 0, .int .i64 K, .bool false, .str [110], .int .i64 (wrapK .i64 ((qN K i) + 1)), .ptr 27 0]), none, some (.obj (.log ⟨77, none, none, none⟩))]))))))))) (
    .leaf ((.exit 0), ([.int .i64 K, .int .i64 A, .ptr 3 0, .ptr 25 0], [some (.cells true (zsV .u8 kT0)), some (.cells true (zsV .u8 kT1)), some (.cells true (zsV .u8 kT2)), some (.cells false y.vs), none, some (.cells false y.vs), some (.cells false y.vs), some (.cells false [.int .i64 1, .int .i64 6, .int .i64 8]), none, none, none, none, none, none, none, none, none, none, none, some (.cells false [.int .u32 77, .int .u32 0, .int .i64 0, .int .i64 K, .bool false, .str [110]]), none, none, none, none, none, some (.cells false [.int .u32 77, .int .u32 0, .int .i64 0, .int .i64 K, .bool false, .str [110], .int .i64 (qN K i), .ptr 27 0]), none, some (.obj (.log ⟨77, none, none, none⟩))])))
set_option maxRecDepth 1000000 in
theorem treeQDL_eq (y : Gw.Xid) (K A : Int) (i : Nat) : codeT (callT (mkXT pxL oxL) (mkXP pxL) (mkX pxL oxL) D (fun _ => noOrc) (fun _ => []) 12) (callN (mkX pxL oxL) D 12) (mkXP pxL) noOrc [] noLt 0 (lpOf 8 0) ((loopQD y K A).t0 i) [] ((loopQD y K A).h0 i) (loopQD y K A).end_ = treeQDL y K A i := by kernel_rfl
noncomputable def ltQD (x : Gw.Xid) (slots w : Int) : Lt := fun _ => (loopQD (cutX x) (kQD slots) (aQD w)).lt
def treeQD (x : Gw.Xid) (slots w : Int) : DT V :=
  .ob ((0 ≤ ((if (25 : Int) < ((x.nick : Str).length : Int) then 25 else ((x.nick : Str).length : Int)) : Int) ∧ ((if (25 : Int) < ((x.nick : Str).length : Int) then 25 else ((x.nick : Str).length : Int)) : Int) ≤ (((x.nick : Str).length : Nat) : Int)) ∧ (True)) (
  .ob (IntKind.i64 = IntKind.i64 ∧ (3 : Int) ≠ 0) (
  .ob (IntKind.i64 = IntKind.i64 ∧ (3 : Int) ≠ 0) (
  .ob (1 = 1 ∧ 0 ≤ ((((wrapK .i64 (((slots : Int).tmod 3) + 3)) : Int).tmod 3) : Int) ∧ ((((wrapK .i64 (((slots : Int).tmod 3) + 3)) : Int).tmod 3) : Int) < ((3 : Nat) : Int)) (
  .ob ((cellAt [.int .i64 1, .int .i64 6, .int .i64 8] (0 + ((((wrapK .i64 (((slots : Int).tmod 3) + 3)) : Int).tmod 3) : Int).toNat * 1)) = some (.int .i64 (kQD slots))) (
  .ob (IntKind.i64 = IntKind.i64 ∧ (100 : Int) ≠ 0) (
  .ob (IntKind.i64 = IntKind.i64 ∧ (100 : Int) ≠ 0) (
  .node (!(mayXid ⟨77, 0, 0, (kQD slots), false, [110]⟩)) (
    .ob ((([.int .i64 (kQD slots), .int .i64 (aQD w), .ptr 3 0, .nilp, .int .i64 0], [some (.cells true (zsV .u8 kT0)), some (.cells true (zsV .u8 kT1)), some (.cells true (zsV .u8 kT2)), some (.cells false (cutX x).vs), none, some (.cells false (cutX x).vs), some (.cells false (cutX x).vs), some (.cells false [.int .i64 1, .int .i64 6, .int .i64 8]), none, none, none, none, none, none, none, none, none, none, none, some (.cells false [.int .u32 77, .int .u32 0, .int .i64 0, .int .i64 (kQD slots), .bool false, .str [110]]), none, none, none, none, none, none, none, none]) : Snap) = (loopQD (cutX x) (kQD slots) (aQD w)).S 0) (
    .ob (((0 : Nat) : Int) ≤ (aQD w) ∧ (aQD w) < 100 ∧ ((kQD slots) = 1 ∨ (kQD slots) = 6 ∨ (kQD slots) = 8)) (
    .ob (((!(decide (((qN (kQD slots) (aQD w).toNat) : Int) > (wrapK .i64 ((wrapK .i64 ((kQD slots) * 8)) + 1))))) == true) = true → ((True) ∧ ((True) ∧ ((True) ∧ ((True) ∧ ((True) ∧ (True))))))) (
    .ob (((cond ((!(decide (((qN (kQD slots) (aQD w).toNat) : Int) > (wrapK .i64 ((wrapK .i64 ((kQD slots) * 8)) + 1))))) == true) (decide (((qN (kQD slots) (aQD w).toNat) : Int) > 0)) false) == true) = true → ((True) ∧ ((True) ∧ ((True) ∧ ((True) ∧ ((True) ∧ ((True) ∧ ((True) ∧ ((True) ∧ (True)))))))))) (
    .node ((cond ((cond ((!(decide (((qN (kQD slots) (aQD w).toNat) : Int) > (wrapK .i64 ((wrapK .i64 ((kQD slots) * 8)) + 1))))) == true) (decide (((qN (kQD slots) (aQD w).toNat) : Int) > 0)) false) == true) (((cutX x).dst : Int) == 77) false) == true) (
      .ob (okLogL ⟨77, none, none, none⟩ = true) (
      .ob (((decide (((aQD w) : Int) > 0)) == true) = true → ((True) ∧ ((True) ∧ ((True) ∧ ((True) ∧ ((True) ∧ (True))))))) (
      .ob (((cond ((decide (((aQD w) : Int) > 0)) == true) (decide (((aQD w) : Int) ≤ (wrapK .i64 ((wrapK .i64 ((kQD slots) * 8)) + 1)))) false) == true) = true → ((True) ∧ ((True) ∧ ((True) ∧ (True))))) (
      .ob (((cond ((cond ((decide (((aQD w) : Int) > 0)) == true) (decide (((aQD w) : Int) ≤ (wrapK .i64 ((wrapK .i64 ((kQD slots) * 8)) + 1)))) false) == true) (((cutX x).dst : Int) == 77) false) == true) = true → ((True) ∧ ((True) ∧ ((True) ∧ (True))))) (
      .ob (((cond ((cond ((cond ((decide (((aQD w) : Int) > 0)) == true) (decide (((aQD w) : Int) ≤ (wrapK .i64 ((wrapK .i64 ((kQD slots) * 8)) + 1)))) false) == true) (((cutX x).dst : Int) == 77) false) == true) (((cutX x).src : Int) != 77) false) == true) = true → ((True) ∧ ((True) ∧ (True)))) (
      .node (((logAdd ⟨77, none, none, none⟩ (cutX x)).1 == (cond ((cond ((cond ((cond ((decide (((aQD w) : Int) > 0)) == true) (decide (((aQD w) : Int) ≤ (wrapK .i64 ((wrapK .i64 ((kQD slots) * 8)) + 1)))) false) == true) (((cutX x).dst : Int) == 77) false) == true) (((cutX x).src : Int) != 77) false) == true) (mayXid (cutX x)) false)) == true) (
        .ob (okLenL (logAdd ⟨77, none, none, none⟩ (cutX x)).2 = true) (
        .node (cond ((cond ((cond ((cond ((decide (((aQD w) : Int) > 0)) == true) (decide (((aQD w) : Int) ≤ (wrapK .i64 ((wrapK .i64 ((kQD slots) * 8)) + 1)))) false) == true) (((cutX x).dst : Int) == 77) false) == true) (((cutX x).src : Int) != 77) false) == true) (mayXid (cutX x)) false) (
          .leaf (.bool ((((Option.getD ((logAdd ⟨77, none, none, none⟩ (cutX x)).2 : Gw.Log).devs []).length : Int) : Int) == 1))) (
          .leaf (.bool ((((Option.getD ((logAdd ⟨77, none, none, none⟩ (cutX x)).2 : Gw.Log).devs []).length : Int) : Int) == 0))))) (
        .leaf (.bool false)))))))) (
      .ob (((decide (((aQD w) : Int) > 0)) == true) = true → ((True) ∧ ((True) ∧ ((True) ∧ ((True) ∧ ((True) ∧ (True))))))) (
      .ob (((cond ((decide (((aQD w) : Int) > 0)) == true) (decide (((aQD w) : Int) ≤ (wrapK .i64 ((wrapK .i64 ((kQD slots) * 8)) + 1)))) false) == true) = true → ((True) ∧ ((True) ∧ ((True) ∧ (True))))) (
      .ob (((cond ((cond ((decide (((aQD w) : Int) > 0)) == true) (decide (((aQD w) : Int) ≤ (wrapK .i64 ((wrapK .i64 ((kQD slots) * 8)) + 1)))) false) == true) (((cutX x).dst : Int) == 77) false) == true) = true → ((True) ∧ ((True) ∧ ((True) ∧ (True))))) (
      .ob (((cond ((cond ((cond ((decide (((aQD w) : Int) > 0)) == true) (decide (((aQD w) : Int) ≤ (wrapK .i64 ((wrapK .i64 ((kQD slots) * 8)) + 1)))) false) == true) (((cutX x).dst : Int) == 77) false) == true) (((cutX x).src : Int) != 77) false) == true) = true → ((True) ∧ ((True) ∧ (True)))) (
      .node ((false == (cond ((cond ((cond ((cond ((decide (((aQD w) : Int) > 0)) == true) (decide (((aQD w) : Int) ≤ (wrapK .i64 ((wrapK .i64 ((kQD slots) * 8)) + 1)))) false) == true) (((cutX x).dst : Int) == 77) false) == true) (((cutX x).src : Int) != 77) false) == true) (mayXid (cutX x)) false)) == true) (
        .ob (okLenL ⟨77, none, none, none⟩ = true) (
        .node (cond ((cond ((cond ((cond ((decide (((aQD w) : Int) > 0)) == true) (decide (((aQD w) : Int) ≤ (wrapK .i64 ((wrapK .i64 ((kQD slots) * 8)) + 1)))) false) == true) (((cutX x).dst : Int) == 77) false) == true) (((cutX x).src : Int) != 77) false) == true) (mayXid (cutX x)) false) (
          .leaf (.bool ((((Option.getD (⟨77, none, none, none⟩ : Gw.Log).devs []).length : Int) : Int) == 1))) (
          .leaf (.bool ((((Option.getD (⟨77, none, none, none⟩ : Gw.Log).devs []).length : Int) : Int) == 0))))) (
        .leaf (.bool false)))))))))))) (
    .ob (((V.beq (.agg [.int .u32 77, .int .u32 0, .int .i64 0, .int .i64 (kQD slots), .bool false, .str [110]]) (.agg [.int .u32 77, .int .u32 0, .int .i64 0, .int .i64 (kQD slots), .bool false, .str [110]])) && true) = true) (
    .ob ((([.int .i64 (kQD slots), .int .i64 (aQD w), .ptr 3 0, .ptr 25 0, .int .i64 0], [some (.cells true (zsV .u8 kT0)), some (.cells true (zsV .u8 kT1)), some (.cells true (zsV .u8 kT2)), some (.cells false (cutX x).vs), none, some (.cells false (cutX x).vs), some (.cells false (cutX x).vs), some (.cells false [.int .i64 1, .int .i64 6, .int .i64 8]), none, none, none, none, none, none, none, none, none, none, none, some (.cells false [.int .u32 77, .int .u32 0, .int .i64 0, .int .i64 (kQD slots), .bool false, .str [110]]), none, none, none, none, none, some (.cells false [.int .u32 77, .int .u32 0, .int .i64 0, .int .i64 (kQD slots), .bool false, .str [110], .int .i64 0, .ptr 27 0]), none, some (.obj (.log ⟨77, none, none, none⟩))]) : Snap) = (loopQD (cutX x) (kQD slots) (aQD w)).S 0) (
    .ob (((0 : Nat) : Int) ≤ (aQD w) ∧ (aQD w) < 100 ∧ ((kQD slots) = 1 ∨ (kQD slots) = 6 ∨ (kQD slots) = 8)) (
    .ob (((!(decide (((qN (kQD slots) (aQD w).toNat) : Int) > (wrapK .i64 ((wrapK .i64 ((kQD slots) * 8)) + 1))))) == true) = true → ((True) ∧ ((True) ∧ ((True) ∧ ((True) ∧ ((True) ∧ (True))))))) (
    .ob (((cond ((!(decide (((qN (kQD slots) (aQD w).toNat) : Int) > (wrapK .i64 ((wrapK .i64 ((kQD slots) * 8)) + 1))))) == true) (decide (((qN (kQD slots) (aQD w).toNat) : Int) > 0)) false) == true) = true → ((True) ∧ ((True) ∧ ((True) ∧ ((True) ∧ ((True) ∧ ((True) ∧ ((True) ∧ ((True) ∧ (True)))))))))) (
    .node ((cond ((cond ((!(decide (((qN (kQD slots) (aQD w).toNat) : Int) > (wrapK .i64 ((wrapK .i64 ((kQD slots) * 8)) + 1))))) == true) (decide (((qN (kQD slots) (aQD w).toNat) : Int) > 0)) false) == true) (((cutX x).dst : Int) == 77) false) == true) (
      .ob (okLogL ⟨77, none, none, none⟩ = true) (
      .ob (((decide (((aQD w) : Int) > 0)) == true) = true → ((True) ∧ ((True) ∧ ((True) ∧ ((True) ∧ ((True) ∧ (True))))))) (
      .ob (((cond ((decide (((aQD w) : Int) > 0)) == true) (decide (((aQD w) : Int) ≤ (wrapK .i64 ((wrapK .i64 ((kQD slots) * 8)) + 1)))) false) == true) = true → ((True) ∧ ((True) ∧ ((True) ∧ (True))))) (
      .ob (((cond ((cond ((decide (((aQD w) : Int) > 0)) == true) (decide (((aQD w) : Int) ≤ (wrapK .i64 ((wrapK .i64 ((kQD slots) * 8)) + 1)))) false) == true) (((cutX x).dst : Int) == 77) false) == true) = true → ((True) ∧ ((True) ∧ ((True) ∧ (True))))) (
      .ob (((cond ((cond ((cond ((decide (((aQD w) : Int) > 0)) == true) (decide (((aQD w) : Int) ≤ (wrapK .i64 ((wrapK .i64 ((kQD slots) * 8)) + 1)))) false) == true) (((cutX x).dst : Int) == 77) false) == true) (((cutX x).src : Int) != 77) false) == true) = true → ((True) ∧ ((True) ∧ (True)))) (
      .node (((logAdd ⟨77, none, none, none⟩ (cutX x)).1 == (cond ((cond ((cond ((cond ((decide (((aQD w) : Int) > 0)) == true) (decide (((aQD w) : Int) ≤ (wrapK .i64 ((wrapK .i64 ((kQD slots) * 8)) + 1)))) false) == true) (((cutX x).dst : Int) == 77) false) == true) (((cutX x).src : Int) != 77) false) == true) (mayXid (cutX x)) false)) == true) (
        .ob (okLenL (logAdd ⟨77, none, none, none⟩ (cutX x)).2 = true) (
        .node (cond ((cond ((cond ((cond ((decide (((aQD w) : Int) > 0)) == true) (decide (((aQD w) : Int) ≤ (wrapK .i64 ((wrapK .i64 ((kQD slots) * 8)) + 1)))) false) == true) (((cutX x).dst : Int) == 77) false) == true) (((cutX x).src : Int) != 77) false) == true) (mayXid (cutX x)) false) (
          .leaf (.bool ((((Option.getD ((logAdd ⟨77, none, none, none⟩ (cutX x)).2 : Gw.Log).devs []).length : Int) : Int) == 1))) (
          .leaf (.bool ((((Option.getD ((logAdd ⟨77, none, none, none⟩ (cutX x)).2 : Gw.Log).devs []).length : Int) : Int) == 0))))) (
        .leaf (.bool false)))))))) (
      .ob (((decide (((aQD w) : Int) > 0)) == true) = true → ((True) ∧ ((True) ∧ ((True) ∧ ((True) ∧ ((True) ∧ (True))))))) (
      .ob (((cond ((decide (((aQD w) : Int) > 0)) == true) (decide (((aQD w) : Int) ≤ (wrapK .i64 ((wrapK .i64 ((kQD slots) * 8)) + 1)))) false) == true) = true → ((True) ∧ ((True) ∧ ((True) ∧ (True))))) (
      .ob (((cond ((cond ((decide (((aQD w) : Int) > 0)) == true) (decide (((aQD w) : Int) ≤ (wrapK .i64 ((wrapK .i64 ((kQD slots) * 8)) + 1)))) false) == true) (((cutX x).dst : Int) == 77) false) == true) = true → ((True) ∧ ((True) ∧ ((True) ∧ (True))))) (
      .ob (((cond ((cond ((cond ((decide (((aQD w) : Int) > 0)) == true) (decide (((aQD w) : Int) ≤ (wrapK .i64 ((wrapK .i64 ((kQD slots) * 8)) + 1)))) false) == true) (((cutX x).dst : Int) == 77) false) == true) (((cutX x).src : Int) != 77) false) == true) = true → ((True) ∧ ((True) ∧ (True)))) (
      .node ((false == (cond ((cond ((cond ((cond ((decide (((aQD w) : Int) > 0)) == true) (decide (((aQD w) : Int) ≤ (wrapK .i64 ((wrapK .i64 ((kQD slots) * 8)) + 1)))) false) == true) (((cutX x).dst : Int) == 77) false) == true) (((cutX x).src : Int) != 77) false) == true) (mayXid (cutX x)) false)) == true) (
        .ob (okLenL ⟨77, none, none, none⟩ = true) (
        .node (cond ((cond ((cond ((cond ((decide (((aQD w) : Int) > 0)) == true) (decide (((aQD w) : Int) ≤ (wrapK .i64 ((wrapK .i64 ((kQD slots) * 8)) + 1)))) false) == true) (((cutX x).dst : Int) == 77) false) == true) (((cutX x).src : Int) != 77) false) == true) (mayXid (cutX x)) false) (
          .leaf (.bool ((((Option.getD (⟨77, none, none, none⟩ : Gw.Log).devs []).length : Int) : Int) == 1))) (
          .leaf (.bool ((((Option.getD (⟨77, none, none, none⟩ : Gw.Log).devs []).length : Int) : Int) == 0))))) (
        .leaf (.bool false))))))))))))))))))))
set_option maxRecDepth 1000000 in
theorem treeQD_eq (x : Gw.Xid) (slots w : Int) : funT (mkXT pxL oxL) (mkXP pxL) (mkX pxL oxL) D (fun _ => noOrc) (fun k => match k with | 8 => [12] | _ => []) 11 (fun k => match k with | 23 => some fun _ h => (.int .i64 (([1, 6, 8] : List Int).getD ((((wrapK .i64 (((slots : Int).tmod 3) + 3)) : Int).tmod 3) : Int).toNat 0), h) | _ => none) [12] (ltQD x slots w) (dOf 8) [.agg x.vs, .int .i64 slots, .int .i64 w] (tabH kT0 kT1 kT2 3) (fun v _ => v) = treeQD x slots w := by kernel_rfl
theorem tm_range (n b : Int) (hb : 0 < b) : -b < n.tmod b ∧ n.tmod b < b := ⟨Int.lt_tmod_of_pos n hb, Int.tmod_lt_of_pos n hb⟩
theorem idx_range (n b : Int) (hb : 0 < b) (hb2 : b < 1000) : ∃ j : Int, (wrapK .i64 (n.tmod b + b)).tmod b = j ∧ 0 ≤ j ∧ j < b := by
  obtain ⟨h1, h2⟩ := tm_range n b hb
  rw [wrap64 (by omega) (by omega)]
  exact ⟨_, rfl, Int.tmod_nonneg b (by omega), Int.tmod_lt_of_pos _ hb⟩
theorem aQD_range (w : Int) : 0 ≤ aQD w ∧ aQD w < 100 := by
  obtain ⟨j, hj, h0, h1⟩ := idx_range w 100 (by omega) (by omega)
  unfold aQD
  rw [hj]
  exact ⟨h0, h1⟩
theorem kQD_all (slots : Int) : (kQD slots = 1 ∨ kQD slots = 6 ∨ kQD slots = 8) ∧ (0 ≤ (wrapK .i64 (slots.tmod 3 + 3)).tmod 3 ∧ (wrapK .i64 (slots.tmod 3 + 3)).tmod 3 < 3) ∧ cellAt [V.int .i64 1, .int .i64 6, .int .i64 8] (0 + ((wrapK .i64 (slots.tmod 3 + 3)).tmod 3).toNat * 1) = some (.int .i64 (kQD slots)) := by
  obtain ⟨j, hj, h0, h1⟩ := idx_range slots 3 (by omega) (by omega)
  unfold kQD
  rw [hj]
  have : j = 0 ∨ j = 1 ∨ j = 2 := by omega
  rcases this with rfl | rfl | rfl
  · exact ⟨.inl rfl, ⟨by omega, by omega⟩, rfl⟩
  · exact ⟨.inr (.inl rfl), ⟨by omega, by omega⟩, rfl⟩
  · exact ⟨.inr (.inr rfl), ⟨by omega, by omega⟩, rfl⟩
theorem roundQD (y : Gw.Xid) (K A : Int) (i : Nat) (Pr : Ex × Snap → Prop) (ho : ((loopQD y K A).out i).sat Pr) : (treeQDL y K A i).sat ((loopQD y K A).next (fun i => 100 - i) i Pr) := by
  obtain ⟨⟨hi, hA, hK⟩, hP⟩ := ho
  have hP' : Pr _ := hP
  have w1 : wrapK .i64 (wrapK .i64 (K * 8) + 1) = 8 * K + 1 := by
    rw [wrap64 (n := K * 8) (by omega) (by omega), wrap64 (by omega) (by omega)]; omega
  have w2 : wrapK .i64 ((i : Int) + 1) = ((i + 1 : Nat) : Int) := by rw [wrap64 (by omega) (by omega)]; omega
  have hq : 0 ≤ qN K i ∧ qN K i ≤ 100 := by unfold qN; omega
  have w3 : wrapK .i64 (qN K i + 1) = qN K i + 1 := wrap64 (by omega) (by omega)
  unfold treeQDL
  simp only [DT.sat, w1, w2, w3]
  refine ⟨fun h => ?_, fun h => ?_⟩
  · have hlt : (i : Int) < A := by simpa using h
    have fin : ∀ s : Snap, s = (loopQD y K A).S (i + 1) → (loopQD y K A).next (fun i => 100 - i) i Pr (.normal, s) := fun s hs =>
      ⟨i + 1, hs, by simp only; omega, ⟨by omega, hA, hK⟩, hP⟩
    refine ⟨fun h2 => fin _ ?_, fun h2 => ?_⟩
    · have h2' : qN K i > 8 * K + 1 := by simpa using h2
      have : qN K (i + 1) = qN K i := by unfold qN at h2' ⊢; omega
      simp only [loopQD, this]
    · have h2' : ¬ qN K i > 8 * K + 1 := by simpa using h2
      have : qN K (i + 1) = qN K i + 1 := by unfold qN at h2' ⊢; omega
      have fin2 := fun s hs => fin s hs
      refine ⟨⟨trivial, by decide⟩, ⟨trivial, by decide⟩, fun _ => by simp, fun _ => fin _ ?_, fun _ => ⟨fun _ => fin _ ?_, fun _ => fin _ ?_⟩⟩ <;> simp only [loopQD, this]
  · have hge : A ≤ (i : Int) := by simpa using h
    have e : (i : Int) = A := by omega
    have e2 : qN K A.toNat = qN K i := by rw [← e]; rfl
    rw [e2] at hP
    exact hP
theorem nick110 : nickOk [110] = true := by kernel_rfl
theorem satQD (x : Gw.Xid) (slots w : Int) : (treeQD x slots w).sat fun r => r = .bool true := by
  unfold treeQD
  have tx := text25 x.nick
  obtain ⟨hK, hj, hc⟩ := kQD_all slots
  obtain ⟨hA0, hA1⟩ := aQD_range w
  have mq : mayXid ⟨77, 0, 0, kQD slots, false, [110]⟩ = true := by rcases hK with h | h | h <;> rw [h] <;> simp [mayXid, nick110]
  rw [hc]
  rw [mq]
  generalize hyy : cutX x = y
  generalize kQD slots = K at *
  generalize aQD w = A at *
  have w1 : wrapK .i64 (wrapK .i64 (K * 8) + 1) = 8 * K + 1 := by
    rw [wrap64 (n := K * 8) (by omega) (by omega), wrap64 (by omega) (by omega)]; omega
  have hq : qN K A.toNat = min A (8 * K + 2) := by unfold qN; omega
  rw [w1, hq]
  have hs0 : qN K 0 = 0 := by unfold qN; omega
  have ent : ∀ s : Snap, s = (loopQD y K A).S 0 ↔ s = (loopQD y K A).S 0 := fun s => Iff.rfl
  simp only [DT.sat]
  refine ⟨⟨tx, trivial⟩, by simp, by simp, ⟨trivial, hj⟩, trivial, by simp, by simp, fun h => by simp at h, fun _ => ⟨by simp [V.beq, V.beqs], ?_, ⟨by omega, hA1, hK⟩, by simp, by simp, ?_⟩⟩
  · simp only [loopQD, hs0]
    rfl
  · by_cases a0 : A > 0 ∧ A ≤ 8 * K + 1
    · have e1 : ¬ min A (8 * K + 2) > 8 * K + 1 := by omega
      have e2 : min A (8 * K + 2) > 0 := by omega
      obtain ⟨a1, a2⟩ := a0
      by_cases d : y.dst = 77
      · cases mx : mayXid y with
        | false =>
          have l1 : logAdd ⟨77, none, none, none⟩ y = (false, ⟨77, none, none, none⟩) := by simp [logAdd, mx]
          simp only [l1]
          simp [e1, e2, a1, a2, d, mx, okLogL, okLenL]
        | true =>
          by_cases s : y.src = 77
          · have l1 : logAdd ⟨77, none, none, none⟩ y = (false, ⟨77, none, none, some [77]⟩) := by simp [logAdd, mx, s, clashAdd]
            simp only [l1]
            simp [e1, e2, a1, a2, d, s, mx, okLogL, okLenL]
          · have l1 : logAdd ⟨77, none, none, none⟩ y = (true, ⟨77, some [⟨y.src, y.nick⟩], some [y.slot], none⟩) := by simp [logAdd, mx, s, logFind]
            simp only [l1]
            simp [e1, e2, a1, a2, d, s, mx, okLogL, okLenL]
      · simp [e1, e2, a1, a2, d, okLogL, okLenL]
    · have e3 : (cond (!decide (min A (8 * K + 2) > 8 * K + 1) == true) (decide (min A (8 * K + 2) > 0)) false) = false := by
        by_cases q : A > 0
        · have : min A (8 * K + 2) > 8 * K + 1 := by omega
          simp [this]
        · have : ¬ min A (8 * K + 2) > 0 := by omega
          simp [this]
      have e4 : (cond (decide (A > 0) == true) (decide (A ≤ 8 * K + 1)) false) = false := by
        by_cases q : A > 0
        · have : ¬ A ≤ 8 * K + 1 := by omega
          simp [q, this]
        · simp [q]
      simp only [e3, e4]
      simp [okLogL, okLenL]
      intro h1 h2
      exfalso
      omega
end Go.Proofs.YtjnhaaolbcmdbaaGreatDoor

namespace Go.Proofs.YtjnhaaolbcmdbaaGreatDoor.queryDeaf
open Go Gw Go.RowKit Go.ChangeShapes Go.WideShapes Go.ChangeAt
set_option maxRecDepth 1000000
theorem loopsQD : loopsIn 0 (dOf 8).body = [(0, lpOf 8 0)] := by kernel_rfl
theorem run (x : Gw.Xid) (slots w : Int) : Run Tryz.prog 8 [.agg x.vs, .int .i64 slots, .int .i64 w] (tabH kT0 kT1 kT2 3) fun r _ => r = .bool true := by
  refine run_loops mixed tabL tabD (dIs (by kernel_rfl)) (lt := ltQD x slots w) (fun hint p hp => ?_) (treeQD_eq x slots w) (Q := fun r => r = .bool true) (satQD x slots w)
  rw [loopsQD] at hp
  simp only [List.mem_cons, List.not_mem_nil, or_false] at hp
  subst hp
  exact LoopD.lt1 mixed tabL tabD (loopQD (cutX x) (kQD slots) (aQD w)) (fun i => 100 - i) (fun ex => match ex with | .normal => ⟨show 3 ≤ 28 by decide, show 3 ≤ 28 by decide⟩ | .exit _ => ⟨show 3 ≤ 28 by decide, show 3 ≤ 28 by decide⟩ | .ret => ⟨show 3 ≤ 28 by decide, show 3 ≤ 28 by decide⟩) (by kernel_rfl) (orc := fun _ => noOrc) (treeQDL_eq (cutX x) (kQD slots) (aQD w)) (roundQD (cutX x) (kQD slots) (aQD w))
theorem walk {W : World} (T : Tabs W kT0 kT1 kT2) (x : Gw.Xid) (slots w : Int) : Calls Tryz.prog 8 #[.agg (gXid x).toArray, .int .i64 slots, .int .i64 w] W fun e W' => e = .returned (.bool true) ∧ Below W.heap.size W W' := by
  obtain ⟨ρ, hG, _, hH, _⟩ := HR.tabs T (fun k => k < W.heap.size) (fun _ h => h) 3 (Nat.le_refl _)
  have hr := (run x slots w).2 (fun k => k < W.heap.size) ρ [.agg (gXid x).toArray, .int .i64 slots, .int .i64 w] W hG (VRs.cons (xid_VR ρ x) (VRs.cons (by simp only [VR]) (VRs.cons (by simp only [VR]) (by simp [VRs])))) hH
  refine hr.mono fun e w' ⟨x, r, h', ρ2, h1, h2, _, h4, _, h6⟩ => ⟨?_, h6.below⟩
  subst h1 h2
  simp only [VR] at h4
  rw [h4]

theorem params : Tryz.f8.params = #[32, 3, 3] := by kernel_rfl
theorem contract (H : Type) (enc : TypeId × Value → H) (W : World) (base : Nat) (args : Array Value) (ds gs : List (DataW H)) (before : List MemPlace)
    (hval : ∀ (j : Nat) t v, Tryz.f8.params[j]? = some t → args[j]? = some v → Value.okWide Tryz.prog W .any base t v)
    (hW : DataW.Whole enc Tryz.prog Tryz.f8.params.toList Rows.queryDeafSpec.vars false W args.toList ds gs before) (hL : laidMetH Tryz.prog Rows.queryDeafRow.laid W) :
    Calls Tryz.prog 8 args W fun e W' => ∃ v, e = .returned v ∧ Rows.queryDeafSpec.post enc Tryz.prog Tryz.f8 false true false false W args v W' := by
  have hW' := hW
  obtain ⟨p, q, hA, _⟩ := hW
  rw [params] at hA hval
  obtain ⟨v0, vs0, d0, ds0, p0, q0, e0, _, _, h0, r0⟩ := trodAll_cons hA
  obtain ⟨v1, vs1, d1, ds1, p1, q1, e1, _, _, h1, r1⟩ := trodAll_cons r0
  obtain ⟨v2, vs2, d2, ds2, p2, q2, e2, _, _, h2, r2⟩ := trodAll_cons r1
  obtain ⟨z, _, _⟩ := trodAll_nil r2
  obtain rfl : args = #[v0, v1, v2] := by cases args; simp_all
  have go : Calls Tryz.prog 8 #[v0, v1, v2] W fun e W' => e = .returned (.bool true) ∧ Below W.heap.size W W' := by
    obtain ⟨x, rfl⟩ := xid_arg (hval 0 32 v0 rfl rfl) h0
    obtain ⟨s, rfl, _⟩ := int_arg (show Tryz.prog.underlying 3 = some (.int .i64) by kernel_rfl) (hval 1 3 v1 rfl rfl) h1
    obtain ⟨w, rfl, _⟩ := int_arg (show Tryz.prog.underlying 3 = some (.int .i64) by kernel_rfl) (hval 2 3 v2 rfl rfl) h2
    exact walk (tabs hL) x s w
  refine go.mono fun e W' ⟨he, hB⟩ => ⟨_, he, ?_⟩
  refine post_true laidOut (by kernel_rfl) rfl (tb := 4) rfl u4 (fun ds hd => ?_) hW' hB
  rw [params] at hd
  match ds, hd with
  | [a0, a1, a2], _ => exact ⟨rfl, rfl, rfl⟩

noncomputable def wArgs : Array Value := #[.agg #[.int .u32 0, .int .u32 0, .int .i64 0, .int .i64 0, .bool false, .string ⟨#[]⟩], .int .i64 0, .int .i64 0]
theorem reads (os : Os) {H : Type} (enc : TypeId × Value → H) : ∃ places, DataW.whole enc Tryz.prog ((laidWorld os).forCall (fun _ _ => 0) ⟨#[], wArgs, []⟩).memory Tryz.f8.params.toList Rows.queryDeafSpec.vars false wArgs.toList 8 = some ([.agg [.lit (.int .u32 0), .lit (.int .u32 0), .lit (.int .i64 0), .lit (.int .i64 0), .lit (.bool false), .lit (.string [])], .lit (.int .i64 0), .lit (.int .i64 0)], [], places) :=
  ⟨[], by kernel_rfl⟩

theorem lifted (os : Os) (started : os.Started) (H : Type) (enc : TypeId × Value → H) (F : Stop.Interp) :
    ReturnsInHanded {} Tryz.checked os 8 .any ((OpenSpec.ofChange Rows.queryDeafSpec).preRow enc Tryz.prog Tryz.f8 Rows.queryDeafRow.domain false Rows.queryDeafRow.laid) (((OpenSpec.ofChange Rows.queryDeafSpec).at F).post enc Tryz.prog Tryz.f8 false true false false) := by
  obtain ⟨places, hx⟩ := reads os enc
  refine returnsInHanded_of_row (C := Tryz.checked) (s := OpenSpec.ofChange Rows.queryDeafSpec) own started (by kernel_rfl) Tryz.func8
    (witness_row_at (enc := enc) (C := Tryz.checked) false (laidWorld os) wArgs rfl (by kernel_rfl) (by kernel_rfl) (by kernel_rfl)
      (OpenSpec.preRow_of_cond 8 hx (by kernel_rfl) (fun k hk => by cases hk) (by kernel_rfl) (laid_met os _))) ?_
  intro W base args ds gs before hval hW _ _ _ hL _ _
  exact contract H enc W base args ds gs before hval hW hL

theorem said : Rows.QueryDeafSaid :=
  OpenClaim.holds_of_cond 8 Tryz.f8 rfl rfl rfl rfl rfl rfl rfl ⟨rfl, rfl, rfl, rfl, rfl⟩ rfl rfl rfl rfl rfl (by kernel_rfl) Tryz.func8 (by kernel_rfl)
    (of_decide_eq_true (by kernel_rfl)) (by unfold Func.isWrapper; first | (rw [if_pos (by decide +kernel)]; kernel_rfl) | (rw [if_neg (by decide +kernel)]; exact ⟨rfl, rfl⟩))
    (fun os started H enc _ F => by rw [OpenClaim.pre_eq_preRow]; exact lifted os started H enc F)

theorem plain (f : FuncId) (fn : Func) (hf : Tryz.pinned.checked.prog.funcNamed "glowworm/glowwormlaw16.QueryDeaf" = some f) (hfn : Tryz.pinned.checked.prog.funcs[f]? = some fn) :
    true = Tryz.pinned.checked.prog.looks [] ∧ ∀ (j : Nat) t, fn.params[j]? = some t → Tryz.pinned.checked.prog.wantsStandIn t = false := by
  obtain rfl : f = 8 := Option.some.inj ((show Tryz.prog.funcNamed "glowworm/glowwormlaw16.QueryDeaf" = some 8 by kernel_rfl).symm.trans hf) |>.symm
  obtain rfl : fn = Tryz.f8 := (Option.some.inj (Tryz.func8.symm.trans hfn)).symm
  refine ⟨by kernel_rfl, fun j t ht => ?_⟩
  have hall : Tryz.f8.params.toList.all (fun t => Tryz.prog.wantsStandIn t == false) = true := by kernel_rfl
  have hm : t ∈ Tryz.f8.params.toList := by
    have := Array.mem_of_getElem? ht
    simpa using this
  have := List.all_eq_true.1 hall t hm
  have h2 : Tryz.prog.wantsStandIn t = false := by simpa using this
  exact h2

theorem card : Rows.QueryDeafCardSaid :=
  Claim7.holds_tied_plain_at .later [] _ _ _ _ said (fun _ h => by cases h) (by kernel_rfl) (fun _ h => by cases h) queryDeaf_row_tie rfl ⟨rfl, rfl⟩ (by kernel_rfl) rfl plain (by kernel_rfl)
end Go.Proofs.YtjnhaaolbcmdbaaGreatDoor.queryDeaf
