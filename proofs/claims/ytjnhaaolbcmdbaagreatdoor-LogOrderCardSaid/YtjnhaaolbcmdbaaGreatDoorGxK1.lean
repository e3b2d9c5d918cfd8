/- box.May and MayAsk: what one may be asked for. -/
import Derived.Test.YtjnhaaolbcmdbaaGreatDoorGxE1
import Derived.Test.YtjnhaaolbcmdbaaGreatDoorGxT8
namespace Go.Proofs.YtjnhaaolbcmdbaaGreatDoor
open Go Gw Go.RowKit
set_option linter.unusedSimpArgs false
set_option linter.unusedVariables false
def noOrc : Orc := fun _ => none
theorem dIs {f : Nat} (h : (D f).isSome = true) : D f = some (dOf f) := dOf_ok h
def mayAsk (a : Gw.Ask) : Bool :=
  if a.kind = 1 then (a.n == 1 || a.n == 6 || a.n == 8) && a.id == 0 && a.body == []
  else if a.kind = 2 ∨ a.kind = 7 then a.n == 0 && a.id != 0 && a.id != 4294967295 && a.body == []
  else if a.kind = 3 then a.n == 0 && a.id == 0 && decide (a.body.length ≤ 64)
  else if a.kind = 4 ∨ a.kind = 5 ∨ a.kind = 6 then a.n == 0 && a.id == 0 && a.body == []
  else false
def pAsk : List V → Option V
  | [.agg [.int .i64 k, .int .i64 n, .int .u32 i, .str b]] => some (.bool (mayAsk ⟨k, n, i, b⟩))
  | _ => none
theorem pAsk_in {args : List V} {v : V} (h : pAsk args = some v) : ∃ a : Gw.Ask, args = [.agg a.vs] ∧ v = .bool (mayAsk a) := by
  unfold pAsk at h
  split at h
  · rename_i k n i b
    simp only [Option.some.injEq] at h
    exact ⟨⟨k, n, i, b⟩, rfl, h.symm⟩
  · cases h
def tree31 (a : Gw.Ask) : DT V :=
  .node ((a.kind : Int) == 1) (
    .ob (True) (
    .node ((((a.kind : Int) == a.kind) && (((a.n : Int) == a.n) && (((a.id : Int) == 0) && (((a.body : Str) == []) && true)))) == true) (
      .node (((a.n : Int) == 1) == false) (
        .node (((a.n : Int) == 6) == false) (
          .leaf (.bool ((a.n : Int) == 8))) (
          .leaf (.bool true))) (
        .leaf (.bool true))) (
      .leaf (.bool false)))) (
    .node ((a.kind : Int) == 2) (
      .ob (True) (
      .ob (((((a.kind : Int) == a.kind) && (((a.n : Int) == 0) && (((a.id : Int) == a.id) && (((a.body : Str) == []) && true)))) == true) = true → ((True) ∧ ((True) ∧ ((True) ∧ (True))))) (
      .ob (((cond ((((a.kind : Int) == a.kind) && (((a.n : Int) == 0) && (((a.id : Int) == a.id) && (((a.body : Str) == []) && true)))) == true) ((a.id : Int) != 0) false) == true) = true → ((True) ∧ ((True) ∧ ((True) ∧ (True))))) (
      .leaf (.bool (cond ((cond ((((a.kind : Int) == a.kind) && (((a.n : Int) == 0) && (((a.id : Int) == a.id) && (((a.body : Str) == []) && true)))) == true) ((a.id : Int) != 0) false) == true) ((a.id : Int) != 4294967295) false)))))) (
      .node ((a.kind : Int) == 7) (
        .ob (True) (
        .ob (((((a.kind : Int) == a.kind) && (((a.n : Int) == 0) && (((a.id : Int) == a.id) && (((a.body : Str) == []) && true)))) == true) = true → ((True) ∧ ((True) ∧ ((True) ∧ (True))))) (
        .ob (((cond ((((a.kind : Int) == a.kind) && (((a.n : Int) == 0) && (((a.id : Int) == a.id) && (((a.body : Str) == []) && true)))) == true) ((a.id : Int) != 0) false) == true) = true → ((True) ∧ ((True) ∧ ((True) ∧ (True))))) (
        .leaf (.bool (cond ((cond ((((a.kind : Int) == a.kind) && (((a.n : Int) == 0) && (((a.id : Int) == a.id) && (((a.body : Str) == []) && true)))) == true) ((a.id : Int) != 0) false) == true) ((a.id : Int) != 4294967295) false)))))) (
        .node ((a.kind : Int) == 3) (
          .ob (True) (
          .ob (((((a.kind : Int) == a.kind) && (((a.n : Int) == 0) && (((a.id : Int) == 0) && (((a.body : Str) == a.body) && true)))) == true) = true → ((True) ∧ ((True) ∧ ((True) ∧ ((True) ∧ (True)))))) (
          .leaf (.bool (cond ((((a.kind : Int) == a.kind) && (((a.n : Int) == 0) && (((a.id : Int) == 0) && (((a.body : Str) == a.body) && true)))) == true) (decide ((((a.body : Str).length : Int) : Int) ≤ 64)) false))))) (
          .node ((a.kind : Int) == 4) (
            .ob (True) (
            .leaf (.bool (((a.kind : Int) == a.kind) && (((a.n : Int) == 0) && (((a.id : Int) == 0) && (((a.body : Str) == []) && true))))))) (
            .node ((a.kind : Int) == 5) (
              .ob (True) (
              .leaf (.bool (((a.kind : Int) == a.kind) && (((a.n : Int) == 0) && (((a.id : Int) == 0) && (((a.body : Str) == []) && true))))))) (
              .node ((a.kind : Int) == 6) (
                .ob (True) (
                .leaf (.bool (((a.kind : Int) == a.kind) && (((a.n : Int) == 0) && (((a.id : Int) == 0) && (((a.body : Str) == []) && true))))))) (
                .leaf (.bool false))))))))
set_option maxRecDepth 1000000 in
theorem tree31_eq (a : Gw.Ask) : funT (mkXT noPX noOX) (mkXP noPX) (mkX noPX noOX) D (fun _ => noOrc) (fun _ => []) 5 noOrc [] noLt (dOf 31) [.agg a.vs] (smallH []) (fun v _ => v) = tree31 a := by kernel_rfl
theorem ans31 : AnsO Tryz.prog 31 (gP pAsk) := by
  refine ansP fun args v h => ?_
  obtain ⟨a, rfl, rfl⟩ := pAsk_in h
  refine ⟨rfl, rfl, run_plain mixed TabX.nil tabD (dIs (by kernel_rfl)) (by kernel_rfl) (tree31_eq a) (Q := fun r => r = .bool (mayAsk a)) ?_⟩
  simp [tree31, DT.sat, mayAsk]
  grind
def tree30 (a : Gw.Ask) : DT V :=
  .node ((a.kind : Int) == 1) (
    .ob ((((a.n : Int) == 1) == false) = true → ((True) ∧ ((True) ∧ ((True) ∧ (True))))) (
    .ob (((cond (((a.n : Int) == 1) == false) ((a.n : Int) == 6) true) == false) = true → ((True) ∧ ((True) ∧ ((True) ∧ (True))))) (
    .ob (((cond ((cond (((a.n : Int) == 1) == false) ((a.n : Int) == 6) true) == false) ((a.n : Int) == 8) true) == true) = true → ((True) ∧ ((True) ∧ (True)))) (
    .ob (((cond ((cond ((cond (((a.n : Int) == 1) == false) ((a.n : Int) == 6) true) == false) ((a.n : Int) == 8) true) == true) (!((a.id : Int) != 0)) false) == true) = true → ((True) ∧ ((True) ∧ (True)))) (
    .leaf (.bool (cond ((cond ((cond ((cond (((a.n : Int) == 1) == false) ((a.n : Int) == 6) true) == false) ((a.n : Int) == 8) true) == true) (!((a.id : Int) != 0)) false) == true) (!(!((a.body : Str) == []))) false))))))) (
    .node ((a.kind : Int) == 2) (
      .ob ((((a.id : Int) != 0) == true) = true → ((True) ∧ ((True) ∧ (True)))) (
      .ob (((cond (((a.id : Int) != 0) == true) ((a.id : Int) != 4294967295) false) == true) = true → ((True) ∧ ((True) ∧ (True)))) (
      .ob (((cond ((cond (((a.id : Int) != 0) == true) ((a.id : Int) != 4294967295) false) == true) (!((a.n : Int) != 0)) false) == true) = true → ((True) ∧ ((True) ∧ (True)))) (
      .leaf (.bool (cond ((cond ((cond (((a.id : Int) != 0) == true) ((a.id : Int) != 4294967295) false) == true) (!((a.n : Int) != 0)) false) == true) (!(!((a.body : Str) == []))) false)))))) (
      .node ((a.kind : Int) == 7) (
        .ob ((((a.id : Int) != 0) == true) = true → ((True) ∧ ((True) ∧ (True)))) (
        .ob (((cond (((a.id : Int) != 0) == true) ((a.id : Int) != 4294967295) false) == true) = true → ((True) ∧ ((True) ∧ (True)))) (
        .ob (((cond ((cond (((a.id : Int) != 0) == true) ((a.id : Int) != 4294967295) false) == true) (!((a.n : Int) != 0)) false) == true) = true → ((True) ∧ ((True) ∧ (True)))) (
        .leaf (.bool (cond ((cond ((cond (((a.id : Int) != 0) == true) ((a.id : Int) != 4294967295) false) == true) (!((a.n : Int) != 0)) false) == true) (!(!((a.body : Str) == []))) false)))))) (
        .node ((a.kind : Int) == 3) (
          .ob (((decide ((((a.body : Str).length : Int) : Int) ≤ 64)) == true) = true → ((True) ∧ ((True) ∧ (True)))) (
          .ob (((cond ((decide ((((a.body : Str).length : Int) : Int) ≤ 64)) == true) (!((a.n : Int) != 0)) false) == true) = true → ((True) ∧ ((True) ∧ (True)))) (
          .leaf (.bool (cond ((cond ((decide ((((a.body : Str).length : Int) : Int) ≤ 64)) == true) (!((a.n : Int) != 0)) false) == true) (!((a.id : Int) != 0)) false))))) (
          .node ((a.kind : Int) == 4) (
            .ob (((!((a.n : Int) != 0)) == true) = true → ((True) ∧ ((True) ∧ (True)))) (
            .ob (((cond ((!((a.n : Int) != 0)) == true) (!((a.id : Int) != 0)) false) == true) = true → ((True) ∧ ((True) ∧ (True)))) (
            .leaf (.bool (cond ((cond ((!((a.n : Int) != 0)) == true) (!((a.id : Int) != 0)) false) == true) (!(!((a.body : Str) == []))) false))))) (
            .node ((a.kind : Int) == 5) (
              .ob (((!((a.n : Int) != 0)) == true) = true → ((True) ∧ ((True) ∧ (True)))) (
              .ob (((cond ((!((a.n : Int) != 0)) == true) (!((a.id : Int) != 0)) false) == true) = true → ((True) ∧ ((True) ∧ (True)))) (
              .leaf (.bool (cond ((cond ((!((a.n : Int) != 0)) == true) (!((a.id : Int) != 0)) false) == true) (!(!((a.body : Str) == []))) false))))) (
              .node ((a.kind : Int) == 6) (
                .ob (((!((a.n : Int) != 0)) == true) = true → ((True) ∧ ((True) ∧ (True)))) (
                .ob (((cond ((!((a.n : Int) != 0)) == true) (!((a.id : Int) != 0)) false) == true) = true → ((True) ∧ ((True) ∧ (True)))) (
                .leaf (.bool (cond ((cond ((!((a.n : Int) != 0)) == true) (!((a.id : Int) != 0)) false) == true) (!(!((a.body : Str) == []))) false))))) (
                .leaf (.bool false))))))))
set_option maxRecDepth 1000000 in
theorem tree30_eq (a : Gw.Ask) : funT (mkXT noPX noOX) (mkXP noPX) (mkX noPX noOX) D (fun _ => noOrc) (fun _ => []) 5 noOrc [] noLt (dOf 30) [.agg a.vs] (smallH []) (fun v _ => v) = tree30 a := by kernel_rfl
theorem ans30 : AnsO Tryz.prog 30 (gP pAsk) := by
  refine ansP fun args v h => ?_
  obtain ⟨a, rfl, rfl⟩ := pAsk_in h
  refine ⟨rfl, rfl, run_plain mixed TabX.nil tabD (dIs (by kernel_rfl)) (by kernel_rfl) (tree30_eq a) (Q := fun r => r = .bool (mayAsk a)) ?_⟩
  simp [tree30, DT.sat, mayAsk]
  grind
end Go.Proofs.YtjnhaaolbcmdbaaGreatDoor
