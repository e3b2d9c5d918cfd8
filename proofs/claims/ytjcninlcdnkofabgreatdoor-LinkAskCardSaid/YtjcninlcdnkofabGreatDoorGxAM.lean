/- box.May: what one may be asked for. -/
import Derived.Test.YtjcninlcdnkofabGreatDoorGxP
noncomputable section
namespace Go.Proofs.YtjcninlcdnkofabGreatDoor
open Go Gw Go.RowKit
set_option linter.unusedSimpArgs false
set_option linter.unusedVariables false
def mayAsk (a : Gw.Ask) : Bool :=
  if a.kind = 1 then (a.n == 1 || a.n == 6 || a.n == 8) && a.id == 0 && a.body == []
  else if a.kind = 2 ∨ a.kind = 7 then a.n == 0 && a.id != 0 && a.id != 4294967295 && a.body == []
  else if a.kind = 3 then a.n == 0 && a.id == 0 && decide (a.body.length ≤ 64)
  else if a.kind = 4 ∨ a.kind = 5 ∨ a.kind = 6 then a.n == 0 && a.id == 0 && a.body == []
  else false
def dAsk : List V → Prop
  | [.agg [.int .i64 _, .int .i64 _, .int .u32 _, .str _]] => True
  | _ => False
def pAskQ : List V → V
  | [.agg [.int .i64 k, .int .i64 n, .int .u32 i, .str b]] => .bool (mayAsk ⟨k, n, i, b⟩)
  | _ => .nilp
def treeAM (a : Gw.Ask) : DT V :=
  .node ((a.kind : Int) == 1) (
.ob (True) (
.node ((((a.kind : Int) == a.kind) && (((a.n : Int) == a.n) && (((a.id : Int) == 0) && (((a.body : Str) == []) && true)))) == true) (
.node (((a.n : Int) == 1) == false) (
.node (((a.n : Int) == 6) == false) (
.leaf (.bool ((a.n : Int) == 8))) (
.leaf (.bool true))) (
.leaf (.bool true))) (
.leaf (.bool false)))) (
.node ((a.kind : Int) == 2) (
.ob (True) (
.ob (((((a.kind : Int) == a.kind) && (((a.n : Int) == 0) && (((a.id : Int) == a.id) && (((a.body : Str) == []) && true)))) == true) = true → ((True) ∧ ((True) ∧ ((True) ∧ (True))))) (
.ob (((cond ((((a.kind : Int) == a.kind) && (((a.n : Int) == 0) && (((a.id : Int) == a.id) && (((a.body : Str) == []) && true)))) == true) ((a.id : Int) != 0) false) == true) = true → ((True) ∧ ((True) ∧ ((True) ∧ (True))))) (
.leaf (.bool (cond ((cond ((((a.kind : Int) == a.kind) && (((a.n : Int) == 0) && (((a.id : Int) == a.id) && (((a.body : Str) == []) && true)))) == true) ((a.id : Int) != 0) false) == true) ((a.id : Int) != 4294967295) false)))))) (
.node ((a.kind : Int) == 7) (
.ob (True) (
.ob (((((a.kind : Int) == a.kind) && (((a.n : Int) == 0) && (((a.id : Int) == a.id) && (((a.body : Str) == []) && true)))) == true) = true → ((True) ∧ ((True) ∧ ((True) ∧ (True))))) (
.ob (((cond ((((a.kind : Int) == a.kind) && (((a.n : Int) == 0) && (((a.id : Int) == a.id) && (((a.body : Str) == []) && true)))) == true) ((a.id : Int) != 0) false) == true) = true → ((True) ∧ ((True) ∧ ((True) ∧ (True))))) (
.leaf (.bool (cond ((cond ((((a.kind : Int) == a.kind) && (((a.n : Int) == 0) && (((a.id : Int) == a.id) && (((a.body : Str) == []) && true)))) == true) ((a.id : Int) != 0) false) == true) ((a.id : Int) != 4294967295) false)))))) (
.node ((a.kind : Int) == 3) (
.ob (True) (
.ob (((((a.kind : Int) == a.kind) && (((a.n : Int) == 0) && (((a.id : Int) == 0) && (((a.body : Str) == a.body) && true)))) == true) = true → ((True) ∧ ((True) ∧ ((True) ∧ ((True) ∧ (True)))))) (
.leaf (.bool (cond ((((a.kind : Int) == a.kind) && (((a.n : Int) == 0) && (((a.id : Int) == 0) && (((a.body : Str) == a.body) && true)))) == true) (decide ((((a.body : Str).length : Int) : Int) ≤ 64)) false))))) (
.node ((a.kind : Int) == 4) (
.ob (True) (
.leaf (.bool (((a.kind : Int) == a.kind) && (((a.n : Int) == 0) && (((a.id : Int) == 0) && (((a.body : Str) == []) && true))))))) (
.node ((a.kind : Int) == 5) (
.ob (True) (
.leaf (.bool (((a.kind : Int) == a.kind) && (((a.n : Int) == 0) && (((a.id : Int) == 0) && (((a.body : Str) == []) && true))))))) (
.node ((a.kind : Int) == 6) (
.ob (True) (
.leaf (.bool (((a.kind : Int) == a.kind) && (((a.n : Int) == 0) && (((a.id : Int) == 0) && (((a.body : Str) == []) && true))))))) (
.leaf (.bool false))))))))
set_option maxRecDepth 1000000 in
theorem treeAM_eq (a : Gw.Ask) : funT (mkXT (noPX) (noOX)) (mkXP (noPX)) (mkX (noPX) (noOX)) D (fun _ => noOrc) (fun _ => []) 12 noOrc [] (noLt) (dOf 29) [.agg a.vs] (smallH []) (fun v _ => v) = treeAM a := by kernel_rfl
theorem satAM (a : Gw.Ask) : (treeAM a).sat fun v => v = .bool (mayAsk a) := by
  simp [treeAM, DT.sat, mayAsk]
  grind
theorem ans_ask (orc : Nat → Option V) : AnsO Tryz.prog 29 (fun args h => (gD dAsk pAskQ orc args h).run) := ansD orc fun args hd => by
  unfold dAsk at hd
  split at hd
  · rename_i k n i b
    exact ⟨rfl, rfl, run_plainU mixed TabX.nil tabD (dIs (by kernel_rfl)) (treeAM_eq ⟨k, n, i, b⟩) (satAM ⟨k, n, i, b⟩)⟩
  · exact hd.elim
def cut70 (body : Str) : Str := extractL body 0 (((if (70 : Int) < ((body : Str).length : Int) then 70 else ((body : Str).length : Int)) : Int).toNat)
theorem cut70_len (body : Str) : (cut70 body).length = min 70 body.length := by
  unfold cut70 extractL
  rw [List.length_take, List.drop_zero]
  split <;> omega
theorem cut70_nil (body : Str) : cut70 body = [] ↔ body = [] := by
  rw [← List.length_eq_zero_iff, cut70_len, ← List.length_eq_zero_iff]
  omega
end Go.Proofs.YtjcninlcdnkofabGreatDoor
