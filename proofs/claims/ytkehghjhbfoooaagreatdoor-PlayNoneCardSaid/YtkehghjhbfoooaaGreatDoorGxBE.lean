/- begun of glowwormlaw22 is answered. -/
import Derived.Test.YtkehghjhbfoooaaGreatDoorGxBR0
import Derived.Test.YtkehghjhbfoooaaGreatDoorGxBR1
import Derived.Test.YtkehghjhbfoooaaGreatDoorGxBR2
import Derived.Test.YtkehghjhbfoooaaGreatDoorGxBR3
import Derived.Test.YtkehghjhbfoooaaGreatDoorGxBR4
import Derived.Test.YtkehghjhbfoooaaGreatDoorGxBR5
import Derived.Test.YtkehghjhbfoooaaGreatDoorGxBR6
import Derived.Test.YtkehghjhbfoooaaGreatDoorGxBR7
import Derived.Test.YtkehghjhbfoooaaGreatDoorGxO
noncomputable section
namespace Go.Proofs.YtkehghjhbfoooaaGreatDoor
open Go Gw Go.RowKit
set_option linter.unusedSimpArgs false
set_option linter.unusedVariables false
set_option maxRecDepth 1000000
theorem ranBL (i : IBL) : rnBL i = some (RBL i) := by
  cases i
  · exact ranBL_0
  · exact ranBL_1
  · exact ranBL_2
  · exact ranBL_3
  · exact ranBL_4
  · exact ranBL_5
  · exact ranBL_6
  · exact ranBL_7
  · exact ranBL_8
  · exact ranBL_9
  · exact ranBL_10
  · exact ranBL_11
  · exact ranBL_12
  · exact ranBL_13
  · exact ranBL_14
  · exact ranBL_15
  · exact ranBL_16
  · exact ranBL_17
  · exact ranBL_18
  · exact ranBL_19
  · exact ranBL_20
  · exact ranBL_21
  · exact ranBL_22
  · exact ranBL_23
  · exact ranBL_24
  · exact ranBL_25
  · exact ranBL_26
  · exact ranBL_27
  · exact ranBL_28
  · exact ranBL_29
  · exact ranBL_30
theorem nextBL (i : IBL) (Pr : Ex × Snap → Prop) (h : (loopBL.out i).sat Pr) : loopBL.next muBL i Pr (RBL i) := by
  cases i
  · exact ⟨.c1, rfl, (by show 30 < 31; decide), h⟩
  · exact ⟨.c2, rfl, (by show 29 < 30; decide), h⟩
  · exact ⟨.c3, rfl, (by show 28 < 29; decide), h⟩
  · exact ⟨.c4, rfl, (by show 27 < 28; decide), h⟩
  · exact ⟨.c5, rfl, (by show 26 < 27; decide), h⟩
  · exact ⟨.c6, rfl, (by show 25 < 26; decide), h⟩
  · exact ⟨.c7, rfl, (by show 24 < 25; decide), h⟩
  · exact ⟨.c8, rfl, (by show 23 < 24; decide), h⟩
  · exact ⟨.c9, rfl, (by show 22 < 23; decide), h⟩
  · exact ⟨.c10, rfl, (by show 21 < 22; decide), h⟩
  · exact ⟨.c11, rfl, (by show 20 < 21; decide), h⟩
  · exact ⟨.c12, rfl, (by show 19 < 20; decide), h⟩
  · exact ⟨.c13, rfl, (by show 18 < 19; decide), h⟩
  · exact ⟨.c14, rfl, (by show 17 < 18; decide), h⟩
  · exact ⟨.c15, rfl, (by show 16 < 17; decide), h⟩
  · exact ⟨.c16, rfl, (by show 15 < 16; decide), h⟩
  · exact ⟨.c17, rfl, (by show 14 < 15; decide), h⟩
  · exact ⟨.c18, rfl, (by show 13 < 14; decide), h⟩
  · exact ⟨.c19, rfl, (by show 12 < 13; decide), h⟩
  · exact ⟨.c20, rfl, (by show 11 < 12; decide), h⟩
  · exact ⟨.c21, rfl, (by show 10 < 11; decide), h⟩
  · exact ⟨.c22, rfl, (by show 9 < 10; decide), h⟩
  · exact ⟨.c23, rfl, (by show 8 < 9; decide), h⟩
  · exact ⟨.c24, rfl, (by show 7 < 8; decide), h⟩
  · exact ⟨.c25, rfl, (by show 6 < 7; decide), h⟩
  · exact ⟨.c26, rfl, (by show 5 < 6; decide), h⟩
  · exact ⟨.c27, rfl, (by show 4 < 5; decide), h⟩
  · exact ⟨.c28, rfl, (by show 3 < 4; decide), h⟩
  · exact ⟨.c29, rfl, (by show 2 < 3; decide), h⟩
  · exact ⟨.c30, rfl, (by show 1 < 2; decide), h⟩
  · exact h
theorem ltBL_ok (hint : Nat → List Nat) : Lt1 Tryz.prog hint 3 loopBL.lt lpBL :=
  LoopD.lt1m mixed (show TabX Tryz.prog noPX oxB from tabB) tabD loopBL muBL (fun ex => match ex with | .normal => ⟨show 3 ≤ 340 by decide, show 3 ≤ 340 by decide⟩ | .exit _ => ⟨show 3 ≤ 340 by decide, show 3 ≤ 340 by decide⟩ | .ret => ⟨show 3 ≤ 340 by decide, show 3 ≤ 340 by decide⟩) RBL ranBL nextBL
def noOrc : Orc := fun _ => none
theorem dIs {f : Nat} (h : (D f).isSome = true) : D f = some (dOf f) := dOf_ok h
def ltBL : Lt := fun k => match k with | 0 => loopBL.lt | _ => fun _ _ => .fail
def treeB22 (q : Nat) : DT V :=
  .ob (¬ (32 : Int) < 0) (
.ob (¬ (32 : Int) < 0) (
.ob (¬ (32 : Int) < 0) (
.ob (¬ (32 : Int) < 0) (
.ob (¬ (32 : Int) < 0) (
.ob (1 = 1 ∧ (True) ∧ (0 ≤ (1 : Int) ∧ (1 : Int) ≤ ((4 : Nat) : Int))) (
.ob (1 = 1 ∧ (0 ≤ (1 : Int) ∧ (1 : Int) ≤ ((4 : Nat) : Int)) ∧ (True)) (
.ob (1 = 1 ∧ (True) ∧ (0 ≤ (2 : Int) ∧ (2 : Int) ≤ ((4 : Nat) : Int))) (
.ob (1 = 1 ∧ (0 ≤ (2 : Int) ∧ (2 : Int) ≤ ((4 : Nat) : Int)) ∧ (True)) (
.ob (1 = 1 ∧ 0 ≤ (0 : Int) ∧ (0 : Int) < ((2 : Nat) : Int)) (
.ob (((V.beq (.int .i64 2) (.int .i64 2)) && ((V.beq (.slice 10 0 2 1 (some 2)) (.slice 10 0 2 1 (some 2))) && true)) = true) (
.ob (¬ (32 : Int) < 0) (
.ob (¬ (32 : Int) < 0) (
.ob (¬ (32 : Int) < 0) (
.ob (¬ (32 : Int) < 0) (
.ob (¬ (32 : Int) < 0) (
.ob (1 = 1 ∧ (True) ∧ (0 ≤ (1 : Int) ∧ (1 : Int) ≤ ((2 : Nat) : Int))) (
.ob (1 = 1 ∧ (0 ≤ (1 : Int) ∧ (1 : Int) ≤ ((2 : Nat) : Int)) ∧ (True)) (
.ob (((V.beq (.slice 10 0 2 1 (some 2)) (.slice 10 0 2 1 (some 2))) && true) = true) (
.ob (1 = 1 ∧ 0 ≤ (0 : Int) ∧ (0 : Int) < ((2 : Nat) : Int)) (
.ob (1 = 1 ∧ 0 ≤ (0 : Int) ∧ (0 : Int) < ((2 : Nat) : Int)) (
.ob (1 = 1 ∧ 0 ≤ (0 : Int) ∧ (0 : Int) < ((2 : Nat) : Int)) (
.ob (((V.beq (.slice 47 0 2 1 (some 2)) (.slice 47 0 2 1 (some 2))) && true) = true) (
.ob (1 = 1 ∧ 0 ≤ (0 : Int) ∧ (0 : Int) < ((2 : Nat) : Int)) (
.ob (1 = 1 ∧ 0 ≤ (1 : Int) ∧ (1 : Int) < ((2 : Nat) : Int)) (
.ob (1 = 1 ∧ 0 ≤ (1 : Int) ∧ (1 : Int) < ((4 : Nat) : Int)) (
.ob (1 = 1 ∧ 0 ≤ (1 : Int) ∧ (1 : Int) < ((2 : Nat) : Int)) (
.ob (1 = 1 ∧ 0 ≤ (1 : Int) ∧ (1 : Int) < ((2 : Nat) : Int)) (
.ob (((V.beq (.slice 47 0 2 1 (some 2)) (.slice 47 0 2 1 (some 2))) && true) = true) (
.ob (1 = 1 ∧ 0 ≤ (1 : Int) ∧ (1 : Int) < ((2 : Nat) : Int)) (
.ob (1 = 1 ∧ 0 ≤ (1 : Int) ∧ (1 : Int) < ((2 : Nat) : Int)) (
.ob (1 = 1 ∧ 0 ≤ (0 : Int) ∧ (0 : Int) < ((2 : Nat) : Int)) (
.ob (1 = 1 ∧ 0 ≤ (0 : Int) ∧ (0 : Int) < ((2 : Nat) : Int)) (
.ob (1 = 1 ∧ 0 ≤ (0 : Int) ∧ (0 : Int) < ((2 : Nat) : Int)) (
.ob (1 = 1 ∧ 0 ≤ (1 : Int) ∧ (1 : Int) < ((4 : Nat) : Int)) (
.ob (1 = 1 ∧ 0 ≤ (1 : Int) ∧ (1 : Int) < ((2 : Nat) : Int)) (
.ob (¬ (1 : Int) < 0) (
.ob (¬ (1 : Int) < 0) (
.ob ((4 = 4 ∧ ([.int .i64 0, .int .i64 1, .slice 58 0 2 1 none, .bool true] : List V).length = 1 * 4) ∧ allOne [.int .i64 0, .int .i64 1, .slice 58 0 2 1 none, .bool true] = true ∧ 1 * 48 ≤ 70368744177664) (
.ob ((4 = 4 ∧ ([.int .i64 0, .int .i64 1, .slice 58 0 2 1 none, .bool true] : List V).length = 1 * 4) ∧ allOne [.int .i64 0, .int .i64 1, .slice 58 0 2 1 none, .bool true] = true ∧ 1 * 48 ≤ 70368744177664) (
.ob (1 = 1 ∧ 0 ≤ (1 : Int) ∧ (1 : Int) < ((2 : Nat) : Int)) (
.ob (¬ (32 : Int) < 0) (
.ob (¬ (32 : Int) < 0) (
.ob (¬ (32 : Int) < 0) (
.ob (¬ (32 : Int) < 0) (
.ob (¬ (32 : Int) < 0) (
.ob (1 = 1 ∧ (True) ∧ (0 ≤ (1 : Int) ∧ (1 : Int) ≤ ((4 : Nat) : Int))) (
.ob (1 = 1 ∧ (0 ≤ (1 : Int) ∧ (1 : Int) ≤ ((4 : Nat) : Int)) ∧ (True)) (
.ob (1 = 1 ∧ (True) ∧ (0 ≤ (2 : Int) ∧ (2 : Int) ≤ ((4 : Nat) : Int))) (
.ob (1 = 1 ∧ (0 ≤ (2 : Int) ∧ (2 : Int) ≤ ((4 : Nat) : Int)) ∧ (True)) (
.ob (1 = 1 ∧ 0 ≤ (0 : Int) ∧ (0 : Int) < ((2 : Nat) : Int)) (
.ob (1 = 1 ∧ 0 ≤ (0 : Int) ∧ (0 : Int) < ((2 : Nat) : Int)) (
.ob (5 = 5 ∧ 0 ≤ (0 : Int) ∧ (0 : Int) < ((2 : Nat) : Int)) (
.ob (((V.beq (.agg [.int .i64 15, .int .i64 7, .int .i64 127, .int .i64 15, .int .i64 1]) (.agg [.int .i64 15, .int .i64 7, .int .i64 127, .int .i64 15, .int .i64 1])) && true) = true) (
.ob ((1 = 1 ∧ ([.ptr 106 0] : List V).length = 1 * 1) ∧ allOne [.ptr 106 0] = true ∧ 1 * 8 ≤ 70368744177664) (
.ob (1 = 1 ∧ 0 ≤ (1 : Int) ∧ (1 : Int) < ((2 : Nat) : Int)) (
.ob (1 = 1 ∧ 0 ≤ (1 : Int) ∧ (1 : Int) < ((2 : Nat) : Int)) (
.ob (5 = 5 ∧ 0 ≤ (1 : Int) ∧ (1 : Int) < ((2 : Nat) : Int)) (
.ob (((V.beq (.agg [.int .i64 15, .int .i64 7, .int .i64 127, .int .i64 15, .int .i64 1]) (.agg [.int .i64 15, .int .i64 7, .int .i64 127, .int .i64 15, .int .i64 1])) && true) = true) (
.ob ((1 = 1 ∧ ([.ptr 151 0] : List V).length = 1 * 1) ∧ allOne [.ptr 151 0] = true ∧ 1 = 1 ∧ 2 * 8 ≤ 70368744177664 ∧ ([.ptr 106 0] : List V).length = 1 * 1) (
.ob (¬ (32 : Int) < 0) (
.ob (¬ (32 : Int) < 0) (
.ob (¬ (32 : Int) < 0) (
.ob (¬ (32 : Int) < 0) (
.ob (¬ (32 : Int) < 0) (
.ob (1 = 1 ∧ (True) ∧ (0 ≤ (1 : Int) ∧ (1 : Int) ≤ ((4 : Nat) : Int))) (
.ob (1 = 1 ∧ (0 ≤ (1 : Int) ∧ (1 : Int) ≤ ((4 : Nat) : Int)) ∧ (True)) (
.ob (1 = 1 ∧ (True) ∧ (0 ≤ (2 : Int) ∧ (2 : Int) ≤ ((4 : Nat) : Int))) (
.ob (1 = 1 ∧ (0 ≤ (2 : Int) ∧ (2 : Int) ≤ ((4 : Nat) : Int)) ∧ (True)) (
.ob (1 = 1 ∧ 0 ≤ (0 : Int) ∧ (0 : Int) < ((2 : Nat) : Int)) (
.ob (1 = 1 ∧ 0 ≤ (0 : Int) ∧ (0 : Int) < ((2 : Nat) : Int)) (
.ob (5 = 5 ∧ 0 ≤ (0 : Int) ∧ (0 : Int) < ((2 : Nat) : Int)) (
.ob (((V.beq (.agg [.int .i64 15, .int .i64 7, .int .i64 127, .int .i64 15, .int .i64 1]) (.agg [.int .i64 15, .int .i64 7, .int .i64 127, .int .i64 15, .int .i64 1])) && true) = true) (
.ob ((1 = 1 ∧ ([.ptr 225 0] : List V).length = 1 * 1) ∧ allOne [.ptr 225 0] = true ∧ 1 * 8 ≤ 70368744177664) (
.ob (1 = 1 ∧ 0 ≤ (1 : Int) ∧ (1 : Int) < ((2 : Nat) : Int)) (
.ob (1 = 1 ∧ 0 ≤ (1 : Int) ∧ (1 : Int) < ((2 : Nat) : Int)) (
.ob (5 = 5 ∧ 0 ≤ (1 : Int) ∧ (1 : Int) < ((2 : Nat) : Int)) (
.ob (((V.beq (.agg [.int .i64 15, .int .i64 7, .int .i64 127, .int .i64 15, .int .i64 1]) (.agg [.int .i64 15, .int .i64 7, .int .i64 127, .int .i64 15, .int .i64 1])) && true) = true) (
.ob ((1 = 1 ∧ ([.ptr 270 0] : List V).length = 1 * 1) ∧ allOne [.ptr 270 0] = true ∧ 1 = 1 ∧ 2 * 8 ≤ 70368744177664 ∧ ([.ptr 225 0] : List V).length = 1 * 1) (
.ob (1 = 1 ∧ 0 ≤ (0 : Int) ∧ (0 : Int) < ((2 : Nat) : Int)) (
.ob (1 = 1 ∧ 0 ≤ (0 : Int) ∧ (0 : Int) < ((2 : Nat) : Int)) (
.ob (True) (
.ob ((4 = 4 ∧ ([.int .i64 2, .int .i64 0, .int .u32 2, .str []] : List V).length = 1 * 4) ∧ allOne [.int .i64 2, .int .i64 0, .int .u32 2, .str []] = true ∧ 1 * 40 ≤ 70368744177664) (
.ob ((SNBL (.int .i64 0) (.int .i64 0) (.int .i64 0) (.nilp) (.nilp) (.int .i64 0) (.int .i64 0) (.int .u32 0) (.int .i64 0) (.int .i64 0) (.int .i64 0) (.int .i64 0) (.int .i64 0) (.nilp) (.int .i64 0) (.int .i64 0) (.int .i64 0) (.int .i64 0) (.slice 339 0 1 4 none) (.int .i64 0) (.int .i64 0) (.int .u32 0) (.int .i64 0) (.int .i64 0) (.int .i64 0) (.int .i64 0) (.int .i64 0) (.nilp) (.int .i64 0) (.int .i64 0) (.bool false) (none) (none) (none) (none) (none) (none) (none) (none) (none) (none) (none) (none) : Snap) = loopBL.S .c0) (
.ob (4 = 4 ∧ 0 ≤ (0 : Int) ∧ (0 : Int) < ((1 : Nat) : Int)) (
.ob (4 = 4 ∧ 0 ≤ (0 : Int) ∧ (0 : Int) < ((1 : Nat) : Int)) (
.ob (4 = 4 ∧ 0 ≤ (0 : Int) ∧ (0 : Int) < ((1 : Nat) : Int)) (
.ob (1 = 1 ∧ 0 ≤ (0 : Int) ∧ (0 : Int) < ((2 : Nat) : Int)) (
.ob (1 = 1 ∧ 0 ≤ (1 : Int) ∧ (1 : Int) < ((2 : Nat) : Int)) (
.ob (True) (
.ob ((2 = 2 ∧ ([.int .i64 0, .int .i64 1] : List V).length = 1 * 2) ∧ allOne [.int .i64 0, .int .i64 1] = true ∧ 1 * 16 ≤ 70368744177664) (
.leaf (.bool true))))))))))))))))))))))))))))))))))))))))))))))))))))))))))))))))))))))))))))))))))))))))))))
set_option maxRecDepth 1000000 in
theorem treeB22_eq (q : Nat) : funT (mkXT (noPX) (oxB)) (mkXP (noPX)) (mkX (noPX) (oxB)) D (fun _ => noOrc) (fun k => match k with | 8 => [11] | 9 => [24, 53, 88, 90, 97, 103, 111, 115, 119, 125, 130, 135, 139, 144] | 11 => [9, 13, 18, 34] | 12 => [11, 16, 20, 24] | 13 => [7] | 14 => [21, 30, 45, 50, 61, 78] | 19 => [6, 11] | 25 => [9, 16, 22] | 29 => [14, 17, 23, 29, 37] | 37 => [4, 7] | 40 => [1] | 41 => [9, 17] | 43 => [10, 22, 25, 37] | 44 => [11, 16, 23, 27, 31] | 45 => [31, 36, 47, 53, 66, 78] | 52 => [19, 23, 30, 37] | 60 => [10, 18] | 79 => [6, 9, 13] | 80 => [8, 11, 15, 19, 23] | 91 => [10, 33, 40, 44, 49] | 122 => [8, 12, 15] | 123 => [7, 12, 18, 23, 28, 33, 38] | 156 => [5, 8] | 157 => [6, 10] | _ => []) 12 noOrc [24, 53, 88, 90, 97, 103, 111, 115, 119, 125, 130, 135, 139, 144] (ltBL) (dOf 9) [] (tabH kT0 kT1 kT2 3) (fun v _ => v) = treeB22 q := by kernel_rfl
theorem satB22 (q : Nat) : (treeB22 q).sat fun v => v = .bool true :=
 sat_ob (by first | decide | kernel_rfl | simp) (
sat_ob (by first | decide | kernel_rfl | simp) (
sat_ob (by first | decide | kernel_rfl | simp) (
sat_ob (by first | decide | kernel_rfl | simp) (
sat_ob (by first | decide | kernel_rfl | simp) (
sat_ob (by first | decide | kernel_rfl | simp) (
sat_ob (by first | decide | kernel_rfl | simp) (
sat_ob (by first | decide | kernel_rfl | simp) (
sat_ob (by first | decide | kernel_rfl | simp) (
sat_ob (by first | decide | kernel_rfl | simp) (
sat_ob (by first | decide | kernel_rfl | simp) (
sat_ob (by first | decide | kernel_rfl | simp) (
sat_ob (by first | decide | kernel_rfl | simp) (
sat_ob (by first | decide | kernel_rfl | simp) (
sat_ob (by first | decide | kernel_rfl | simp) (
sat_ob (by first | decide | kernel_rfl | simp) (
sat_ob (by first | decide | kernel_rfl | simp) (
sat_ob (by first | decide | kernel_rfl | simp) (
sat_ob (by first | decide | kernel_rfl | simp) (
sat_ob (by first | decide | kernel_rfl | simp) (
sat_ob (by first | decide | kernel_rfl | simp) (
sat_ob (by first | decide | kernel_rfl | simp) (
sat_ob (by first | decide | kernel_rfl | simp) (
sat_ob (by first | decide | kernel_rfl | simp) (
sat_ob (by first | decide | kernel_rfl | simp) (
sat_ob (by first | decide | kernel_rfl | simp) (
sat_ob (by first | decide | kernel_rfl | simp) (
sat_ob (by first | decide | kernel_rfl | simp) (
sat_ob (by first | decide | kernel_rfl | simp) (
sat_ob (by first | decide | kernel_rfl | simp) (
sat_ob (by first | decide | kernel_rfl | simp) (
sat_ob (by first | decide | kernel_rfl | simp) (
sat_ob (by first | decide | kernel_rfl | simp) (
sat_ob (by first | decide | kernel_rfl | simp) (
sat_ob (by first | decide | kernel_rfl | simp) (
sat_ob (by first | decide | kernel_rfl | simp) (
sat_ob (by first | decide | kernel_rfl | simp) (
sat_ob (by first | decide | kernel_rfl | simp) (
sat_ob (by first | decide | kernel_rfl | simp) (
sat_ob (by first | decide | kernel_rfl | simp) (
sat_ob (by first | decide | kernel_rfl | simp) (
sat_ob (by first | decide | kernel_rfl | simp) (
sat_ob (by first | decide | kernel_rfl | simp) (
sat_ob (by first | decide | kernel_rfl | simp) (
sat_ob (by first | decide | kernel_rfl | simp) (
sat_ob (by first | decide | kernel_rfl | simp) (
sat_ob (by first | decide | kernel_rfl | simp) (
sat_ob (by first | decide | kernel_rfl | simp) (
sat_ob (by first | decide | kernel_rfl | simp) (
sat_ob (by first | decide | kernel_rfl | simp) (
sat_ob (by first | decide | kernel_rfl | simp) (
sat_ob (by first | decide | kernel_rfl | simp) (
sat_ob (by first | decide | kernel_rfl | simp) (
sat_ob (by first | decide | kernel_rfl | simp) (
sat_ob (by first | decide | kernel_rfl | simp) (
sat_ob (by first | decide | kernel_rfl | simp) (
sat_ob (by first | decide | kernel_rfl | simp) (
sat_ob (by first | decide | kernel_rfl | simp) (
sat_ob (by first | decide | kernel_rfl | simp) (
sat_ob (by first | decide | kernel_rfl | simp) (
sat_ob (by first | decide | kernel_rfl | simp) (
sat_ob (by first | decide | kernel_rfl | simp) (
sat_ob (by first | decide | kernel_rfl | simp) (
sat_ob (by first | decide | kernel_rfl | simp) (
sat_ob (by first | decide | kernel_rfl | simp) (
sat_ob (by first | decide | kernel_rfl | simp) (
sat_ob (by first | decide | kernel_rfl | simp) (
sat_ob (by first | decide | kernel_rfl | simp) (
sat_ob (by first | decide | kernel_rfl | simp) (
sat_ob (by first | decide | kernel_rfl | simp) (
sat_ob (by first | decide | kernel_rfl | simp) (
sat_ob (by first | decide | kernel_rfl | simp) (
sat_ob (by first | decide | kernel_rfl | simp) (
sat_ob (by first | decide | kernel_rfl | simp) (
sat_ob (by first | decide | kernel_rfl | simp) (
sat_ob (by first | decide | kernel_rfl | simp) (
sat_ob (by first | decide | kernel_rfl | simp) (
sat_ob (by first | decide | kernel_rfl | simp) (
sat_ob (by first | decide | kernel_rfl | simp) (
sat_ob (by first | decide | kernel_rfl | simp) (
sat_ob (by first | decide | kernel_rfl | simp) (
sat_ob trivial (
sat_ob (by first | decide | kernel_rfl | simp) (
sat_ob (by kernel_rfl) (
sat_ob (by first | decide | kernel_rfl | simp) (
sat_ob (by first | decide | kernel_rfl | simp) (
sat_ob (by first | decide | kernel_rfl | simp) (
sat_ob (by first | decide | kernel_rfl | simp) (
sat_ob (by first | decide | kernel_rfl | simp) (
sat_ob trivial (
sat_ob (by first | decide | kernel_rfl | simp) (
sat_leaf (rfl))))))))))))))))))))))))))))))))))))))))))))))))))))))))))))))))))))))))))))))))))))))))))))
def lpB22_1 : DC := (((loopsIn 0 (dOf 9).body)[1]?).getD (0, .skip)).2
theorem loopsB22 : loopsIn 0 (dOf 9).body = [(0, lpBL), (2, lpB22_1)] := by kernel_rfl
theorem lt1_no {P : Program} {hint : Nat → List Nat} {m : Nat} {c : DC} : Lt1 P hint m (fun _ _ => .fail) c := fun _ _ _ _ _ h => absurd h (fun q => q)
theorem runB22 : Run Tryz.prog 9 [] (tabH kT0 kT1 kT2 3) fun v _ => v = .bool true := by
  refine run_loops mixed (show TabX Tryz.prog noPX oxB from tabB) tabD (dIs (by kernel_rfl)) (lt := ltBL) (fun hint p hp => ?_) (treeB22_eq 0) (satB22 0)
  rw [loopsB22] at hp
  simp only [List.mem_cons, List.not_mem_nil, or_false] at hp
  rcases hp with rfl | rfl
  · exact ltBL_ok hint
  · exact lt1_no
def dNil : List V → Prop
  | [] => True
  | _ => False
theorem ans_b22 : AnsO Tryz.prog 9 (gTrue kT0 kT1 kT2) := by
  have A := ansDT (P := Tryz.prog) (f := 9) (k0 := kT0) (k1 := kT1) (k2 := kT2) (dom := dNil) (p := fun _ => .bool true) noV (fun args hd => by
    cases args with
    | nil => exact ⟨rfl, rfl, runB22⟩
    | cons _ _ => exact hd.elim)
  refine ⟨fr_gTrue kT0 kT1 kT2, fun args h r h' hr => ?_⟩
  refine A.ok args h r h' ?_
  cases args with
  | nil =>
    simp only [gTrue, Option.bind_eq_some_iff, Option.some.injEq, Prod.mk.injEq] at hr
    obtain ⟨u, h1, h2, h3⟩ := hr
    subst h2 h3
    exact gDT_iff.2 ⟨h1, gD_iff.2 ⟨trivial, (fun v hv => by simp [noV] at hv), rfl, rfl⟩⟩
  | cons _ _ => cases hr
end Go.Proofs.YtkehghjhbfoooaaGreatDoor
