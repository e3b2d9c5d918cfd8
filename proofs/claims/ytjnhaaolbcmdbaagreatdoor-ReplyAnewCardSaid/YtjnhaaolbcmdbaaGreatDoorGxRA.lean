/- What is proved: glowwormlaw16.ReplyAnew returns true, whatever it is given, and turns nothing that was there, in every world that holds the three laid tables; conditions: none beyond those of its card. -/
import Derived.Test.YtjnhaaolbcmdbaaGreatDoorGxF
import Derived.Test.YtjnhaaolbcmdbaaGreatDoorGxL
import Derived.Test.YtjnhaaolbcmdbaaGreatDoorGxX1
import Derived.Test.YtjnhaaolbcmdbaaGreatDoorGxB5
namespace Go.Proofs.YtjnhaaolbcmdbaaGreatDoor
open Go Gw Go.RowKit
set_option linter.unusedSimpArgs false
set_option linter.unusedVariables false
def oxR : OTab := consO 18 (gTrue kT0 kT1 kT2) (consT 60 (gW2 pF) (consT 46 (gW2 pF) noOX))
def oxRN : OTab := consO 18 (gTrue kT0 kT1 kT2) (consT 60 (gWN pFN) (consT 46 (gWN pFN) noOX))
theorem tabR : TabX Tryz.prog pxM oxR := ⟨tabM.p, ((((TabX.nil (P := Tryz.prog)).addT ansF46).addT ansF60).addO ⟨fr_gTrue _ _ _, begun_ok⟩).o⟩
theorem tabRN : TabX Tryz.prog pxM oxRN := ⟨tabM.p, ((((TabX.nil (P := Tryz.prog)).addT ansN46).addT ansN60).addO ⟨fr_gTrue _ _ _, begun_ok⟩).o⟩
def treeRAS (me : Int) (to : Int) (draws : List Int) : DT V :=
  .ob (1 = 1 ∧ (0 ≤ ((if (6 : Int) < ((draws.length : Nat) : Int) then 6 else ((draws.length : Nat) : Int)) : Int) ∧ ((if (6 : Int) < ((draws.length : Nat) : Int) then 6 else ((draws.length : Nat) : Int)) : Int) ≤ ((draws.length : Nat) : Int)) ∧ (True)) (
  .ob ((((me : Int) == 0) == false) = true → ((True) ∧ ((True) ∧ (True)))) (
  .ob (((cond (((me : Int) == 0) == false) ((me : Int) == 4294967295) true) == false) = true → ((True) ∧ ((True) ∧ ((True) ∧ (True))))) (
  .node (cond ((cond (((me : Int) == 0) == false) ((me : Int) == 4294967295) true) == false) (!(nickOk [110])) true) (
    .ob ((((me : Int) != 0) == true) = true → ((True) ∧ ((True) ∧ (True)))) (
    .leaf (.bool (!(cond (((me : Int) != 0) == true) ((me : Int) != 4294967295) false))))) (
    .node (!(mayXid ⟨5, to, 0, 1, true, []⟩)) (
      .ob ((0 + ((((if (6 : Int) < ((draws.length : Nat) : Int) then 6 else ((draws.length : Nat) : Int)) : Int).toNat) - 0) ≤ ((draws.map (V.int .u32)) : List V).length ∧ 0 + 1 ≤ ([.int .u32 me] : List V).length) ∧ (pF ((((draws.map (V.int .u32)) : List V).drop 0).take ((((if (6 : Int) < ((draws.length : Nat) : Int) then 6 else ((draws.length : Nat) : Int)) : Int).toNat) - 0)) ((([.int .u32 me] : List V).drop 0).take 1)).1) (
      .node ((to : Int) != me) (
        .node (true == true) (
          .ob ((((me : Int) == me) == true) = true → ((True) ∧ ((True) ∧ ((True) ∧ (True))))) (
          .leaf (.bool (cond (((me : Int) == me) == true) (((0 : Int) == 0) && (((0 : Int) == 0) && (((0 : Int) == 0) && (((0 : Int) == 0) && ((false == false) && ((([] : Str) == []) && true)))))) false)))) (
          .leaf (.bool false))) (
        .node (((0 : Int) != ((freshL me (((((draws.map (V.int .u32)) : List V).drop 0).take ((((if (6 : Int) < ((draws.length : Nat) : Int) then 6 else ((draws.length : Nat) : Int)) : Int).toNat) - 0)).map vInt) 0).2 : Int)) == false) (
          .node (((me : Int) != (freshL me (((((draws.map (V.int .u32)) : List V).drop 0).take ((((if (6 : Int) < ((draws.length : Nat) : Int) then 6 else ((draws.length : Nat) : Int)) : Int).toNat) - 0)).map vInt) 0).1) == false) (
            .node ((me : Int) == me) (
              .leaf (.bool false)) (
              .node (!(mayXid ⟨5, 0, 0, 1, false, []⟩)) (
                .leaf (.bool false)) (
                .ob (((V.beq (.int .i64 0) (.int .i64 0)) && ((V.beq (.int .i64 1) (.int .i64 1)) && ((V.beq (.int .u32 5) (.int .u32 5)) && true))) = true) (
                .ob (((V.beq (.int .i64 0) (.int .i64 0)) && ((V.beq (.int .i64 1) (.int .i64 1)) && true)) = true) (
                .ob (((V.beq (.int .i64 0) (.int .i64 0)) && true) = true) (
                .ob ((((me : Int) == (freshL me (((((draws.map (V.int .u32)) : List V).drop 0).take ((((if (6 : Int) < ((draws.length : Nat) : Int) then 6 else ((draws.length : Nat) : Int)) : Int).toNat) - 0)).map vInt) 0).1) == true) = true → ((True) ∧ ((True) ∧ ((True) ∧ (True))))) (
                .leaf (.bool (cond (((me : Int) == (freshL me (((((draws.map (V.int .u32)) : List V).drop 0).take ((((if (6 : Int) < ((draws.length : Nat) : Int) then 6 else ((draws.length : Nat) : Int)) : Int).toNat) - 0)).map vInt) 0).1) == true) true false))))))))) (
            .leaf (.bool false))) (
          .leaf (.bool false))))) (
      .node ((to : Int) == me) (
        .ob ((0 + ((((if (6 : Int) < ((draws.length : Nat) : Int) then 6 else ((draws.length : Nat) : Int)) : Int).toNat) - 0) ≤ ((draws.map (V.int .u32)) : List V).length ∧ 0 + 1 ≤ ([.int .u32 me] : List V).length) ∧ (pF ((((draws.map (V.int .u32)) : List V).drop 0).take ((((if (6 : Int) < ((draws.length : Nat) : Int) then 6 else ((draws.length : Nat) : Int)) : Int).toNat) - 0)) ((([.int .u32 me] : List V).drop 0).take 1)).1) (
        .ob ((0 + ((((if (6 : Int) < ((draws.length : Nat) : Int) then 6 else ((draws.length : Nat) : Int)) : Int).toNat) - 0) ≤ ((draws.map (V.int .u32)) : List V).length ∧ 0 + 1 ≤ ([.int .u32 me] : List V).length) ∧ (pF ((((draws.map (V.int .u32)) : List V).drop 0).take ((((if (6 : Int) < ((draws.length : Nat) : Int) then 6 else ((draws.length : Nat) : Int)) : Int).toNat) - 0)) ((([.int .u32 me] : List V).drop 0).take 1)).1) (
        .node ((to : Int) != me) (
          .node (((((freshL me (((((draws.map (V.int .u32)) : List V).drop 0).take ((((if (6 : Int) < ((draws.length : Nat) : Int) then 6 else ((draws.length : Nat) : Int)) : Int).toNat) - 0)).map vInt) 0).2 : Int) : Int) == 0) == true) (
            .ob (((((freshL me (((((draws.map (V.int .u32)) : List V).drop 0).take ((((if (6 : Int) < ((draws.length : Nat) : Int) then 6 else ((draws.length : Nat) : Int)) : Int).toNat) - 0)).map vInt) 0).1 : Int) == me) == true) = true → ((True) ∧ ((True) ∧ ((True) ∧ (True))))) (
            .leaf (.bool (cond ((((freshL me (((((draws.map (V.int .u32)) : List V).drop 0).take ((((if (6 : Int) < ((draws.length : Nat) : Int) then 6 else ((draws.length : Nat) : Int)) : Int).toNat) - 0)).map vInt) 0).1 : Int) == me) == true) (((0 : Int) == 0) && (((0 : Int) == 0) && (((0 : Int) == 0) && (((0 : Int) == 0) && ((false == false) && ((([] : Str) == []) && true)))))) false)))) (
            .leaf (.bool false))) (
          .node (((((freshL me (((((draws.map (V.int .u32)) : List V).drop 0).take ((((if (6 : Int) < ((draws.length : Nat) : Int) then 6 else ((draws.length : Nat) : Int)) : Int).toNat) - 0)).map vInt) 0).2 : Int) : Int) != ((freshL me (((((draws.map (V.int .u32)) : List V).drop 0).take ((((if (6 : Int) < ((draws.length : Nat) : Int) then 6 else ((draws.length : Nat) : Int)) : Int).toNat) - 0)).map vInt) 0).2 : Int)) == false) (
            .node ((((freshL me (((((draws.map (V.int .u32)) : List V).drop 0).take ((((if (6 : Int) < ((draws.length : Nat) : Int) then 6 else ((draws.length : Nat) : Int)) : Int).toNat) - 0)).map vInt) 0).1 : Int) != (freshL me (((((draws.map (V.int .u32)) : List V).drop 0).take ((((if (6 : Int) < ((draws.length : Nat) : Int) then 6 else ((draws.length : Nat) : Int)) : Int).toNat) - 0)).map vInt) 0).1) == false) (
              .node (((freshL me (((((draws.map (V.int .u32)) : List V).drop 0).take ((((if (6 : Int) < ((draws.length : Nat) : Int) then 6 else ((draws.length : Nat) : Int)) : Int).toNat) - 0)).map vInt) 0).1 : Int) == me) (
                .leaf (.bool false)) (
                .node (!(mayXid ⟨5, 0, 0, 1, false, []⟩)) (
                  .leaf (.bool false)) (
                  .ob (((V.beq (.int .i64 0) (.int .i64 0)) && ((V.beq (.int .i64 1) (.int .i64 1)) && ((V.beq (.int .u32 5) (.int .u32 5)) && true))) = true) (
                  .ob (((V.beq (.int .i64 0) (.int .i64 0)) && ((V.beq (.int .i64 1) (.int .i64 1)) && true)) = true) (
                  .ob (((V.beq (.int .i64 0) (.int .i64 0)) && true) = true) (
                  .ob (((((freshL me (((((draws.map (V.int .u32)) : List V).drop 0).take ((((if (6 : Int) < ((draws.length : Nat) : Int) then 6 else ((draws.length : Nat) : Int)) : Int).toNat) - 0)).map vInt) 0).1 : Int) == (freshL me (((((draws.map (V.int .u32)) : List V).drop 0).take ((((if (6 : Int) < ((draws.length : Nat) : Int) then 6 else ((draws.length : Nat) : Int)) : Int).toNat) - 0)).map vInt) 0).1) == true) = true → ((True) ∧ ((True) ∧ ((True) ∧ (True))))) (
                  .leaf (.bool (cond ((((freshL me (((((draws.map (V.int .u32)) : List V).drop 0).take ((((if (6 : Int) < ((draws.length : Nat) : Int) then 6 else ((draws.length : Nat) : Int)) : Int).toNat) - 0)).map vInt) 0).1 : Int) == (freshL me (((((draws.map (V.int .u32)) : List V).drop 0).take ((((if (6 : Int) < ((draws.length : Nat) : Int) then 6 else ((draws.length : Nat) : Int)) : Int).toNat) - 0)).map vInt) 0).1) == true) true false))))))))) (
              .leaf (.bool false))) (
            .leaf (.bool false)))))) (
        .ob ((0 + ((((if (6 : Int) < ((draws.length : Nat) : Int) then 6 else ((draws.length : Nat) : Int)) : Int).toNat) - 0) ≤ ((draws.map (V.int .u32)) : List V).length ∧ 0 + 1 ≤ ([.int .u32 me] : List V).length) ∧ (pF ((((draws.map (V.int .u32)) : List V).drop 0).take ((((if (6 : Int) < ((draws.length : Nat) : Int) then 6 else ((draws.length : Nat) : Int)) : Int).toNat) - 0)) ((([.int .u32 me] : List V).drop 0).take 1)).1) (
        .node ((to : Int) != me) (
          .node (true == true) (
            .ob ((((me : Int) == me) == true) = true → ((True) ∧ ((True) ∧ ((True) ∧ (True))))) (
            .leaf (.bool (cond (((me : Int) == me) == true) (((0 : Int) == 0) && (((0 : Int) == 0) && (((0 : Int) == 0) && (((0 : Int) == 0) && ((false == false) && ((([] : Str) == []) && true)))))) false)))) (
            .leaf (.bool false))) (
          .node (((0 : Int) != ((freshL me (((((draws.map (V.int .u32)) : List V).drop 0).take ((((if (6 : Int) < ((draws.length : Nat) : Int) then 6 else ((draws.length : Nat) : Int)) : Int).toNat) - 0)).map vInt) 0).2 : Int)) == false) (
            .node (((me : Int) != (freshL me (((((draws.map (V.int .u32)) : List V).drop 0).take ((((if (6 : Int) < ((draws.length : Nat) : Int) then 6 else ((draws.length : Nat) : Int)) : Int).toNat) - 0)).map vInt) 0).1) == false) (
              .node ((me : Int) == me) (
                .leaf (.bool false)) (
                .node (!(mayXid ⟨5, 0, 0, 1, false, []⟩)) (
                  .leaf (.bool false)) (
                  .ob (((V.beq (.int .i64 0) (.int .i64 0)) && ((V.beq (.int .i64 1) (.int .i64 1)) && ((V.beq (.int .u32 5) (.int .u32 5)) && true))) = true) (
                  .ob (((V.beq (.int .i64 0) (.int .i64 0)) && ((V.beq (.int .i64 1) (.int .i64 1)) && true)) = true) (
                  .ob (((V.beq (.int .i64 0) (.int .i64 0)) && true) = true) (
                  .ob ((((me : Int) == (freshL me (((((draws.map (V.int .u32)) : List V).drop 0).take ((((if (6 : Int) < ((draws.length : Nat) : Int) then 6 else ((draws.length : Nat) : Int)) : Int).toNat) - 0)).map vInt) 0).1) == true) = true → ((True) ∧ ((True) ∧ ((True) ∧ (True))))) (
                  .leaf (.bool (cond (((me : Int) == (freshL me (((((draws.map (V.int .u32)) : List V).drop 0).take ((((if (6 : Int) < ((draws.length : Nat) : Int) then 6 else ((draws.length : Nat) : Int)) : Int).toNat) - 0)).map vInt) 0).1) == true) true false))))))))) (
              .leaf (.bool false))) (
            .leaf (.bool false))))))))))
set_option maxRecDepth 1000000 in
theorem treeRAS_eq (me : Int) (to : Int) (draws : List Int) : funT (mkXT pxM oxR) (mkXP pxM) (mkX pxM oxR) D (fun _ => noOrc) (fun k => match k with | 9 => [17, 40, 92, 103] | 24 => [23, 51, 55, 61, 69, 104] | 61 => [27] | _ => []) 12 noOrc [17, 40, 92, 103] noLt (dOf 9) [.int .u32 me, .int .u32 to, .slice 3 0 draws.length 1 none] ((tabH kT0 kT1 kT2 4).put 3 (some (.cells true (draws.map (V.int .u32))))) (fun v _ => v) = treeRAS me to draws := by kernel_rfl
def treeRAN (me : Int) (to : Int) : DT V :=
  .ob ((0 ≤ (0 : Int) ∧ (0 : Int) ≤ ((0 : Nat) : Int)) ∧ (True)) (
  .ob ((((me : Int) == 0) == false) = true → ((True) ∧ ((True) ∧ (True)))) (
  .ob (((cond (((me : Int) == 0) == false) ((me : Int) == 4294967295) true) == false) = true → ((True) ∧ ((True) ∧ ((True) ∧ (True))))) (
  .node (cond ((cond (((me : Int) == 0) == false) ((me : Int) == 4294967295) true) == false) (!(nickOk [110])) true) (
    .ob ((((me : Int) != 0) == true) = true → ((True) ∧ ((True) ∧ (True)))) (
    .leaf (.bool (!(cond (((me : Int) != 0) == true) ((me : Int) != 4294967295) false))))) (
    .node (!(mayXid ⟨5, to, 0, 1, true, []⟩)) (
      .ob (0 + 1 ≤ ([.int .u32 me] : List V).length ∧ (pFN ((([.int .u32 me] : List V).drop 0).take 1)).1) (
      .node ((to : Int) != me) (
        .ob ((((me : Int) == me) == true) = true → ((True) ∧ ((True) ∧ ((True) ∧ (True))))) (
        .leaf (.bool (cond (((me : Int) == me) == true) (((0 : Int) == 0) && (((0 : Int) == 0) && (((0 : Int) == 0) && (((0 : Int) == 0) && ((false == false) && ((([] : Str) == []) && true)))))) false)))) (
        .node (((me : Int) != (if me = 1 then 2 else 1)) == false) (
          .node ((me : Int) == me) (
            .leaf (.bool false)) (
            .node (!(mayXid ⟨5, 0, 0, 1, false, []⟩)) (
              .leaf (.bool false)) (
              .ob (((V.beq (.int .i64 0) (.int .i64 0)) && ((V.beq (.int .i64 1) (.int .i64 1)) && ((V.beq (.int .u32 5) (.int .u32 5)) && true))) = true) (
              .ob (((V.beq (.int .i64 0) (.int .i64 0)) && ((V.beq (.int .i64 1) (.int .i64 1)) && true)) = true) (
              .ob (((V.beq (.int .i64 0) (.int .i64 0)) && true) = true) (
              .ob ((((me : Int) == (if me = 1 then 2 else 1)) == true) = true → ((True) ∧ ((True) ∧ ((True) ∧ (True))))) (
              .leaf (.bool (cond (((me : Int) == (if me = 1 then 2 else 1)) == true) true false))))))))) (
          .leaf (.bool false))))) (
      .node ((to : Int) == me) (
        .ob (0 + 1 ≤ ([.int .u32 me] : List V).length ∧ (pFN ((([.int .u32 me] : List V).drop 0).take 1)).1) (
        .ob (0 + 1 ≤ ([.int .u32 me] : List V).length ∧ (pFN ((([.int .u32 me] : List V).drop 0).take 1)).1) (
        .node ((to : Int) != me) (
          .ob (((((if me = 1 then 2 else 1) : Int) == me) == true) = true → ((True) ∧ ((True) ∧ ((True) ∧ (True))))) (
          .leaf (.bool (cond ((((if me = 1 then 2 else 1) : Int) == me) == true) (((0 : Int) == 0) && (((0 : Int) == 0) && (((0 : Int) == 0) && (((0 : Int) == 0) && ((false == false) && ((([] : Str) == []) && true)))))) false)))) (
          .node ((((if me = 1 then 2 else 1) : Int) != (if me = 1 then 2 else 1)) == false) (
            .node (((if me = 1 then 2 else 1) : Int) == me) (
              .leaf (.bool false)) (
              .node (!(mayXid ⟨5, 0, 0, 1, false, []⟩)) (
                .leaf (.bool false)) (
                .ob (((V.beq (.int .i64 0) (.int .i64 0)) && ((V.beq (.int .i64 1) (.int .i64 1)) && ((V.beq (.int .u32 5) (.int .u32 5)) && true))) = true) (
                .ob (((V.beq (.int .i64 0) (.int .i64 0)) && ((V.beq (.int .i64 1) (.int .i64 1)) && true)) = true) (
                .ob (((V.beq (.int .i64 0) (.int .i64 0)) && true) = true) (
                .ob (((((if me = 1 then 2 else 1) : Int) == (if me = 1 then 2 else 1)) == true) = true → ((True) ∧ ((True) ∧ ((True) ∧ (True))))) (
                .leaf (.bool (cond ((((if me = 1 then 2 else 1) : Int) == (if me = 1 then 2 else 1)) == true) true false))))))))) (
            .leaf (.bool false)))))) (
        .ob (0 + 1 ≤ ([.int .u32 me] : List V).length ∧ (pFN ((([.int .u32 me] : List V).drop 0).take 1)).1) (
        .node ((to : Int) != me) (
          .ob ((((me : Int) == me) == true) = true → ((True) ∧ ((True) ∧ ((True) ∧ (True))))) (
          .leaf (.bool (cond (((me : Int) == me) == true) (((0 : Int) == 0) && (((0 : Int) == 0) && (((0 : Int) == 0) && (((0 : Int) == 0) && ((false == false) && ((([] : Str) == []) && true)))))) false)))) (
          .node (((me : Int) != (if me = 1 then 2 else 1)) == false) (
            .node ((me : Int) == me) (
              .leaf (.bool false)) (
              .node (!(mayXid ⟨5, 0, 0, 1, false, []⟩)) (
                .leaf (.bool false)) (
                .ob (((V.beq (.int .i64 0) (.int .i64 0)) && ((V.beq (.int .i64 1) (.int .i64 1)) && ((V.beq (.int .u32 5) (.int .u32 5)) && true))) = true) (
                .ob (((V.beq (.int .i64 0) (.int .i64 0)) && ((V.beq (.int .i64 1) (.int .i64 1)) && true)) = true) (
                .ob (((V.beq (.int .i64 0) (.int .i64 0)) && true) = true) (
                .ob ((((me : Int) == (if me = 1 then 2 else 1)) == true) = true → ((True) ∧ ((True) ∧ ((True) ∧ (True))))) (
                .leaf (.bool (cond (((me : Int) == (if me = 1 then 2 else 1)) == true) true false))))))))) (
            .leaf (.bool false))))))))))
set_option maxRecDepth 1000000 in
theorem treeRAN_eq (me : Int) (to : Int) : funT (mkXT pxM oxRN) (mkXP pxM) (mkX pxM oxRN) D (fun _ => noOrc) (fun k => match k with | 9 => [17, 40, 55, 72, 92, 103] | 24 => [23, 51, 55, 61, 69, 104] | 61 => [27] | _ => []) 12 noOrc [17, 40, 55, 72, 92, 103] noLt (dOf 9) [.int .u32 me, .int .u32 to, .nils] (tabH kT0 kT1 kT2 4) (fun v _ => v) = treeRAN me to := by kernel_rfl
theorem fresh_ne (me : Int) : ∀ (l : List Int) (i : Nat), (freshL me l i).1 ≠ me
  | [], i => by
    simp only [freshL]
    split <;> omega
  | d :: l, i => by
    simp only [freshL]
    split
    · rename_i h
      simp only [okD, Bool.and_eq_true, bne_iff_ne, ne_eq] at h
      exact h.2
    · exact fresh_ne me l (i + 1)
theorem nick110 : nickOk [110] = true := by kernel_rfl
theorem nick0 : nickOk [] = true := by kernel_rfl
theorem mayR1 (to : Int) : mayXid ⟨5, to, 0, 1, true, []⟩ = true := by simp [mayXid, nick0]
theorem mayR2 : mayXid ⟨5, 0, 0, 1, false, []⟩ = true := by simp [mayXid, nick0]
theorem cut6 (n : Nat) : ((0 : Int) ≤ (if (6 : Int) < (n : Int) then 6 else (n : Int)) ∧ (if (6 : Int) < (n : Int) then 6 else (n : Int)) ≤ (n : Int)) ∧ ((if (6 : Int) < (n : Int) then 6 else (n : Int)) : Int).toNat ≤ n ∧ ((if (6 : Int) < (n : Int) then 6 else (n : Int)) : Int).toNat ≤ 6 := by
  by_cases h : (6 : Int) < (n : Int)
  · rw [if_pos h]; omega
  · rw [if_neg h]; omega
theorem askF (draws : List Int) (me : Int) (n : Nat) (h1 : n ≤ draws.length) (h2 : n ≤ 6) : (0 + (n - 0) ≤ ((draws.map (V.int .u32)) : List V).length ∧ 0 + 1 ≤ ([.int .u32 me] : List V).length) ∧ (pF ((((draws.map (V.int .u32)) : List V).drop 0).take (n - 0)) ((([.int .u32 me] : List V).drop 0).take 1)).1 := by
  refine ⟨⟨by simp; omega, by simp⟩, draws.take n, me, ?_, rfl, ?_⟩
  · simp [List.map_take]
  · simp; omega
theorem askFN (me : Int) : 0 + 1 ≤ ([.int .u32 me] : List V).length ∧ (pFN ((([.int .u32 me] : List V).drop 0).take 1)).1 := ⟨by simp, me, rfl⟩
theorem satRAS (me to : Int) (draws : List Int) : (treeRAS me to draws).sat fun r => r = .bool true := by
  unfold treeRAS
  obtain ⟨c1, c2, c3⟩ := cut6 draws.length
  have hp := askF draws me _ c2 c3
  rw [nick110, mayR1, mayR2]
  have hne := fresh_ne me
  simp only [DT.sat, eq_true hp, eq_true c1]
  generalize hA : List.map vInt _ = A
  have hf := hne A 0
  generalize freshL me A 0 = fr at *
  by_cases h1 : me = 0
  · simp [h1]
  · by_cases h2 : me = 4294967295
    · simp [h2]
    · by_cases h3 : to = me
      · simp [h1, h2, h3, hf, V.beq]
      · simp [h1, h2, h3, hf, V.beq]
theorem satRAN (me to : Int) : (treeRAN me to).sat fun r => r = .bool true := by
  unfold treeRAN
  have hp := askFN me
  rw [nick110, mayR1, mayR2]
  have hf : (if me = 1 then 2 else 1 : Int) ≠ me := by split <;> omega
  simp only [DT.sat, eq_true hp]
  generalize (if me = 1 then 2 else 1 : Int) = fr at *
  by_cases h1 : me = 0
  · simp [h1]
  · by_cases h2 : me = 4294967295
    · simp [h2]
    · by_cases h3 : to = me
      · simp [h1, h2, h3, hf, V.beq]
      · simp [h1, h2, h3, hf, V.beq]
end Go.Proofs.YtjnhaaolbcmdbaaGreatDoor

namespace Go.Proofs.YtjnhaaolbcmdbaaGreatDoor.replyAnew
open Go Gw Go.RowKit Go.ChangeShapes Go.WideShapes Go.ChangeAt
set_option maxRecDepth 1000000
theorem walkN {W : World} (T : Tabs W kT0 kT1 kT2) (me to : Int) : Calls Tryz.prog 9 #[.int .u32 me, .int .u32 to, .slice none 0 0] W fun e W' => e = .returned (.bool true) ∧ Below W.heap.size W W' := by
  obtain ⟨ρ, hG, _, hH, _⟩ := HR.tabs T (fun k => k < W.heap.size) (fun _ h => h) 4 (by omega)
  have hr := (run_plainU mixed tabRN tabD (dIs (by kernel_rfl)) (treeRAN_eq me to) (Q := fun r => r = .bool true) (satRAN me to)).2 (fun k => k < W.heap.size) ρ [.int .u32 me, .int .u32 to, .slice none 0 0] W hG (VRs.cons (by simp only [VR]) (VRs.cons (by simp only [VR]) (VRs.cons (by simp only [VR]) (by simp [VRs])))) hH
  refine hr.mono fun e w' ⟨x, r, h', ρ2, h1, h2, _, h4, _, h6⟩ => ⟨?_, h6.below⟩
  subst h1 h2
  simp only [VR] at h4
  rw [h4]
theorem walkS {W : World} (T : Tabs W kT0 kT1 kT2) (me to : Int) {L : Gw.Loc} {l : List Int} {a : Addr} {k : Nat} {c : Array Value} {e' : TypeId} {fz : Nat × Nat} (h2 : l.length ≤ k) (h3 : a.block = L.b) (h4 : k = 0 ∨ (a = ⟨L.b, L.o, none⟩ ∧ L.o + k ≤ L.z))
    (h5 : W.heap[L.b]? = some (.cells c e' fz)) (h6 : c.size = L.z) (h7 : L.o + l.length ≤ L.z) (h8 : ∀ i x, l[i]? = some x → c[L.o + i]? = some (Value.int .u32 x)) :
    Calls Tryz.prog 9 #[.int .u32 me, .int .u32 to, .slice (some a) l.length k] W fun e W' => e = .returned (.bool true) ∧ Below W.heap.size W W' := by
  obtain ⟨ρ, hG, hN, hH, hR⟩ := HR.tabs T (fun k => k < W.heap.size) (fun _ h => h) 4 (by omega)
  obtain ⟨ρ', hle, hH', hv⟩ := HR.arg1 hH hR (i := 3) (by show 3 < 4; omega) (by kernel_rfl) (V.int .u32) (g := Value.int .u32) (fun ρ x => by simp only [VR]) h2 h3 h4 h5 h6 h7 h8
  have hr := (run_plainU mixed tabR tabD (dIs (by kernel_rfl)) (treeRAS_eq me to l) (Q := fun r => r = .bool true) (satRAS me to l)).2 (fun k => k < W.heap.size) ρ' [.int .u32 me, .int .u32 to, .slice (some a) l.length k] W (hG.mono hle) (VRs.cons (by simp only [VR]) (VRs.cons (by simp only [VR]) (VRs.cons hv (by simp [VRs])))) hH'
  refine hr.mono fun e w' ⟨x, r, h', ρ2, h1, h2, _, h4, _, h6⟩ => ⟨?_, h6.below⟩
  subst h1 h2
  simp only [VR] at h4
  rw [h4]

theorem params : Tryz.f9.params = #[22, 22, 37] := by kernel_rfl
theorem contract (H : Type) (enc : TypeId × Value → H) (W : World) (base : Nat) (args : Array Value) (ds gs : List (DataW H)) (before : List MemPlace)
    (hval : ∀ (j : Nat) t v, Tryz.f9.params[j]? = some t → args[j]? = some v → Value.okWide Tryz.prog W .any base t v)
    (hW : DataW.Whole enc Tryz.prog Tryz.f9.params.toList Rows.replyAnewSpec.vars false W args.toList ds gs before) (hL : laidMetH Tryz.prog Rows.replyAnewRow.laid W) :
    Calls Tryz.prog 9 args W fun e W' => ∃ v, e = .returned v ∧ Rows.replyAnewSpec.post enc Tryz.prog Tryz.f9 false true false false W args v W' := by
  have hW' := hW
  obtain ⟨p, q, hA, _⟩ := hW
  rw [params] at hA hval
  obtain ⟨v0, vs0, d0, ds0, p0, q0, e0, _, _, h0, r0⟩ := trodAll_cons hA
  obtain ⟨v1, vs1, d1, ds1, p1, q1, e1, _, _, h1, r1⟩ := trodAll_cons r0
  obtain ⟨v2, vs2, d2, ds2, p2, q2, e2, _, _, h2, r2⟩ := trodAll_cons r1
  obtain ⟨z, _, _⟩ := trodAll_nil r2
  obtain rfl : args = #[v0, v1, v2] := by cases args; simp_all
  have go : Calls Tryz.prog 9 #[v0, v1, v2] W fun e W' => e = .returned (.bool true) ∧ Below W.heap.size W W' := by
    obtain ⟨me, rfl, _⟩ := int_arg (show Tryz.prog.underlying 22 = some (.int .u32) by kernel_rfl) (hval 0 22 v0 rfl rfl) h0
    obtain ⟨to, rfl, _⟩ := int_arg (show Tryz.prog.underlying 22 = some (.int .u32) by kernel_rfl) (hval 1 22 v1 rfl rfl) h1
    rcases open_row1 (A := Int) (Value.int .u32) (show Tryz.prog.underlying 37 = some (.slice 22) by kernel_rfl) (by kernel_rfl) (fun n V x hx => by
      obtain ⟨s, hs, _⟩ := DataW.trod_int (show Tryz.prog.underlying 22 = some (.int .u32) by kernel_rfl) hx
      exact ⟨s, by simpa using hs⟩) (hval 2 37 v2 rfl rfl) h2 with rfl | ⟨L, l, a, k, c, e', fz, rfl, h2, h3, h4, h5, h6, h7, h8⟩
    · exact walkN (tabs hL) me to
    · exact walkS (tabs hL) me to h2 h3 h4 h5 h6 h7 h8
  refine go.mono fun e W' ⟨he, hB⟩ => ⟨_, he, ?_⟩
  refine post_true laidOut (by kernel_rfl) rfl (tb := 4) rfl u4 (fun ds hd => ?_) hW' hB
  rw [params] at hd
  match ds, hd with
  | [a0, a1, a2], _ => exact ⟨rfl, rfl, rfl⟩

noncomputable def wArgs : Array Value := #[.int .u32 0, .int .u32 0, .slice none 0 0]
theorem reads (os : Os) {H : Type} (enc : TypeId × Value → H) : ∃ places, DataW.whole enc Tryz.prog ((laidWorld os).forCall (fun _ _ => 0) ⟨#[], wArgs, []⟩).memory Tryz.f9.params.toList Rows.replyAnewSpec.vars false wArgs.toList 8 = some ([.lit (.int .u32 0), .lit (.int .u32 0), .nil], [], places) :=
  ⟨[], by kernel_rfl⟩

theorem lifted (os : Os) (started : os.Started) (H : Type) (enc : TypeId × Value → H) (F : Stop.Interp) :
    ReturnsInHanded {} Tryz.checked os 9 .any ((OpenSpec.ofChange Rows.replyAnewSpec).preRow enc Tryz.prog Tryz.f9 Rows.replyAnewRow.domain false Rows.replyAnewRow.laid) (((OpenSpec.ofChange Rows.replyAnewSpec).at F).post enc Tryz.prog Tryz.f9 false true false false) := by
  obtain ⟨places, hx⟩ := reads os enc
  refine returnsInHanded_of_row (C := Tryz.checked) (s := OpenSpec.ofChange Rows.replyAnewSpec) own started (by kernel_rfl) Tryz.func9
    (witness_row_at (enc := enc) (C := Tryz.checked) false (laidWorld os) wArgs rfl (by kernel_rfl) (by kernel_rfl) (by kernel_rfl)
      (OpenSpec.preRow_of_cond 8 hx (by kernel_rfl) (fun k hk => by cases hk) (by kernel_rfl) (laid_met os _))) ?_
  intro W base args ds gs before hval hW _ _ _ hL _ _
  exact contract H enc W base args ds gs before hval hW hL

theorem said : Rows.ReplyAnewSaid :=
  OpenClaim.holds_of_cond 9 Tryz.f9 rfl rfl rfl rfl rfl rfl rfl ⟨rfl, rfl, rfl, rfl, rfl⟩ rfl rfl rfl rfl rfl (by kernel_rfl) Tryz.func9 (by kernel_rfl)
    (of_decide_eq_true (by kernel_rfl)) (by unfold Func.isWrapper; first | (rw [if_pos (by decide +kernel)]; kernel_rfl) | (rw [if_neg (by decide +kernel)]; exact ⟨rfl, rfl⟩))
    (fun os started H enc _ F => by rw [OpenClaim.pre_eq_preRow]; exact lifted os started H enc F)

theorem plain (f : FuncId) (fn : Func) (hf : Tryz.pinned.checked.prog.funcNamed "glowworm/glowwormlaw16.ReplyAnew" = some f) (hfn : Tryz.pinned.checked.prog.funcs[f]? = some fn) :
    true = Tryz.pinned.checked.prog.looks [] ∧ ∀ (j : Nat) t, fn.params[j]? = some t → Tryz.pinned.checked.prog.wantsStandIn t = false := by
  obtain rfl : f = 9 := Option.some.inj ((show Tryz.prog.funcNamed "glowworm/glowwormlaw16.ReplyAnew" = some 9 by kernel_rfl).symm.trans hf) |>.symm
  obtain rfl : fn = Tryz.f9 := (Option.some.inj (Tryz.func9.symm.trans hfn)).symm
  refine ⟨by kernel_rfl, fun j t ht => ?_⟩
  have hall : Tryz.f9.params.toList.all (fun t => Tryz.prog.wantsStandIn t == false) = true := by kernel_rfl
  have hm : t ∈ Tryz.f9.params.toList := by
    have := Array.mem_of_getElem? ht
    simpa using this
  have := List.all_eq_true.1 hall t hm
  have h2 : Tryz.prog.wantsStandIn t = false := by simpa using this
  exact h2

theorem card : Rows.ReplyAnewCardSaid :=
  Claim7.holds_tied_plain_at .later [] _ _ _ _ said (fun _ h => by cases h) (by kernel_rfl) (fun _ h => by cases h) replyAnew_row_tie rfl ⟨rfl, rfl⟩ (by kernel_rfl) rfl plain (by kernel_rfl)
end Go.Proofs.YtjnhaaolbcmdbaaGreatDoor.replyAnew
