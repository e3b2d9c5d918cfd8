/- BoxOrder: its rounds, plainly. -/
import Derived.Test.YtjnhaaolbcmdbaaGreatDoorGxK4
namespace Go.Proofs.YtjnhaaolbcmdbaaGreatDoor
open Go Gw Go.RowKit
set_option linter.unusedSimpArgs false
set_option linter.unusedVariables false

theorem wrap64 {n : Int} (h0 : -9223372036854775808 ≤ n) (h1 : n < 9223372036854775808) : wrapK .i64 n = n := by
  simp only [wrapK]
  omega
theorem text64 (s : Str) : extractL s 0 ((if (64 : Int) < (s.length : Int) then 64 else (s.length : Int)) : Int).toNat = s.take 64 := by
  simp only [extractL, List.drop_zero, Nat.sub_zero]
  by_cases h : (64 : Int) < (s.length : Int)
  · rw [if_pos h]; rfl
  · rw [if_neg h, Int.toNat_natCast, List.take_length, List.take_of_length_le (by omega)]
theorem may_askOf (s : Str) : mayAsk (askOf s) = true := by
  simp [mayAsk, askOf]
  omega
theorem put_step (bodies : List Str) {i : Nat} (hi : i < bodies.length) : boxPut (boxAt bodies i) (askOf (bodies.getD i [])) = (if i < 8 then 0 else 3, boxAt bodies (i + 1)) := by
  have hl : (boxAt bodies i).l.getD [] = (bodies.map askOf).take (min i 8) := by
    unfold boxAt
    by_cases h0 : i = 0
    · subst h0; simp
    · simp [h0]
  have hlen : ((bodies.map askOf).take (min i 8)).length = min i 8 := by simp; omega
  unfold boxPut
  rw [if_pos (may_askOf _), hl, hlen]
  by_cases h8 : i < 8
  · rw [if_neg (by omega), if_pos h8]
    refine Prod.ext rfl ?_
    unfold boxAt
    rw [if_neg (by omega), show min i 8 = i by omega, show min (i + 1) 8 = i + 1 by omega]
    congr 2
    rw [List.take_add_one, List.getElem?_map, List.getD_eq_getElem?_getD, List.getElem?_eq_getElem hi]
    simp
  · rw [if_pos (by omega), if_neg h8]
    refine Prod.ext rfl ?_
    unfold boxAt
    rw [if_neg (by omega), if_neg (by omega), show min i 8 = 8 by omega, show min (i + 1) 8 = 8 by omega]

theorem rowsB_eq (bodies : List Str) (b : Gw.Box) : [some (.cells true (zsV .u8 kT0)), some (.cells true (zsV .u8 kT1)), some (.cells true (zsV .u8 kT2)), some (.cells true (mskVs (fnO 5 []) (bodies.map V.str))), some (.obj (.box b))] = rowsB bodies b := by
  rw [mskVs_of (flats_str bodies)]; rfl

theorem round0 (bodies : List Str) (i : Nat) (Pr : Ex × Snap → Prop) (ho : ((loop0 bodies).out i).sat Pr) : (treeLoop0 bodies i).sat ((loop0 bodies).next (fun i => 13 - i) i Pr) := by
  obtain ⟨hi, hP⟩ := ho
  unfold treeLoop0
  simp only [rowsB_eq, DT.sat]
  have ask : (⟨3, 0, 0, extractL (bodies.getD ((i : Nat) : Int).toNat []) 0 ((if (64 : Int) < ((bodies.getD ((i : Nat) : Int).toNat []).length : Int) then 64 else ((bodies.getD ((i : Nat) : Int).toNat []).length : Int)) : Int).toNat⟩ : Gw.Ask) = askOf (bodies.getD i []) := by
    rw [Int.toNat_natCast, text64]; rfl
  rw [ask]
  refine ⟨fun _ => ⟨trivial, trivial, trivial⟩, fun hc => ?_, fun hc => ?_⟩
  · have hlt : i < bodies.length ∧ i < 12 := by
      simp at hc
      omega
    rw [put_step bodies hlt.1]
    refine ⟨⟨trivial, by omega, by omega⟩, ?_, ⟨⟨by split <;> omega, by split <;> omega⟩, trivial⟩, fun h => ?_, fun h => ?_⟩
    · rw [Int.toNat_natCast]
      have key : ∀ (l : List Str) (i : Nat), i < l.length → cellAt (l.map V.str) i = some (.str (l.getD i [])) := by
        intro l
        induction l with
        | nil => intro i h; simp at h
        | cons a l ih =>
          intro i h
          cases i with
          | zero => simp [cellAt]
          | succ i => simpa [cellAt] using ih i (by simpa using h)
      simpa using key bodies i hlt.1
    · have h8 : i < 8 := by
        by_cases h8 : i < 8
        · exact h8
        · simp [h8] at h
      refine ⟨i + 1, ?_, by simp only; omega, ⟨by omega, hP⟩⟩
      simp only [loop0]
      rw [wrap64 (by omega) (by omega), wrap64 (by omega) (by omega), show min (i + 1) 8 = min i 8 + 1 by omega]
      simp
    · have h8 : ¬ i < 8 := by
        intro h8
        simp [h8] at h
      refine ⟨i + 1, ?_, by simp only; omega, ⟨by omega, hP⟩⟩
      simp only [loop0]
      rw [wrap64 (by omega) (by omega), show min (i + 1) 8 = min i 8 by omega]
      simp
  · have he : i = min bodies.length 12 := by
      simp at hc
      omega
    subst he
    exact hP

theorem first_step (bodies : List Str) {i : Nat} (hi : i < min bodies.length 8) : boxFirst (box2 bodies i) = (askOf (bodies.getD i []), true) ∧ boxTake (box2 bodies i) = box2 bodies (i + 1) := by
  have hlt : i < ((bodies.map askOf).take 8).length := by simp; omega
  have hd : ((bodies.map askOf).take 8).drop i = askOf (bodies.getD i []) :: ((bodies.map askOf).take 8).drop (i + 1) := by
    rw [List.drop_eq_getElem_cons hlt]
    congr 1
    simp [List.getD_eq_getElem?_getD, List.getElem?_eq_getElem (show i < bodies.length by omega)]
  unfold boxFirst boxTake box2
  rw [if_neg (by omega), if_neg (by omega), hd]
  exact ⟨rfl, rfl⟩

theorem round2 (bodies : List Str) (i : Nat) (Pr : Ex × Snap → Prop) (ho : ((loop2 bodies).out i).sat Pr) : (treeLoop2 bodies i).sat ((loop2 bodies).next (fun i => 13 - i) i Pr) := by
  obtain ⟨hi, hP⟩ := ho
  unfold treeLoop2
  simp only [rowsB_eq, DT.sat]
  rw [Int.toNat_natCast, text64]
  refine ⟨fun hc => ?_, fun hc => ?_⟩
  · have hlt : i < min bodies.length 8 := by simp at hc; omega
    obtain ⟨h1, h2⟩ := first_step bodies hlt
    rw [h1, h2]
    have key : ∀ (l : List Str) (i : Nat), i < l.length → cellAt (l.map V.str) i = some (.str (l.getD i [])) := by
      intro l
      induction l with
      | nil => intro i h; simp at h
      | cons a l ih =>
        intro i h
        cases i with
        | zero => simp [cellAt]
        | succ i => simpa [cellAt] using ih i (by simpa using h)
    refine ⟨fun _ => ⟨trivial, trivial, trivial⟩, fun _ => ⟨trivial, trivial, trivial, trivial⟩, fun _ => ?_, fun h => ?_⟩
    · refine ⟨⟨trivial, by omega, by omega⟩, by simpa using key bodies i (by omega), ⟨⟨by split <;> omega, by split <;> omega⟩, trivial⟩, by simp [V.beq], fun h => ?_, fun _ => ?_⟩
      · simp [askOf] at h
      · refine ⟨i + 1, ?_, by simp only; omega, ⟨by omega, hP⟩⟩
        simp only [loop2]
        rw [wrap64 (by omega) (by omega)]
        simp
    · simp at h
  · have he : i = min bodies.length 8 := by
      simp at hc
      omega
    subst he
    exact hP
theorem satBO (bodies : List Str) : (treeBO bodies).sat fun r => r = .bool true := by
  unfold treeBO
  simp only [rowsB_eq, DT.sat]
  refine ⟨rfl, by omega, fun h => ?_, fun _ => ⟨?_, by omega, ?_⟩⟩
  · exfalso
    simp at h
    split at h <;> omega
  · simp only [loop2]
    have e1 : min (min bodies.length 12) 8 = min bodies.length 8 := by omega
    have e2 : boxAt bodies (min bodies.length 12) = box2 bodies 0 := by
      unfold boxAt box2
      by_cases h0 : bodies.length = 0
      · rw [if_pos (by omega), if_pos h0]
      · rw [if_neg (by omega), if_neg h0, List.drop_zero, e1]
        congr 2
        rw [show min bodies.length 8 = min 8 (bodies.map askOf).length by simp; omega, ← List.take_eq_take_min]
    rw [e1, e2]
    rfl
  · have : ((box2 bodies (min bodies.length 8)).l.getD []).length = 0 := by
      unfold box2
      by_cases h0 : bodies.length = 0
      · rw [if_pos h0]; rfl
      · rw [if_neg h0]; simp; omega
    simp [this]
end Go.Proofs.YtjnhaaolbcmdbaaGreatDoor
