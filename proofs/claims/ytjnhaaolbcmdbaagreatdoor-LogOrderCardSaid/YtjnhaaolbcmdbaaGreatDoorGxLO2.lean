/- What is proved: glowwormlaw16.LogOrder returns true, whatever it is given, and turns nothing that was there, in every world that holds the three laid tables; conditions: none beyond those of its card. -/
import Derived.Test.YtjnhaaolbcmdbaaGreatDoorGxLO1
import Derived.Test.YtjnhaaolbcmdbaaGreatDoorGxX1
import Derived.Test.YtjnhaaolbcmdbaaGreatDoorGxB5
namespace Go.Proofs.YtjnhaaolbcmdbaaGreatDoor
open Go Gw Go.RowKit
set_option linter.unusedSimpArgs false
set_option linter.unusedVariables false
theorem nick100 : nickOk [100] = true := by kernel_rfl
theorem drop_getD : ∀ (l : List Int) (i : Nat), i < l.length → l.drop i = l.getD i 0 :: l.drop (i + 1)
  | [], i, h => by simp at h
  | a :: l, 0, _ => by simp
  | a :: l, i + 1, h => by simpa using drop_getD l i (by simpa using h)
theorem ints_at : ∀ (l : List Int) (i : Nat), i < l.length → cellAt (l.map (V.int .u32)) i = some (.int .u32 (l.getD i 0))
  | [], i, h => by simp at h
  | a :: l, 0, _ => by simp [cellAt]
  | a :: l, i + 1, h => by simpa [cellAt] using ints_at l i (by simpa using h)
theorem devs_at : ∀ (l : List Int) (j : Nat), j < l.length → cellAt ((l.map mkD).flatMap Gw.Device.vs) (j * 2) = some (.int .u32 ((l.map mkD).getD j {}).id) ∧ ((l.map mkD).getD j {}).id = l.getD j 0
  | [], j, h => by simp at h
  | a :: l, 0, _ => by simp [cellAt, Gw.Device.vs, mkD]
  | a :: l, j + 1, h => by
    have := devs_at l j (by simpa using h)
    rw [show (j + 1) * 2 = j * 2 + 2 by omega]
    simpa [cellAt, Gw.Device.vs] using this
theorem msk_ints (f : Nat → Option Nat) (l : List Int) : mskVs f (l.map (V.int .u32)) = l.map (V.int .u32) := mskVs_of (flats_int .u32 l)
theorem msk_app1 (f : Nat → Option Nat) (l : List Int) (d : Int) : mskVs f (l.map (V.int .u32) ++ [V.int .u32 d]) = l.map (V.int .u32) ++ [V.int .u32 d] := by
  have := msk_ints f (l ++ [d])
  rw [List.map_append] at this
  exact this
theorem own_c1 (d : Int) : cond ((d != 0) == true) (d != 4294967295) false = ownB d := by
  unfold ownB
  cases (d != 0) <;> cases (d != 4294967295) <;> rfl
theorem cell_ok (l : List V) (k : Nat) (x : Int) (h : cellAt l k = some (V.int .u32 x)) : (okCell (cellAt l k) (V.int .u32 x) && true) = true := by
  rw [h]
  simp [okCell, V.beq]
theorem mayO (d : Int) : mayXid ⟨d, 0, 2, 6, false, [100]⟩ = ownB d := by simp [mayXid, nick100, ownB]
theorem find_has (d : Int) : ∀ l : List Int, logFind ⟨d, 0, 2, 6, false, [100]⟩ (l.map mkD) (l.map fun _ => 2) = if hasI d l = true then some true else none
  | [] => by simp [logFind, hasI]
  | a :: l => by
    have ih := find_has d l
    by_cases h : a = d
    · have e : hasI d (a :: l) = true := by simp [hasI, h]
      rw [e]
      simp [logFind, mkD, h]
    · have e : hasI d (a :: l) = hasI d l := by simp [hasI, h]
      rw [e]
      simp only [List.map_cons, logFind]
      rw [show (mkD a).id = a from rfl, if_neg h]
      exact ih
theorem add_log (o : Option (List Int)) (d : Int) (h : (o.getD []).length < 16) : logAdd (logOf o) ⟨d, 0, 2, 6, false, [100]⟩ = (ownB d, logOf (wsStep o d)) := by
  unfold logAdd
  rw [mayO]
  cases hw : ownB d with
  | false => simp [wsStep, hw]
  | true =>
    have hd : ¬ d = 0 := by
      intro e
      simp [ownB, e] at hw
    have e1 : (logOf o).devs.getD [] = (o.getD []).map mkD := by cases o <;> rfl
    have e2 : (logOf o).slots.getD [] = (o.getD []).map (fun _ => 2) := by cases o <;> rfl
    rw [if_pos rfl, if_neg (show ¬ d = (logOf o).me from hd), e1, e2, find_has]
    cases hh : hasI d (o.getD []) with
    | true => simp [wsStep, hw, hh]
    | false =>
      have hs : wsStep o d = some (o.getD [] ++ [d]) := by simp [wsStep, hw, hh]
      rw [hs]
      simp only [Bool.false_eq_true, if_false, List.length_map]
      rw [if_neg (by omega)]
      simp [logOf, mkD]
theorem okW_of (o : Option (List Int)) (m : Nat) (h : (o.getD []).length ≤ m) (hne : o ≠ some []) : okLogW m (logOf o) := by
  refine ⟨rfl, ?_⟩
  cases o with
  | none => exact .inl ⟨rfl, rfl⟩
  | some l =>
    refine .inr ⟨l.map mkD, l.map fun _ => 2, rfl, rfl, by simp, ?_, by simpa using h⟩
    cases l with
    | nil => exact absurd rfl hne
    | cons a l => simp
theorem wsG_step (frm : List Int) (i : Nat) (o : Option (List Int)) (h1 : i < frm.length) (h2 : i < 12) : wsG frm i o = wsG frm (i + 1) (wsStep o (frm.getD i 0)) := by
  unfold wsG
  have h : i < (frm.take 12).length := by simp; omega
  rw [drop_getD _ i h, List.foldl_cons]
  congr 2
  simp [List.getD_eq_getElem?_getD, List.getElem?_take, h2]
theorem wsG_end (frm : List Int) (i : Nat) (o : Option (List Int)) (h : ¬ (i < frm.length ∧ i < 12)) : wsG frm i o = o := by
  unfold wsG
  have : (frm.take 12).drop i = [] := List.drop_eq_nil_of_le (by simp; omega)
  rw [this]
  rfl
theorem wsStep_ne (o : Option (List Int)) (d : Int) (h : o ≠ some []) : wsStep o d ≠ some [] := by
  unfold wsStep
  split
  · simp
  · exact h
theorem wsStep_len (o : Option (List Int)) (d : Int) : ((wsStep o d).getD []).length ≤ (o.getD []).length + 1 := by
  unfold wsStep
  split
  · simp
  · omega
theorem inv_step {frm : List Int} {i : Nat} {o : Option (List Int)} (h : invA frm (i, o)) (h1 : i < frm.length) (h2 : i < 12) : invA frm (i + 1, wsStep o (frm.getD i 0)) := by
  obtain ⟨a, b, c⟩ := h
  have := wsStep_len o (frm.getD i 0)
  refine ⟨by simp only; omega, ?_, wsStep_ne o _ c⟩
  simp only at b ⊢
  omega
theorem has_step (d : Int) (l : List Int) (j : Nat) (h : j < l.length) : hasI d (l.drop j) = ((l.getD j 0 == d) || hasI d (l.drop (j + 1))) := by
  rw [drop_getD l j h]
  rfl
theorem wsG_len (frm : List Int) : ∀ (o : Option (List Int)) (i : Nat), ((wsG frm i o).getD []).length ≤ (o.getD []).length + ((frm.take 12).drop i).length := by
  intro o i
  unfold wsG
  generalize (frm.take 12).drop i = l
  induction l generalizing o with
  | nil => simp
  | cons a l ih =>
    rw [List.foldl_cons]
    have h1 := ih (wsStep o a)
    have h2 := wsStep_len o a
    simp only [List.length_cons]
    omega
theorem wsG_ne (frm : List Int) (i : Nat) (o : Option (List Int)) (h : o ≠ some []) : wsG frm i o ≠ some [] := by
  unfold wsG
  generalize (frm.take 12).drop i = l
  induction l generalizing o with
  | nil => exact h
  | cons a l ih =>
    rw [List.foldl_cons]
    exact ih _ (wsStep_ne o a h)

theorem roundAN17 (frm : List Int) (i : Nat) (Pr : Ex × Snap → Prop) (ho : ((loopA17 frm).out (i, none)).sat Pr) : (treeAN17 frm i).sat ((loopA17 frm).next (fun x => 13 - x.1) (i, none) Pr) := by
  obtain ⟨hinv, hN, hS⟩ := ho
  obtain ⟨hi, hl, hne⟩ := hinv
  simp only at hi hl hN hS
  have hinv : invA frm (i, none) := ⟨hi, hl, hne⟩
  unfold treeAN17
  by_cases hc : i < frm.length ∧ i < 12
  · obtain ⟨k1, k2⟩ := hc
    have e0 := ints_at frm i k1
    have w : wrapK .i64 ((i : Int) + 1) = ((i + 1 : Nat) : Int) := by rw [wrap64 (by omega) (by omega)]; omega
    have hal := add_log (none) (frm.getD i 0) (by omega)
    have hok := okW_of (none) 11 (by omega) hne
    rw [wsG_step frm i (none) k1 k2] at hN hS
    have hb : (1 = 1 ∧ 0 ≤ (i : Int) ∧ (i : Int) < (frm.length : Int)) := ⟨rfl, by omega, by omega⟩
    have hli : (Option.getD (none : Option (List Int)) []).length ≤ i := hl
    have fin : ∀ (s : Snap), s = snA frm (i + 1, wsStep (none) (frm.getD i 0)) → (loopA17 frm).next (fun x => 13 - x.1) (i, none) Pr (.normal, s) := fun s hs =>
      ⟨(i + 1, wsStep (none) (frm.getD i 0)), hs, by simp only; omega, inv_step hinv k1 k2, hN, hS⟩
    simp only [Option.getD_some, Option.getD_none] at hli
    simp only [DT.sat, msk_ints, msk_app1, Int.toNat_natCast, Nat.zero_add, Nat.mul_one, hal, own_c1, w, List.drop_zero, Bool.false_or]
    refine ⟨by simp, fun _ => ⟨(by first | exact hb | exact ⟨trivial, hb.2⟩), e0, (by first | exact hb | exact ⟨trivial, hb.2⟩), e0, hok, cell_ok _ _ _ e0, by simp, fun h => by simp at h, fun _ => ⟨(by first | exact hb | exact ⟨trivial, hb.2⟩), e0, by simp, by simp, fun hq => ⟨(by first | exact hb | exact ⟨trivial, hb.2⟩), e0, (by simp [allOne, V.one]), fin _ ?_⟩, fun hq => fin _ ?_⟩⟩, fun h => ?_⟩
    · have hs : wsStep (none) (frm.getD i 0) = some ([] ++ [frm.getD i 0]) := by
        have hc1 : (ownB (frm.getD i 0) && !hasI (frm.getD i 0) (Option.getD (none : Option (List Int)) [])) = true := by
          show (ownB (frm.getD i 0) && !hasI (frm.getD i 0) []) = true
          have hq2 : cond (ownB (frm.getD i 0) == true) true false = true := hq
          generalize ownB (frm.getD i 0) = a at hq2 ⊢
          revert hq2
          cases a <;> simp [hasI]
        unfold wsStep
        rw [if_pos hc1]
        rfl
      rw [hs]
      simp [snA]
    · have hs : wsStep (none) (frm.getD i 0) = none := by
        have hc1 : ¬ (ownB (frm.getD i 0) && !hasI (frm.getD i 0) (Option.getD (none : Option (List Int)) [])) = true := by
          show ¬ (ownB (frm.getD i 0) && !hasI (frm.getD i 0) []) = true
          have hq2 : cond (ownB (frm.getD i 0) == true) true false = false := hq
          generalize ownB (frm.getD i 0) = a at hq2 ⊢
          revert hq2
          cases a <;> simp [hasI]
        unfold wsStep
        rw [if_neg hc1]
      rw [hs]
      simp [snA]
    · exfalso
      have e1 : decide ((i : Int) < (frm.length : Int)) = true := by simp; omega
      have e2 : decide ((i : Int) < 12) = true := by simp; omega
      rw [e1, e2] at h
      simp at h
  · have hcc : (cond (decide ((i : Int) < (frm.length : Int)) == true) (decide ((i : Int) < 12)) false) = false := by
      cases h1 : decide ((i : Int) < (frm.length : Int)) with
      | false => rfl
      | true => have := of_decide_eq_true h1; simp; omega
    rw [wsG_end frm i (none) hc] at hN hS
    simp only [DT.sat, hcc, msk_ints]
    refine ⟨by simp, fun h => (by cases h), fun _ => ?_⟩
    exact hN rfl

theorem roundAS17 (frm l : List Int) (i : Nat) (Pr : Ex × Snap → Prop) (ho : ((loopA17 frm).out (i, some l)).sat Pr) : (treeAS17 frm l i).sat ((loopA17 frm).next (fun x => 13 - x.1) (i, some l) Pr) := by
  obtain ⟨hinv, hN, hS⟩ := ho
  obtain ⟨hi, hl, hne⟩ := hinv
  simp only at hi hl hN hS
  have hinv : invA frm (i, some l) := ⟨hi, hl, hne⟩
  unfold treeAS17
  by_cases hc : i < frm.length ∧ i < 12
  · obtain ⟨k1, k2⟩ := hc
    have e0 := ints_at frm i k1
    have w : wrapK .i64 ((i : Int) + 1) = ((i + 1 : Nat) : Int) := by rw [wrap64 (by omega) (by omega)]; omega
    have hal := add_log (some l) (frm.getD i 0) (by omega)
    have hok := okW_of (some l) 11 (by omega) hne
    rw [wsG_step frm i (some l) k1 k2] at hN hS
    have hb : (1 = 1 ∧ 0 ≤ (i : Int) ∧ (i : Int) < (frm.length : Int)) := ⟨rfl, by omega, by omega⟩
    have hli : (Option.getD (some l : Option (List Int)) []).length ≤ i := hl
    have fin : ∀ (s : Snap), s = snA frm (i + 1, wsStep (some l) (frm.getD i 0)) → (loopA17 frm).next (fun x => 13 - x.1) (i, some l) Pr (.normal, s) := fun s hs =>
      ⟨(i + 1, wsStep (some l) (frm.getD i 0)), hs, by simp only; omega, inv_step hinv k1 k2, hN, hS⟩
    simp only [Option.getD_some, Option.getD_none] at hli
    simp only [DT.sat, msk_ints, msk_app1, Int.toNat_natCast, Nat.zero_add, Nat.mul_one, hal, own_c1, w, List.drop_zero, Bool.false_or]
    refine ⟨by simp, fun _ => ⟨(by first | exact hb | exact ⟨trivial, hb.2⟩), e0, (by rfl), (by refine ⟨?_, ?_, ?_⟩ <;> first | exact Nat.zero_le _ | omega), (by first | exact hb | exact ⟨trivial, hb.2⟩), e0, hok, cell_ok _ _ _ e0, by simp, fun h => by simp at h, fun _ => ⟨(by first | exact hb | exact ⟨trivial, hb.2⟩), e0, by simp, by simp, fun hq => ⟨(by first | exact hb | exact ⟨trivial, hb.2⟩), e0, (by simp [allOne, V.one]; try omega), fin _ ?_⟩, fun hq => fin _ ?_⟩⟩, fun h => ?_⟩
    · have hs : wsStep (some l) (frm.getD i 0) = some (l ++ [frm.getD i 0]) := by
        have hc1 : (ownB (frm.getD i 0) && !hasI (frm.getD i 0) (Option.getD (some l : Option (List Int)) [])) = true := by
          show (ownB (frm.getD i 0) && !hasI (frm.getD i 0) l) = true
          have hq2 : cond (ownB (frm.getD i 0) == true) (!hasI (frm.getD i 0) l) false = true := hq
          generalize ownB (frm.getD i 0) = a at hq2 ⊢
          generalize hasI (frm.getD i 0) l = b at hq2 ⊢
          revert hq2
          cases a <;> cases b <;> simp
        unfold wsStep
        rw [if_pos hc1]
        rfl
      rw [hs]
      simp [snA]
    · have hs : wsStep (some l) (frm.getD i 0) = some l := by
        have hc1 : ¬ (ownB (frm.getD i 0) && !hasI (frm.getD i 0) (Option.getD (some l : Option (List Int)) [])) = true := by
          show ¬ (ownB (frm.getD i 0) && !hasI (frm.getD i 0) l) = true
          have hq2 : cond (ownB (frm.getD i 0) == true) (!hasI (frm.getD i 0) l) false = false := hq
          generalize ownB (frm.getD i 0) = a at hq2 ⊢
          generalize hasI (frm.getD i 0) l = b at hq2 ⊢
          revert hq2
          cases a <;> cases b <;> simp
        unfold wsStep
        rw [if_neg hc1]
      rw [hs]
      simp [snA]
    · exfalso
      have e1 : decide ((i : Int) < (frm.length : Int)) = true := by simp; omega
      have e2 : decide ((i : Int) < 12) = true := by simp; omega
      rw [e1, e2] at h
      simp at h
  · have hcc : (cond (decide ((i : Int) < (frm.length : Int)) == true) (decide ((i : Int) < 12)) false) = false := by
      cases h1 : decide ((i : Int) < (frm.length : Int)) with
      | false => rfl
      | true => have := of_decide_eq_true h1; simp; omega
    rw [wsG_end frm i (some l) hc] at hN hS
    simp only [DT.sat, hcc, msk_ints]
    refine ⟨by simp, fun h => (by cases h), fun _ => ?_⟩
    exact hS rfl

theorem roundB17 (frm l : List Int) (i : Nat) (x : Nat × Bool) (Pr : Ex × Snap → Prop) (ho : ((loopB17 frm l i).out x).sat Pr) : (treeB17 frm l i x).sat ((loopB17 frm l i).next (fun x => l.length + 1 - x.1) x Pr) := by
  obtain ⟨j, tw⟩ := x
  obtain ⟨⟨hj, hl, hi⟩, hP⟩ := ho
  simp only at hj hP
  unfold treeB17
  simp only
  by_cases hlt : j < l.length
  · have e0 := ints_at frm i hi
    have e1 := ints_at l j hlt
    have w : wrapK .i64 ((j : Int) + 1) = ((j + 1 : Nat) : Int) := by rw [wrap64 (by omega) (by omega)]; omega
    simp only [DT.sat, msk_ints, Int.toNat_natCast, Nat.zero_add, Nat.mul_one, w]
    have hcd : cond (tw == false) ((l.getD j 0 : Int) == frm.getD i 0) true = (tw || (l.getD j 0 == frm.getD i 0)) := by cases tw <;> simp
    rw [hcd]
    refine ⟨fun _ => ⟨by first | exact ⟨rfl, by omega, by omega⟩ | exact ⟨trivial, by omega, by omega⟩, e1, fun _ => by refine ⟨trivial, trivial, trivial, ?_, e0, trivial, trivial⟩; first | exact ⟨rfl, by omega, by omega⟩ | exact ⟨trivial, by omega, by omega⟩, (j + 1, tw || (l.getD j 0 == frm.getD i 0)), rfl, by simp only; omega, ⟨by simp only; omega, hl, hi⟩, ?_⟩, fun h => by simp at h; omega⟩
    rw [has_step _ l j hlt] at hP
    simp only [Bool.or_assoc]
    exact hP
  · have e : l.drop j = [] := List.drop_eq_nil_of_le (by omega)
    rw [e] at hP
    simp only [hasI, Bool.or_false] at hP
    simp only [DT.sat, msk_ints]
    refine ⟨fun h => by simp at h; omega, fun _ => ?_⟩
    exact hP
theorem roundC17 (frm l : List Int) (x : Option Nat) (Pr : Ex × Snap → Prop) (ho : ((loopC17 frm l).out x).sat Pr) : (match x with | none => treeCN17 frm l | some j => treeCS17 frm l j).sat ((loopC17 frm l).next (fun x => l.length + 1 - x.getD 0) x Pr) := by
  obtain ⟨⟨hj, hl⟩, hP⟩ := ho
  cases x with
  | none =>
    simp only
    unfold treeCN17
    simp only [DT.sat, msk_ints]
    refine ⟨fun h => by simp at h, fun _ => ?_⟩
    exact hP
  | some j =>
    simp only [Option.getD_some] at hj
    simp only
    unfold treeCS17
    by_cases hlt : j < l.length
    · obtain ⟨e0, e2⟩ := devs_at l j hlt
      have e1 := ints_at l j hlt
      have w : wrapK .i64 ((j : Int) + 1) = ((j + 1 : Nat) : Int) := by rw [wrap64 (by omega) (by omega)]; omega
      simp only [DT.sat, msk_ints, Int.toNat_natCast, Nat.zero_add, Nat.add_zero, Nat.mul_one, w]
      refine ⟨fun _ => ⟨by first | exact ⟨rfl, by omega, by omega⟩ | exact ⟨trivial, by omega, by omega⟩, e0, by first | exact ⟨rfl, by omega, by omega⟩ | exact ⟨trivial, by omega, by omega⟩, e1, fun h => ?_, fun _ => ⟨some (j + 1), rfl, by simp only [Option.getD_some]; omega, ⟨by simp only [Option.getD_some]; omega, hl⟩, hP⟩⟩, fun h => by simp at h; omega⟩
      exfalso
      rw [e2] at h
      simp at h
    · simp only [DT.sat, msk_ints]
      refine ⟨fun h => by simp at h; omega, fun _ => ?_⟩
      exact hP
theorem wsF_le (frm : List Int) : ((wsG frm 0 none).getD []).length ≤ 12 := by
  have := wsG_len frm none 0
  simp only [Option.getD_none, List.length_nil, List.drop_zero, List.length_take] at this
  omega
theorem satF17 (frm : List Int) : (treeF17 frm).sat fun r => r = .bool true := by
  unfold treeF17
  have hle := wsF_le frm
  have hne := wsG_ne frm 0 none (by simp)
  have ok0 := okW_of none 12 (by simp) (by simp)
  refine ⟨(by simp only [msk_ints]; rfl), ⟨Nat.zero_le _, Nat.le_refl _, by simp⟩, fun h => ⟨ok0, fun h2 => (by simp [logOf] at h2), fun _ => ⟨fun h3 => (by cases h3), fun _ => ⟨?_, ⟨Nat.zero_le _, hle⟩, ok0, fun h4 => (by cases h4), fun _ => rfl⟩⟩⟩, fun h => ?_⟩
  · simp only [msk_ints, loopC17, snC]
    first | rfl | simp
  · obtain ⟨l, hl⟩ : ∃ l, wsG frm 0 none = some l := by
      cases hw : wsG frm 0 none with
      | none => rw [hw] at h; simp at h
      | some l => exact ⟨l, rfl⟩
    have hle' : l.length ≤ 12 := by rw [hl] at hle; simpa using hle
    have hne' : (some l : Option (List Int)) ≠ some [] := by rw [← hl]; exact hne
    have ok1 := okW_of (some l) 12 (by simpa using hle') hne'
    rw [hl]
    have hd : (logOf (some l)).devs = some (l.map mkD) := rfl
    simp only [DT.sat, Option.getD_some, hd, msk_ints, List.length_map]
    refine ⟨ok1, fun _ => ⟨fun h3 => (by simp at h3), fun _ => ⟨(by rfl), ⟨Nat.zero_le _, hle'⟩, ok1, fun h4 => (by cases h4), fun _ => (by first | rfl | trivial)⟩⟩, fun h2 => (by simp at h2)⟩
def treeNil17 : DT V :=
  .ob (okLogW 12 ⟨0, none, none, none⟩) (
  .node (⟨0, none, none, none⟩ : Gw.Log).devs.isSome (
    .node (((((Option.getD (⟨0, none, none, none⟩ : Gw.Log).devs []).length : Nat) : Int) : Int) != 0) (
      .leaf (.bool false)) (
      .node (decide ((0 : Int) < (((Option.getD (⟨0, none, none, none⟩ : Gw.Log).devs []).length : Nat) : Int))) (
        .ob (2 = 2 ∧ 0 ≤ (0 : Int) ∧ (0 : Int) < (((Option.getD (⟨0, none, none, none⟩ : Gw.Log).devs []).length : Nat) : Int)) (
        .ob ((cellAt ((Option.getD (⟨0, none, none, none⟩ : Gw.Log).devs []).flatMap Gw.Device.vs) 0) = some (.int .u32 ((Option.getD (⟨0, none, none, none⟩ : Gw.Log).devs []).getD 0 {}).id)) (
        .fail))) (
        .ob (okLogW 12 ⟨0, none, none, none⟩) (
        .node false (
          .leaf (.bool true)) (
          .leaf (.bool true)))))) (
    .node false (
      .leaf (.bool false)) (
      .node false (
        .fail) (
        .ob (okLogW 12 ⟨0, none, none, none⟩) (
        .node false (
          .leaf (.bool true)) (
          .leaf (.bool true)))))))
set_option maxRecDepth 1000000 in
theorem treeNil17_eq : funT (mkXT pxLW oxLW) (mkXP pxLW) (mkX pxLW oxLW) D (fun _ => noOrc) (fun k => match k with | 17 => [13, 20, 99] | _ => []) 11 (fun k => match k with | 89 => some fun _ h => (.int .u32 ((Option.getD (⟨0, none, none, none⟩ : Gw.Log).devs []).getD 0 {}).id, h) | _ => none) [13, 20, 99] noLt (dOf 17) [.nils] (tabH kT0 kT1 kT2 3) (fun v _ => v) = treeNil17 := by kernel_rfl
theorem runNil : Run Tryz.prog 17 [.nils] (tabH kT0 kT1 kT2 3) fun r _ => r = .bool true :=
  run_plainU mixed tabLW tabD (dIs (by kernel_rfl)) treeNil17_eq (Q := fun r => r = .bool true) (by
    have ok0 : okLogW 12 ⟨0, none, none, none⟩ := ⟨rfl, .inl ⟨rfl, rfl⟩⟩
    unfold treeNil17
    simp [DT.sat, ok0])
end Go.Proofs.YtjnhaaolbcmdbaaGreatDoor

namespace Go.Proofs.YtjnhaaolbcmdbaaGreatDoor.logOrder
open Go Gw Go.RowKit Go.ChangeShapes Go.WideShapes Go.ChangeAt
set_option maxRecDepth 1000000
theorem walkNil {W : World} (T : Tabs W kT0 kT1 kT2) : Calls Tryz.prog 17 #[.slice none 0 0] W fun e W' => e = .returned (.bool true) ∧ Below W.heap.size W W' := by
  obtain ⟨ρ, hG, _, hH, _⟩ := HR.tabs T (fun k => k < W.heap.size) (fun _ h => h) 3 (Nat.le_refl _)
  have hr := (runNil).2 (fun k => k < W.heap.size) ρ [.slice none 0 0] W hG (VRs.cons (by simp only [VR]) (by simp [VRs])) hH
  refine hr.mono fun e w' ⟨x, r, h', ρ2, h1, h2, _, h4, _, h6⟩ => ⟨?_, h6.below⟩
  subst h1 h2
  simp only [VR] at h4
  rw [h4]
theorem loops17 : loopsIn 0 (dOf 17).body = [(0, lpOf 17 0), (2, lpB17), (4, lpC17)] := by kernel_rfl
theorem loopsA17 : loopsIn 0 (lpOf 17 0) = [(2, lpB17)] := by kernel_rfl
theorem runS (frm : List Int) : Run Tryz.prog 17 [.slice 3 0 frm.length 1 none] ((tabH kT0 kT1 kT2 4).put 3 (some (.cells true (frm.map (V.int .u32))))) fun r _ => r = .bool true := by
  refine run_loops mixed tabLW tabD (dIs (by kernel_rfl)) (lt := ltF17 frm) (fun hint p hp => ?_) (treeF17_eq frm) (Q := fun r => r = .bool true) (satF17 frm)
  rw [loops17] at hp
  simp only [List.mem_cons, List.not_mem_nil, or_false] at hp
  rcases hp with rfl | rfl | rfl
  · exact LoopD.lt1n mixed tabLW tabD (loopA17 frm) (fun x => 13 - x.1) (fun ex => match ex with | .normal => ⟨show 3 ≤ 5 by decide, show 4 ≤ 5 by decide⟩ | .exit _ => ⟨show 3 ≤ 5 by decide, show 4 ≤ 5 by decide⟩ | .ret => ⟨show 3 ≤ 5 by decide, show 4 ≤ 5 by decide⟩)
      (lt := fun x => match x with | (i, none) => noLt | (i, some l) => ltB17 frm l i)
      (fun x p hp => by
        rw [loopsA17] at hp
        simp only [List.mem_cons, List.not_mem_nil, or_false] at hp
        subst hp
        obtain ⟨i, o⟩ := x
        cases o with
        | none => exact lt1_none
        | some l => exact LoopD.lt1 mixed tabLW tabD (loopB17 frm l i) (fun x => l.length + 1 - x.1) (fun ex => match ex with | .normal => ⟨show 3 ≤ 13 by decide, show 4 ≤ 13 by decide⟩ | .exit _ => ⟨show 3 ≤ 13 by decide, show 4 ≤ 13 by decide⟩ | .ret => ⟨show 3 ≤ 13 by decide, show 4 ≤ 13 by decide⟩) (by kernel_rfl) (orc := orcB17 frm l i) (treeB17_eq frm l i) (roundB17 frm l i))
      (orc := fun x => match x with | (i, none) => orcAN17 frm i | (i, some l) => orcAS17 frm l i)
      (tree := fun x => match x with | (i, none) => treeAN17 frm i | (i, some l) => treeAS17 frm l i)
      (fun x => match x with | (i, none) => treeAN17_eq frm i | (i, some l) => treeAS17_eq frm l i)
      (fun x Pr ho => match x, ho with | (i, none), ho => roundAN17 frm i Pr ho | (i, some l), ho => roundAS17 frm l i Pr ho)
  · exact lt1_none
  · exact LoopD.lt1 mixed tabLW tabD (loopC17 frm ((wsG frm 0 none).getD [])) (fun x => ((wsG frm 0 none).getD []).length + 1 - x.getD 0) (fun ex => match ex with | .normal => ⟨show 3 ≤ 7 by decide, show 4 ≤ 7 by decide⟩ | .exit _ => ⟨show 3 ≤ 7 by decide, show 4 ≤ 7 by decide⟩ | .ret => ⟨show 3 ≤ 5 by decide, show 4 ≤ 5 by decide⟩) (by kernel_rfl)
      (orc := fun x => match x with | none => orcCN17 | some j => orcCS17 frm ((wsG frm 0 none).getD []) j)
      (tree := fun x => match x with | none => treeCN17 frm ((wsG frm 0 none).getD []) | some j => treeCS17 frm ((wsG frm 0 none).getD []) j)
      (fun x => match x with | none => treeCN17_eq frm _ | some j => treeCS17_eq frm _ j) (roundC17 frm _)
theorem walkS {W : World} (T : Tabs W kT0 kT1 kT2) {L : Gw.Loc} {l : List Int} {a : Addr} {k : Nat} {c : Array Value} {e' : TypeId} {fz : Nat × Nat} (h2 : l.length ≤ k) (h3 : a.block = L.b) (h4 : k = 0 ∨ (a = ⟨L.b, L.o, none⟩ ∧ L.o + k ≤ L.z))
    (h5 : W.heap[L.b]? = some (.cells c e' fz)) (h6 : c.size = L.z) (h7 : L.o + l.length ≤ L.z) (h8 : ∀ i x, l[i]? = some x → c[L.o + i]? = some (Value.int .u32 x)) :
    Calls Tryz.prog 17 #[.slice (some a) l.length k] W fun e W' => e = .returned (.bool true) ∧ Below W.heap.size W W' := by
  obtain ⟨ρ, hG, hN, hH, hR⟩ := HR.tabs T (fun k => k < W.heap.size) (fun _ h => h) 4 (by omega)
  obtain ⟨ρ', hle, hH', hv⟩ := HR.arg1 hH hR (i := 3) (by show 3 < 4; omega) (by kernel_rfl) (V.int .u32) (g := Value.int .u32) (fun ρ x => by simp only [VR]) h2 h3 h4 h5 h6 h7 h8
  have hr := (runS l).2 (fun k => k < W.heap.size) ρ' [.slice (some a) l.length k] W (hG.mono hle) (VRs.cons hv (by simp [VRs])) hH'
  refine hr.mono fun e w' ⟨x, r, h', ρ2, h1, h2, _, h4, _, h6⟩ => ⟨?_, h6.below⟩
  subst h1 h2
  simp only [VR] at h4
  rw [h4]

theorem params : Tryz.f17.params = #[37] := by kernel_rfl
theorem contract (H : Type) (enc : TypeId × Value → H) (W : World) (base : Nat) (args : Array Value) (ds gs : List (DataW H)) (before : List MemPlace)
    (hval : ∀ (j : Nat) t v, Tryz.f17.params[j]? = some t → args[j]? = some v → Value.okWide Tryz.prog W .any base t v)
    (hW : DataW.Whole enc Tryz.prog Tryz.f17.params.toList Rows.logOrderSpec.vars false W args.toList ds gs before) (hL : laidMetH Tryz.prog Rows.logOrderRow.laid W) :
    Calls Tryz.prog 17 args W fun e W' => ∃ v, e = .returned v ∧ Rows.logOrderSpec.post enc Tryz.prog Tryz.f17 false true false false W args v W' := by
  have hW' := hW
  obtain ⟨p, q, hA, _⟩ := hW
  rw [params] at hA hval
  obtain ⟨v0, vs0, d0, ds0, p0, q0, e0, _, _, h0, r0⟩ := trodAll_cons hA
  obtain ⟨z, _, _⟩ := trodAll_nil r0
  obtain rfl : args = #[v0] := by cases args; simp_all
  have go : Calls Tryz.prog 17 #[v0] W fun e W' => e = .returned (.bool true) ∧ Below W.heap.size W W' := by
    rcases open_row1 (A := Int) (Value.int .u32) (show Tryz.prog.underlying 37 = some (.slice 22) by kernel_rfl) (by kernel_rfl) (fun n V x hx => by
      obtain ⟨s, hs, _⟩ := DataW.trod_int (show Tryz.prog.underlying 22 = some (.int .u32) by kernel_rfl) hx
      exact ⟨s, by simpa using hs⟩) (hval 0 37 v0 rfl rfl) h0 with rfl | ⟨L, l, a, k, c, e', fz, rfl, h2, h3, h4, h5, h6, h7, h8⟩
    · exact walkNil (tabs hL)
    · exact walkS (tabs hL) h2 h3 h4 h5 h6 h7 h8
  refine go.mono fun e W' ⟨he, hB⟩ => ⟨_, he, ?_⟩
  refine post_true laidOut (by kernel_rfl) rfl (tb := 4) rfl u4 (fun ds hd => ?_) hW' hB
  rw [params] at hd
  match ds, hd with
  | [a0], _ => exact ⟨rfl, rfl, rfl⟩

noncomputable def wArgs : Array Value := #[.slice none 0 0]
theorem reads (os : Os) {H : Type} (enc : TypeId × Value → H) : ∃ places, DataW.whole enc Tryz.prog ((laidWorld os).forCall (fun _ _ => 0) ⟨#[], wArgs, []⟩).memory Tryz.f17.params.toList Rows.logOrderSpec.vars false wArgs.toList 8 = some ([.nil], [], places) :=
  ⟨[], by kernel_rfl⟩

theorem lifted (os : Os) (started : os.Started) (H : Type) (enc : TypeId × Value → H) (F : Stop.Interp) :
    ReturnsInHanded {} Tryz.checked os 17 .any ((OpenSpec.ofChange Rows.logOrderSpec).preRow enc Tryz.prog Tryz.f17 Rows.logOrderRow.domain false Rows.logOrderRow.laid) (((OpenSpec.ofChange Rows.logOrderSpec).at F).post enc Tryz.prog Tryz.f17 false true false false) := by
  obtain ⟨places, hx⟩ := reads os enc
  refine returnsInHanded_of_row (C := Tryz.checked) (s := OpenSpec.ofChange Rows.logOrderSpec) own started (by kernel_rfl) Tryz.func17
    (witness_row_at (enc := enc) (C := Tryz.checked) false (laidWorld os) wArgs rfl (by kernel_rfl) (by kernel_rfl) (by kernel_rfl)
      (OpenSpec.preRow_of_cond 8 hx (by kernel_rfl) (fun k hk => by cases hk) (by kernel_rfl) (laid_met os _))) ?_
  intro W base args ds gs before hval hW _ _ _ hL _ _
  exact contract H enc W base args ds gs before hval hW hL

theorem said : Rows.LogOrderSaid :=
  OpenClaim.holds_of_cond 17 Tryz.f17 rfl rfl rfl rfl rfl rfl rfl ⟨rfl, rfl, rfl, rfl, rfl⟩ rfl rfl rfl rfl rfl (by kernel_rfl) Tryz.func17 (by kernel_rfl)
    (of_decide_eq_true (by kernel_rfl)) (by unfold Func.isWrapper; first | (rw [if_pos (by decide +kernel)]; kernel_rfl) | (rw [if_neg (by decide +kernel)]; exact ⟨rfl, rfl⟩))
    (fun os started H enc _ F => by rw [OpenClaim.pre_eq_preRow]; exact lifted os started H enc F)

theorem plain (f : FuncId) (fn : Func) (hf : Tryz.pinned.checked.prog.funcNamed "glowworm/glowwormlaw16.LogOrder" = some f) (hfn : Tryz.pinned.checked.prog.funcs[f]? = some fn) :
    true = Tryz.pinned.checked.prog.looks [] ∧ ∀ (j : Nat) t, fn.params[j]? = some t → Tryz.pinned.checked.prog.wantsStandIn t = false := by
  obtain rfl : f = 17 := Option.some.inj ((show Tryz.prog.funcNamed "glowworm/glowwormlaw16.LogOrder" = some 17 by kernel_rfl).symm.trans hf) |>.symm
  obtain rfl : fn = Tryz.f17 := (Option.some.inj (Tryz.func17.symm.trans hfn)).symm
  refine ⟨by kernel_rfl, fun j t ht => ?_⟩
  have hall : Tryz.f17.params.toList.all (fun t => Tryz.prog.wantsStandIn t == false) = true := by kernel_rfl
  have hm : t ∈ Tryz.f17.params.toList := by
    have := Array.mem_of_getElem? ht
    simpa using this
  have := List.all_eq_true.1 hall t hm
  have h2 : Tryz.prog.wantsStandIn t = false := by simpa using this
  exact h2

theorem card : Rows.LogOrderCardSaid :=
  Claim7.holds_tied_plain_at .later [] _ _ _ _ said (fun _ h => by cases h) (by kernel_rfl) (fun _ h => by cases h) logOrder_row_tie rfl ⟨rfl, rfl⟩ (by kernel_rfl) rfl plain (by kernel_rfl)
end Go.Proofs.YtjnhaaolbcmdbaaGreatDoor.logOrder
