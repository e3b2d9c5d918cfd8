/- BoxAll: its rounds, plainly. -/
import Derived.Test.YtjnhaaolbcmdbaaGreatDoorGxK7
import Derived.Test.YtjnhaaolbcmdbaaGreatDoorGxK5
namespace Go.Proofs.YtjnhaaolbcmdbaaGreatDoor
open Go Gw Go.RowKit
set_option linter.unusedSimpArgs false
set_option linter.unusedVariables false

theorem asks_at : ∀ (l : List Gw.Ask) (i : Nat), i < l.length → cellsAt (l.flatMap Gw.Ask.vs) (i * 4) 4 = some (l.getD i {}).vs
  | [], i, h => by simp at h
  | a :: l, 0, _ => by simp [Gw.Ask.vs, cellsAt, takeN]
  | a :: l, i + 1, h => by
    rw [show (i + 1) * 4 = i * 4 + 4 by omega]
    simpa [Gw.Ask.vs, cellsAt] using asks_at l i (by simpa using h)
theorem bools_at : ∀ (l : List Bool) (i : Nat), i < l.length → cellAt (l.map V.bool) i = some (.bool (l.getD i false))
  | [], i, h => by simp at h
  | a :: l, 0, _ => by simp [cellAt]
  | a :: l, i + 1, h => by simpa [cellAt] using bools_at l i (by simpa using h)
theorem asks_win (a : Gw.Ask) (l : List Gw.Ask) : (((a :: l).flatMap Gw.Ask.vs).drop 4).take (l.length * 4) = l.flatMap Gw.Ask.vs := by
  rw [List.flatMap_cons, show a.vs = [vi a.kind, vi a.n, vu a.id, V.str a.body] from rfl]
  simp only [List.cons_append, List.nil_append, List.drop_succ_cons, List.drop_zero]
  exact List.take_of_length_le (by rw [asks_len]; exact Nat.le_refl _)
theorem asks_all (l : List Gw.Ask) : (l.flatMap Gw.Ask.vs).take (l.length * 4) = l.flatMap Gw.Ask.vs := List.take_of_length_le (by rw [asks_len]; exact Nat.le_refl _)
theorem asks_app (l : List Gw.Ask) (a : Gw.Ask) : l.flatMap Gw.Ask.vs ++ a.vs = (l ++ [a]).flatMap Gw.Ask.vs := by simp
def mu5 (s : St5) : Nat := 61 - s.1
theorem wrapI {i : Nat} (h : i < 60) : wrapK .i64 ((i : Int) + 1) = ((i + 1 : Nat) : Int) := by
  rw [wrap64 (by omega) (by omega)]; omega
theorem fin5 {xs : List Gw.Ask} {tk : Option (List Bool)} {i : Nat} {o o' : Option (List Gw.Ask)} {Pr : Ex × Snap → Prop} {s : Snap} (hP : Pr (.exit 0, ([], ro5 xs tk))) (h1 : i < xs.length) (h2 : i < 60) (hs : s = st5 xs tk (i + 1, o')) (h8 : (o'.getD []).length ≤ 8) :
    (loop5 xs tk).next mu5 (i, o) Pr (.normal, s) := by
  refine ⟨(i + 1, o'), hs, ?_, ⟨?_, h8⟩, hP⟩
  · simp only [mu5]; omega
  · show i + 1 ≤ min xs.length 60
    omega
theorem put_no {l : Option (List Gw.Ask)} {a : Gw.Ask} (hm : mayAsk a = false) : boxPut ⟨l⟩ a = (1, ⟨l⟩) := by simp [boxPut, hm]
theorem put_full {l : Option (List Gw.Ask)} {a : Gw.Ask} (hm : mayAsk a = true) (h : 8 ≤ (l.getD []).length) : boxPut ⟨l⟩ a = (3, ⟨l⟩) := by simp [boxPut, hm, h]
theorem put_on {l : Option (List Gw.Ask)} {a : Gw.Ask} (hm : mayAsk a = true) (h : ¬ 8 ≤ (l.getD []).length) : boxPut ⟨l⟩ a = (0, ⟨some (l.getD [] ++ [a])⟩) := by simp [boxPut, hm, h]

theorem msk_asks (f : Nat → Option Nat) (l : List Gw.Ask) : mskVs f (l.flatMap Gw.Ask.vs) = l.flatMap Gw.Ask.vs := mskVs_of (asks_flat l)
theorem msk_bools (f : Nat → Option Nat) (l : List Bool) : mskVs f (l.map V.bool) = l.map V.bool := mskVs_of (flats_bool l)
theorem msk_app (f : Nat → Option Nat) (l : List Gw.Ask) (a : Gw.Ask) : mskVs f (l.flatMap Gw.Ask.vs ++ a.vs) = l.flatMap Gw.Ask.vs ++ a.vs := by
  rw [asks_app]; exact msk_asks f _
theorem msk_one (f : Nat → Option Nat) (a : Gw.Ask) : mskVs f a.vs = a.vs := by simp [Gw.Ask.vs, mskVs, mskV]
theorem win_cons (b : Gw.Ask) (l : List Gw.Ask) : List.take (l.length * 4) (List.drop 4 (b.vs ++ l.flatMap Gw.Ask.vs)) = l.flatMap Gw.Ask.vs := by
  rw [← List.flatMap_cons]; exact asks_win b l
theorem win_cons1 (b : Gw.Ask) (l : List Gw.Ask) (a : Gw.Ask) : List.take ((l.length + 1) * 4) (List.drop 4 (b.vs ++ (l.flatMap Gw.Ask.vs ++ a.vs))) = l.flatMap Gw.Ask.vs ++ a.vs := by
  rw [asks_app, ← List.flatMap_cons, show l.length + 1 = (l ++ [a]).length by simp]; exact asks_win b (l ++ [a])
theorem all_app (l : List Gw.Ask) (a : Gw.Ask) : List.take ((l.length + 1) * 4) (l.flatMap Gw.Ask.vs ++ a.vs) = l.flatMap Gw.Ask.vs ++ a.vs := by
  rw [asks_app, show l.length + 1 = (l ++ [a]).length by simp]; exact asks_all _
theorem all_cons (b : Gw.Ask) (l : List Gw.Ask) : List.take ((l.length + 1) * 4) (b.vs ++ l.flatMap Gw.Ask.vs) = b.vs ++ l.flatMap Gw.Ask.vs := by
  rw [← List.flatMap_cons, show l.length + 1 = (b :: l).length by simp]; exact asks_all _
theorem all_cons1 (b : Gw.Ask) (l : List Gw.Ask) (a : Gw.Ask) : List.take ((l.length + 1 + 1) * 4) (b.vs ++ (l.flatMap Gw.Ask.vs ++ a.vs)) = b.vs ++ (l.flatMap Gw.Ask.vs ++ a.vs) := by
  rw [asks_app, ← List.flatMap_cons, show l.length + 1 + 1 = (b :: (l ++ [a])).length by simp]; exact asks_all _
theorem msk_cons (f : Nat → Option Nat) (b : Gw.Ask) (l : List Gw.Ask) : mskVs f (b.vs ++ l.flatMap Gw.Ask.vs) = b.vs ++ l.flatMap Gw.Ask.vs := by
  rw [← List.flatMap_cons]; exact msk_asks f _
theorem msk_cons1 (f : Nat → Option Nat) (b : Gw.Ask) (l : List Gw.Ask) (a : Gw.Ask) : mskVs f (b.vs ++ (l.flatMap Gw.Ask.vs ++ a.vs)) = b.vs ++ (l.flatMap Gw.Ask.vs ++ a.vs) := by
  rw [asks_app, ← List.flatMap_cons]; exact msk_asks f _
theorem at0 (b : Gw.Ask) (l : List V) : cellsAt (b.vs ++ l) 0 4 = some b.vs := by simp [Gw.Ask.vs, cellsAt, takeN]
theorem vs_eta (b : Gw.Ask) : [V.int .i64 b.kind, .int .i64 b.n, .int .u32 b.id, .str b.body] = b.vs := rfl
theorem all_one (a : Gw.Ask) : List.take 4 a.vs = a.vs := rfl
theorem len_vs (a : Gw.Ask) : a.vs.length = 4 := rfl
theorem one_vs (a : Gw.Ask) : allOne a.vs = true := rfl
theorem drop4 (a : Gw.Ask) : List.drop 4 a.vs = [] := rfl
theorem at1 (b : Gw.Ask) : cellsAt b.vs 0 4 = some b.vs := rfl
theorem text70 (s : Str) : (0 : Int) ≤ (if (70 : Int) < (s.length : Int) then 70 else (s.length : Int)) ∧ (if (70 : Int) < (s.length : Int) then 70 else (s.length : Int)) ≤ (s.length : Int) := by
  by_cases h : (70 : Int) < (s.length : Int)
  · rw [if_pos h]; omega
  · rw [if_neg h]; omega

theorem roundSS (xs : List Gw.Ask) (tk : List Bool) (i : Nat) (l : List Gw.Ask) (Pr : Ex × Snap → Prop) (ho : ((loop5 xs (some tk)).out (i, (some l))).sat Pr) : (treeBASS xs tk i l).sat ((loop5 xs (some tk)).next mu5 (i, (some l)) Pr) := by
  obtain ⟨⟨hi, h8⟩, hP⟩ := ho
  simp only [Option.getD_some] at hi h8
  unfold treeBASS
  simp only [Int.toNat_natCast, Nat.zero_add, Nat.mul_one, DT.sat]
  have hni : ¬ ((i : Int) < 0) := by omega
  by_cases hc : i < xs.length ∧ i < 60
  · obtain ⟨k1, k2⟩ := hc
    have k3 : (i : Int) < 60 := by omega
    have e0 := asks_at xs i k1
    have k4 : ((i : Int) < (xs.length : Int)) := by omega
    have F := @fin5 xs (some tk) i (some l)
    simp only [wrapI k2]
    have ek : (askAt xs i).kind = (xs.getD i {}).kind := rfl
    have en : (askAt xs i).n = (xs.getD i {}).n := rfl
    have ei : (askAt xs i).id = (xs.getD i {}).id := rfl
    generalize askAt xs i = a at ek en ei ⊢
    generalize xs.getD i {} = x at e0 ek en ei ⊢
    have e3 := text70 x.body
    simp only [vs_eta]
    by_cases hm : mayAsk a = true
    · by_cases hf : 8 ≤ l.length
      · have hp : boxPut ⟨some l⟩ a = (3, ⟨some l⟩) := put_full hm hf
        have k6 : (8 : Int) ≤ (l.length : Int) := by omega
        by_cases ht : i < tk.length
        · have e1 := bools_at tk i ht
          have k5 : ((i : Int) < (tk.length : Int)) := by omega
          generalize tk.getD i false = b at e1 ⊢
          cases b with
          | true =>
            cases l with
            | nil =>
              simp (config := {maxSteps := 400000}) [k1, k3, k4, hni, e0, e3, hm, hp, hf, k6, ht, k5, e1, boxFirst, boxTake, msk_asks, msk_bools, msk_app, msk_one, win_cons, win_cons1, all_app, all_cons, all_cons1, msk_cons, msk_cons1, at0, all_one, len_vs, one_vs, drop4, at1, mskVs, asks_len, -List.length_flatMap, -List.flatMap_append, asks_all, cellsAt, takeN]
              simp only [List.length_cons, List.length_nil] at h8
              try simp only [List.length_cons, List.length_nil] at hf
              repeat' (first | apply And.intro | intro q)
              all_goals first | omega | (exfalso; omega) | exact F (o' := some []) hP k1 k2 (by simp [st5, ro5, tk5]) (by simp; try omega)
            | cons c l =>
              simp (config := {maxSteps := 400000}) [k1, k3, k4, hni, e0, e3, hm, hp, hf, k6, ht, k5, e1, boxFirst, boxTake, msk_asks, msk_bools, msk_app, msk_one, win_cons, win_cons1, all_app, all_cons, all_cons1, msk_cons, msk_cons1, at0, all_one, len_vs, one_vs, drop4, at1, mskVs, asks_len, -List.length_flatMap, -List.flatMap_append, asks_all, cellsAt, takeN]
              simp only [List.length_cons, List.length_nil] at h8
              try simp only [List.length_cons, List.length_nil] at hf
              repeat' (first | apply And.intro | intro q)
              all_goals first | omega | (exfalso; omega) | exact F (o' := some l) hP k1 k2 (by simp [st5, ro5, tk5]) (by simp; try omega)
          | false =>
            simp (config := {maxSteps := 400000}) [k1, k3, k4, hni, e0, e3, hm, hp, hf, k6, ht, k5, e1, msk_asks, msk_bools, msk_app, msk_one, win_cons, win_cons1, all_app, all_cons, all_cons1, msk_cons, msk_cons1, at0, all_one, len_vs, one_vs, drop4, at1, mskVs, asks_len, -List.length_flatMap, -List.flatMap_append, asks_all, cellsAt, takeN]
            repeat' (first | apply And.intro | intro q)
            all_goals first | omega | (exfalso; omega) | exact F (o' := some l) hP k1 k2 (by simp [st5, ro5, tk5]) (by simp; try omega) | exact F (o' := none) hP k1 k2 (by simp [st5, ro5, tk5]) (by simp; try omega)
        · have k5 : ¬ ((i : Int) < (tk.length : Int)) := by omega
          simp (config := {maxSteps := 400000}) [k1, k3, k4, hni, e0, e3, hm, hp, hf, k6, ht, k5, msk_asks, msk_bools, msk_app, msk_one, win_cons, win_cons1, all_app, all_cons, all_cons1, msk_cons, msk_cons1, at0, all_one, len_vs, one_vs, drop4, at1, mskVs, asks_len, -List.length_flatMap, -List.flatMap_append, asks_all, cellsAt, takeN]
          repeat' (first | apply And.intro | intro q)
          all_goals first | omega | (exfalso; omega) | exact F (o' := some l) hP k1 k2 (by simp [st5, ro5, tk5]) (by simp; try omega) | exact F (o' := none) hP k1 k2 (by simp [st5, ro5, tk5]) (by simp; try omega)
      · have hp : boxPut ⟨some l⟩ a = (0, ⟨some (l ++ [a])⟩) := put_on hm hf
        have k6 : ¬ (8 : Int) ≤ (l.length : Int) := by omega
        by_cases ht : i < tk.length
        · have e1 := bools_at tk i ht
          have k5 : ((i : Int) < (tk.length : Int)) := by omega
          generalize tk.getD i false = b at e1 ⊢
          cases b with
          | true =>
            cases l with
            | nil =>
              simp (config := {maxSteps := 400000}) [k1, k3, k4, hni, e0, e3, hm, hp, hf, k6, ht, k5, e1, boxFirst, boxTake, msk_asks, msk_bools, msk_app, msk_one, win_cons, win_cons1, all_app, all_cons, all_cons1, msk_cons, msk_cons1, at0, all_one, len_vs, one_vs, drop4, at1, mskVs, asks_len, -List.length_flatMap, -List.flatMap_append, asks_all, cellsAt, takeN]
              simp only [List.length_cons, List.length_nil] at h8
              try simp only [List.length_cons, List.length_nil] at hf
              repeat' (first | apply And.intro | intro q)
              all_goals first | omega | (exfalso; omega) | exact F (o' := some []) hP k1 k2 (by simp [st5, ro5, tk5]) (by simp; try omega)
            | cons c l =>
              simp (config := {maxSteps := 400000}) [k1, k3, k4, hni, e0, e3, hm, hp, hf, k6, ht, k5, e1, boxFirst, boxTake, msk_asks, msk_bools, msk_app, msk_one, win_cons, win_cons1, all_app, all_cons, all_cons1, msk_cons, msk_cons1, at0, all_one, len_vs, one_vs, drop4, at1, mskVs, asks_len, -List.length_flatMap, -List.flatMap_append, asks_all, cellsAt, takeN]
              simp only [List.length_cons, List.length_nil] at h8
              try simp only [List.length_cons, List.length_nil] at hf
              repeat' (first | apply And.intro | intro q)
              all_goals first | omega | (exfalso; omega) | exact F (o' := some (l ++ [a])) hP k1 k2 (by simp [st5, ro5, tk5]) (by simp; try omega)
          | false =>
            simp (config := {maxSteps := 400000}) [k1, k3, k4, hni, e0, e3, hm, hp, hf, k6, ht, k5, e1, msk_asks, msk_bools, msk_app, msk_one, win_cons, win_cons1, all_app, all_cons, all_cons1, msk_cons, msk_cons1, at0, all_one, len_vs, one_vs, drop4, at1, mskVs, asks_len, -List.length_flatMap, -List.flatMap_append, asks_all, cellsAt, takeN]
            repeat' (first | apply And.intro | intro q)
            all_goals first | omega | (exfalso; omega) | exact F (o' := some (l ++ [a])) hP k1 k2 (by simp [st5, ro5, tk5]) (by simp; try omega)
        · have k5 : ¬ ((i : Int) < (tk.length : Int)) := by omega
          simp (config := {maxSteps := 400000}) [k1, k3, k4, hni, e0, e3, hm, hp, hf, k6, ht, k5, msk_asks, msk_bools, msk_app, msk_one, win_cons, win_cons1, all_app, all_cons, all_cons1, msk_cons, msk_cons1, at0, all_one, len_vs, one_vs, drop4, at1, mskVs, asks_len, -List.length_flatMap, -List.flatMap_append, asks_all, cellsAt, takeN]
          repeat' (first | apply And.intro | intro q)
          all_goals first | omega | (exfalso; omega) | exact F (o' := some (l ++ [a])) hP k1 k2 (by simp [st5, ro5, tk5]) (by simp; try omega)
    · have hm' : mayAsk a = false := by simpa using hm
      have hp : boxPut ⟨(some l)⟩ a = (1, ⟨(some l)⟩) := put_no hm'
      by_cases ht : i < tk.length
      · have e1 := bools_at tk i ht
        have k5 : ((i : Int) < (tk.length : Int)) := by omega
        generalize tk.getD i false = b at e1 ⊢
        cases b with
        | true =>
          cases l with
          | nil =>
            simp (config := {maxSteps := 400000}) [k1, k3, k4, hni, e0, e3, hm', hp, ht, k5, e1, boxFirst, boxTake, msk_asks, msk_bools, msk_app, msk_one, win_cons, win_cons1, all_app, all_cons, all_cons1, msk_cons, msk_cons1, at0, all_one, len_vs, one_vs, drop4, at1, mskVs, asks_len, -List.length_flatMap, -List.flatMap_append, asks_all, cellsAt, takeN]
            simp only [List.length_cons, List.length_nil] at h8
            try simp only [List.length_cons, List.length_nil] at hf
            repeat' (first | apply And.intro | intro q)
            all_goals first | omega | (exfalso; omega) | exact F (o' := some []) hP k1 k2 (by simp [st5, ro5, tk5]) (by simp; try omega)
          | cons c l =>
            simp (config := {maxSteps := 400000}) [k1, k3, k4, hni, e0, e3, hm', hp, ht, k5, e1, boxFirst, boxTake, msk_asks, msk_bools, msk_app, msk_one, win_cons, win_cons1, all_app, all_cons, all_cons1, msk_cons, msk_cons1, at0, all_one, len_vs, one_vs, drop4, at1, mskVs, asks_len, -List.length_flatMap, -List.flatMap_append, asks_all, cellsAt, takeN]
            simp only [List.length_cons, List.length_nil] at h8
            try simp only [List.length_cons, List.length_nil] at hf
            repeat' (first | apply And.intro | intro q)
            all_goals first | omega | (exfalso; omega) | exact F (o' := some l) hP k1 k2 (by simp [st5, ro5, tk5]) (by simp; try omega)
        | false =>
          simp (config := {maxSteps := 400000}) [k1, k3, k4, hni, e0, e3, hm', hp, ht, k5, e1, msk_asks, msk_bools, msk_app, msk_one, win_cons, win_cons1, all_app, all_cons, all_cons1, msk_cons, msk_cons1, at0, all_one, len_vs, one_vs, drop4, at1, mskVs, asks_len, -List.length_flatMap, -List.flatMap_append, asks_all, cellsAt, takeN]
          repeat' (first | apply And.intro | intro q)
          all_goals first | omega | (exfalso; omega) | exact F (o' := some l) hP k1 k2 (by simp [st5, ro5, tk5]) (by simp; try omega) | exact F (o' := none) hP k1 k2 (by simp [st5, ro5, tk5]) (by simp; try omega)
      · have k5 : ¬ ((i : Int) < (tk.length : Int)) := by omega
        simp (config := {maxSteps := 400000}) [k1, k3, k4, hni, e0, e3, hm', hp, ht, k5, msk_asks, msk_bools, msk_app, msk_one, win_cons, win_cons1, all_app, all_cons, all_cons1, msk_cons, msk_cons1, at0, all_one, len_vs, one_vs, drop4, at1, mskVs, asks_len, -List.length_flatMap, -List.flatMap_append, asks_all, cellsAt, takeN]
        repeat' (first | apply And.intro | intro q)
        all_goals first | omega | (exfalso; omega) | exact F (o' := some l) hP k1 k2 (by simp [st5, ro5, tk5]) (by simp; try omega) | exact F (o' := none) hP k1 k2 (by simp [st5, ro5, tk5]) (by simp; try omega)
  · have hcc : (cond (decide ((i : Int) < (xs.length : Int)) == true) (decide ((i : Int) < 60)) false) = false := by
      cases h1 : decide ((i : Int) < (xs.length : Int)) with
      | false => rfl
      | true => have := of_decide_eq_true h1; simp; omega
    simp only [hcc]
    simp [mskVs_of (asks_flat _), mskVs_of (flats_bool _)]
    exact hP

theorem roundSN (xs : List Gw.Ask) (tk : List Bool) (i : Nat) (Pr : Ex × Snap → Prop) (ho : ((loop5 xs (some tk)).out (i, none)).sat Pr) : (treeBASN xs tk i).sat ((loop5 xs (some tk)).next mu5 (i, none) Pr) := by
  obtain ⟨⟨hi, h8⟩, hP⟩ := ho
  simp only [Option.getD_none] at hi h8
  unfold treeBASN
  simp only [Int.toNat_natCast, Nat.zero_add, Nat.mul_one, DT.sat]
  have hni : ¬ ((i : Int) < 0) := by omega
  by_cases hc : i < xs.length ∧ i < 60
  · obtain ⟨k1, k2⟩ := hc
    have k3 : (i : Int) < 60 := by omega
    have e0 := asks_at xs i k1
    have k4 : ((i : Int) < (xs.length : Int)) := by omega
    have F := @fin5 xs (some tk) i none
    simp only [wrapI k2]
    have ek : (askAt xs i).kind = (xs.getD i {}).kind := rfl
    have en : (askAt xs i).n = (xs.getD i {}).n := rfl
    have ei : (askAt xs i).id = (xs.getD i {}).id := rfl
    generalize askAt xs i = a at ek en ei ⊢
    generalize xs.getD i {} = x at e0 ek en ei ⊢
    have e3 := text70 x.body
    simp only [vs_eta]
    by_cases hm : mayAsk a = true
    · have hp : boxPut ⟨none⟩ a = (0, ⟨some [a]⟩) := put_on hm (by simp)
      by_cases ht : i < tk.length
      · have e1 := bools_at tk i ht
        have k5 : ((i : Int) < (tk.length : Int)) := by omega
        generalize tk.getD i false = b at e1 ⊢
        cases b with
        | true =>
          simp (config := {maxSteps := 400000}) [ek, en, ei, k1, k3, k4, hni, e0, e3, hm, hp, ht, k5, e1, boxFirst, boxTake, msk_asks, msk_bools, msk_app, msk_one, win_cons, win_cons1, all_app, all_cons, all_cons1, msk_cons, msk_cons1, at0, all_one, len_vs, one_vs, drop4, at1, mskVs, asks_len, -List.length_flatMap, -List.flatMap_append, asks_all, cellsAt, takeN]
          repeat' (first | apply And.intro | intro q)
          all_goals first | omega | (exfalso; omega) | exact F (o' := some []) hP k1 k2 (by simp [st5, ro5, tk5]) (by simp; try omega)
        | false =>
          simp (config := {maxSteps := 400000}) [ek, en, ei, k1, k3, k4, hni, e0, e3, hm, hp, ht, k5, e1, msk_asks, msk_bools, msk_app, msk_one, win_cons, win_cons1, all_app, all_cons, all_cons1, msk_cons, msk_cons1, at0, all_one, len_vs, one_vs, drop4, at1, mskVs, asks_len, -List.length_flatMap, -List.flatMap_append, asks_all, cellsAt, takeN]
          repeat' (first | apply And.intro | intro q)
          all_goals first | omega | (exfalso; omega) | exact F (o' := some [a]) hP k1 k2 (by simp [st5, ro5, tk5]) (by simp; try omega)
      · have k5 : ¬ ((i : Int) < (tk.length : Int)) := by omega
        simp (config := {maxSteps := 400000}) [ek, en, ei, k1, k3, k4, hni, e0, e3, hm, hp, ht, k5, msk_asks, msk_bools, msk_app, msk_one, win_cons, win_cons1, all_app, all_cons, all_cons1, msk_cons, msk_cons1, at0, all_one, len_vs, one_vs, drop4, at1, mskVs, asks_len, -List.length_flatMap, -List.flatMap_append, asks_all, cellsAt, takeN]
        repeat' (first | apply And.intro | intro q)
        all_goals first | omega | (exfalso; omega) | exact F (o' := some [a]) hP k1 k2 (by simp [st5, ro5, tk5]) (by simp; try omega)
    · have hm' : mayAsk a = false := by simpa using hm
      have hp : boxPut ⟨none⟩ a = (1, ⟨none⟩) := put_no hm'
      by_cases ht : i < tk.length
      · have e1 := bools_at tk i ht
        have k5 : ((i : Int) < (tk.length : Int)) := by omega
        generalize tk.getD i false = b at e1 ⊢
        cases b with
        | true =>
          simp (config := {maxSteps := 400000}) [ek, en, ei, k1, k3, k4, hni, e0, e3, hm', hp, ht, k5, e1, boxFirst, boxTake, msk_asks, msk_bools, msk_app, msk_one, win_cons, win_cons1, all_app, all_cons, all_cons1, msk_cons, msk_cons1, at0, all_one, len_vs, one_vs, drop4, at1, mskVs, asks_len, -List.length_flatMap, -List.flatMap_append, asks_all, cellsAt, takeN]
          repeat' (first | apply And.intro | intro q)
          all_goals first | omega | (exfalso; omega) | exact F (o' := none) hP k1 k2 (by simp [st5, ro5, tk5]) (by simp; try omega)
        | false =>
          simp (config := {maxSteps := 400000}) [ek, en, ei, k1, k3, k4, hni, e0, e3, hm', hp, ht, k5, e1, msk_asks, msk_bools, msk_app, msk_one, win_cons, win_cons1, all_app, all_cons, all_cons1, msk_cons, msk_cons1, at0, all_one, len_vs, one_vs, drop4, at1, mskVs, asks_len, -List.length_flatMap, -List.flatMap_append, asks_all, cellsAt, takeN]
          repeat' (first | apply And.intro | intro q)
          all_goals first | omega | (exfalso; omega) | exact F (o' := some l) hP k1 k2 (by simp [st5, ro5, tk5]) (by simp; try omega) | exact F (o' := none) hP k1 k2 (by simp [st5, ro5, tk5]) (by simp; try omega)
      · have k5 : ¬ ((i : Int) < (tk.length : Int)) := by omega
        simp (config := {maxSteps := 400000}) [ek, en, ei, k1, k3, k4, hni, e0, e3, hm', hp, ht, k5, msk_asks, msk_bools, msk_app, msk_one, win_cons, win_cons1, all_app, all_cons, all_cons1, msk_cons, msk_cons1, at0, all_one, len_vs, one_vs, drop4, at1, mskVs, asks_len, -List.length_flatMap, -List.flatMap_append, asks_all, cellsAt, takeN]
        repeat' (first | apply And.intro | intro q)
        all_goals first | omega | (exfalso; omega) | exact F (o' := some l) hP k1 k2 (by simp [st5, ro5, tk5]) (by simp; try omega) | exact F (o' := none) hP k1 k2 (by simp [st5, ro5, tk5]) (by simp; try omega)
  · have hcc : (cond (decide ((i : Int) < (xs.length : Int)) == true) (decide ((i : Int) < 60)) false) = false := by
      cases h1 : decide ((i : Int) < (xs.length : Int)) with
      | false => rfl
      | true => have := of_decide_eq_true h1; simp; omega
    simp only [hcc]
    simp [mskVs_of (asks_flat _), mskVs_of (flats_bool _)]
    exact hP

theorem roundNS (xs : List Gw.Ask) (i : Nat) (l : List Gw.Ask) (Pr : Ex × Snap → Prop) (ho : ((loop5 xs none).out (i, (some l))).sat Pr) : (treeBANS xs i l).sat ((loop5 xs none).next mu5 (i, (some l)) Pr) := by
  obtain ⟨⟨hi, h8⟩, hP⟩ := ho
  simp only [Option.getD_some] at hi h8
  unfold treeBANS
  simp only [Int.toNat_natCast, Nat.zero_add, Nat.mul_one, DT.sat]
  have hni : ¬ ((i : Int) < 0) := by omega
  by_cases hc : i < xs.length ∧ i < 60
  · obtain ⟨k1, k2⟩ := hc
    have k3 : (i : Int) < 60 := by omega
    have e0 := asks_at xs i k1
    have k4 : ((i : Int) < (xs.length : Int)) := by omega
    have F := @fin5 xs none i (some l)
    simp only [wrapI k2]
    have ek : (askAt xs i).kind = (xs.getD i {}).kind := rfl
    have en : (askAt xs i).n = (xs.getD i {}).n := rfl
    have ei : (askAt xs i).id = (xs.getD i {}).id := rfl
    generalize askAt xs i = a at ek en ei ⊢
    generalize xs.getD i {} = x at e0 ek en ei ⊢
    have e3 := text70 x.body
    simp only [vs_eta]
    by_cases hm : mayAsk a = true
    · by_cases hf : 8 ≤ l.length
      · have hp : boxPut ⟨some l⟩ a = (3, ⟨some l⟩) := put_full hm hf
        have k6 : (8 : Int) ≤ (l.length : Int) := by omega
        simp (config := {maxSteps := 400000}) [ek, en, ei, k1, k3, k4, hni, e0, e3, hm, hp, hf, k6, msk_asks, msk_bools, msk_app, msk_one, win_cons, win_cons1, all_app, all_cons, all_cons1, msk_cons, msk_cons1, at0, all_one, len_vs, one_vs, drop4, at1, mskVs, asks_len, -List.length_flatMap, -List.flatMap_append, asks_all, cellsAt, takeN]
        repeat' (first | apply And.intro | intro q)
        all_goals first | omega | (exfalso; omega) | exact F (o' := some l) hP k1 k2 (by simp [st5, ro5, tk5]) (by simp; try omega) | exact F (o' := none) hP k1 k2 (by simp [st5, ro5, tk5]) (by simp; try omega)
      · have hp : boxPut ⟨some l⟩ a = (0, ⟨some (l ++ [a])⟩) := put_on hm hf
        have k6 : ¬ (8 : Int) ≤ (l.length : Int) := by omega
        simp (config := {maxSteps := 400000}) [ek, en, ei, k1, k3, k4, hni, e0, e3, hm, hp, hf, k6, msk_asks, msk_bools, msk_app, msk_one, win_cons, win_cons1, all_app, all_cons, all_cons1, msk_cons, msk_cons1, at0, all_one, len_vs, one_vs, drop4, at1, mskVs, asks_len, -List.length_flatMap, -List.flatMap_append, asks_all, cellsAt, takeN]
        repeat' (first | apply And.intro | intro q)
        all_goals first | omega | (exfalso; omega) | exact F (o' := some (l ++ [a])) hP k1 k2 (by simp [st5, ro5, tk5]) (by simp; try omega)
    · have hm' : mayAsk a = false := by simpa using hm
      have hp : boxPut ⟨(some l)⟩ a = (1, ⟨(some l)⟩) := put_no hm'
      simp (config := {maxSteps := 400000}) [ek, en, ei, k1, k3, k4, hni, e0, e3, hm', hp, msk_asks, msk_bools, msk_app, msk_one, win_cons, win_cons1, all_app, all_cons, all_cons1, msk_cons, msk_cons1, at0, all_one, len_vs, one_vs, drop4, at1, mskVs, asks_len, -List.length_flatMap, -List.flatMap_append, asks_all, cellsAt, takeN]
      repeat' (first | apply And.intro | intro q)
      all_goals first | omega | (exfalso; omega) | exact F (o' := some l) hP k1 k2 (by simp [st5, ro5, tk5]) (by simp; try omega) | exact F (o' := none) hP k1 k2 (by simp [st5, ro5, tk5]) (by simp; try omega)
  · have hcc : (cond (decide ((i : Int) < (xs.length : Int)) == true) (decide ((i : Int) < 60)) false) = false := by
      cases h1 : decide ((i : Int) < (xs.length : Int)) with
      | false => rfl
      | true => have := of_decide_eq_true h1; simp; omega
    simp only [hcc]
    simp [mskVs_of (asks_flat _), mskVs_of (flats_bool _)]
    exact hP

theorem roundNN (xs : List Gw.Ask) (i : Nat) (Pr : Ex × Snap → Prop) (ho : ((loop5 xs none).out (i, none)).sat Pr) : (treeBANN xs i).sat ((loop5 xs none).next mu5 (i, none) Pr) := by
  obtain ⟨⟨hi, h8⟩, hP⟩ := ho
  simp only [Option.getD_none] at hi h8
  unfold treeBANN
  simp only [Int.toNat_natCast, Nat.zero_add, Nat.mul_one, DT.sat]
  have hni : ¬ ((i : Int) < 0) := by omega
  by_cases hc : i < xs.length ∧ i < 60
  · obtain ⟨k1, k2⟩ := hc
    have k3 : (i : Int) < 60 := by omega
    have e0 := asks_at xs i k1
    have k4 : ((i : Int) < (xs.length : Int)) := by omega
    have F := @fin5 xs none i none
    simp only [wrapI k2]
    have ek : (askAt xs i).kind = (xs.getD i {}).kind := rfl
    have en : (askAt xs i).n = (xs.getD i {}).n := rfl
    have ei : (askAt xs i).id = (xs.getD i {}).id := rfl
    generalize askAt xs i = a at ek en ei ⊢
    generalize xs.getD i {} = x at e0 ek en ei ⊢
    have e3 := text70 x.body
    simp only [vs_eta]
    by_cases hm : mayAsk a = true
    · have hp : boxPut ⟨none⟩ a = (0, ⟨some [a]⟩) := put_on hm (by simp)
      simp (config := {maxSteps := 400000}) [ek, en, ei, k1, k3, k4, hni, e0, e3, hm, hp, msk_asks, msk_bools, msk_app, msk_one, win_cons, win_cons1, all_app, all_cons, all_cons1, msk_cons, msk_cons1, at0, all_one, len_vs, one_vs, drop4, at1, mskVs, asks_len, -List.length_flatMap, -List.flatMap_append, asks_all, cellsAt, takeN]
      repeat' (first | apply And.intro | intro q)
      all_goals first | omega | (exfalso; omega) | exact F (o' := some [a]) hP k1 k2 (by simp [st5, ro5, tk5]) (by simp; try omega)
    · have hm' : mayAsk a = false := by simpa using hm
      have hp : boxPut ⟨none⟩ a = (1, ⟨none⟩) := put_no hm'
      simp (config := {maxSteps := 400000}) [ek, en, ei, k1, k3, k4, hni, e0, e3, hm', hp, msk_asks, msk_bools, msk_app, msk_one, win_cons, win_cons1, all_app, all_cons, all_cons1, msk_cons, msk_cons1, at0, all_one, len_vs, one_vs, drop4, at1, mskVs, asks_len, -List.length_flatMap, -List.flatMap_append, asks_all, cellsAt, takeN]
      repeat' (first | apply And.intro | intro q)
      all_goals first | omega | (exfalso; omega) | exact F (o' := some l) hP k1 k2 (by simp [st5, ro5, tk5]) (by simp; try omega) | exact F (o' := none) hP k1 k2 (by simp [st5, ro5, tk5]) (by simp; try omega)
  · have hcc : (cond (decide ((i : Int) < (xs.length : Int)) == true) (decide ((i : Int) < 60)) false) = false := by
      cases h1 : decide ((i : Int) < (xs.length : Int)) with
      | false => rfl
      | true => have := of_decide_eq_true h1; simp; omega
    simp only [hcc]
    simp [mskVs_of (asks_flat _), mskVs_of (flats_bool _)]
    exact hP
end Go.Proofs.YtjnhaaolbcmdbaaGreatDoor
