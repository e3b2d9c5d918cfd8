/- Loops by their rounds' trees; a function with loops. -/
import Derived.Test.YtkehghjhbfoooaaGreatDoorGxT8
namespace Gw
open Go Go.RowKit

theorem mskVs_flat (f : Nat → Option Nat) : (∀ v : V, v.flat = true → mskV f v = v) ∧ ∀ l : List V, V.flats l = true → mskVs f l = l := by
  have key : ∀ n : Nat, (∀ v : V, sizeOf v ≤ n → v.flat = true → mskV f v = v) ∧ ∀ l : List V, sizeOf l ≤ n → V.flats l = true → mskVs f l = l := by
    intro n
    induction n with
    | zero =>
      refine ⟨fun v hv => ?_, fun l hl => ?_⟩
      · cases v <;> simp at hv
      · cases l <;> simp at hl
    | succ n ih =>
      obtain ⟨ih1, ih2⟩ := ih
      refine ⟨fun v hv hf => ?_, fun l hl hf => ?_⟩
      · cases v <;> simp only [mskV] <;> simp only [V.flat, Bool.false_eq_true] at hf
        · rw [ih2 _ (by simp at hv; omega) hf]
        · rw [ih1 _ (by simp at hv; omega) hf]
        · rw [ih2 _ (by simp at hv; omega) hf]
        · rw [ih2 _ (by simp at hv; omega) hf]
      · cases l with
        | nil => rfl
        | cons v l =>
          simp only [V.flats, Bool.and_eq_true] at hf
          simp only [mskVs]
          rw [ih1 v (by simp at hl; omega) hf.1, ih2 l (by simp at hl; omega) hf.2]
  exact ⟨fun v => (key (sizeOf v)).1 v (Nat.le_refl _), fun l => (key (sizeOf l)).2 l (Nat.le_refl _)⟩
theorem mskVs_of {f : Nat → Option Nat} {l : List V} (h : V.flats l = true) : mskVs f l = l := (mskVs_flat f).2 l h
theorem flats_str : ∀ l : List Str, V.flats (l.map V.str) = true
  | [] => rfl
  | _ :: l => by simp [V.flats, V.flat, flats_str l]
theorem flats_int (k : IntKind) : ∀ l : List Int, V.flats (l.map (V.int k)) = true
  | [] => rfl
  | _ :: l => by simp [V.flats, V.flat, flats_int k l]
theorem flats_bool : ∀ l : List Bool, V.flats (l.map V.bool) = true
  | [] => rfl
  | _ :: l => by simp [V.flats, V.flat, flats_bool l]

theorem WpT.mono {P : Program} {m : Nat} {code : Code} {t : List V} {h : Heap} {Pr Pr' : Ex → List V → Heap → Prop} (hw : WpT P m code t h Pr) (hp : ∀ ex t h, Pr ex t h → Pr' ex t h) : WpT P m code t h Pr' :=
  fun B ρ a w R RR hR => hw B ρ a w R RR fun ex t' h' ρ' a' w' hq => hR ex t' h' ρ' a' w' (hp _ _ _ hq)

section
variable {P : Program} {ι : Type}
/-- A loop, by the tree of its rounds. -/
theorem LoopD.lt1 (hm : P.follows .mixedOrders = true) {px : PTab} {ox : OTab} (hT : TabX P px ox) {D : Nat → Option DF} (hD : Tab P D) {hint : Nat → List Nat} {m : Nat} (l : LoopD ι) (μ : ι → Nat) (hfr : ∀ ex, NG ≤ (l.fr ex).n0 ∧ m ≤ (l.fr ex).n0)
    {k : Nat} {c : DC} (hl : (loopsIn k c).isEmpty = true) {orcs : Nat → Orc} {sts : Nat → List Nat} {n : Nat} {orc : ι → Orc} {st : List Nat} {tree : ι → DT (Ex × Snap)}
    (ht : ∀ i, codeT (callT (mkXT px ox) (mkXP px) (mkX px ox) D orcs sts (n + 1)) (callN (mkX px ox) D (n + 1)) (mkXP px) (orc i) st noLt k c (l.t0 i) [] (l.h0 i) l.end_ = tree i)
    (hs : ∀ i Pr, (l.out i).sat Pr → (tree i).sat (l.next μ i Pr)) : Lt1 P hint m l.lt c := by
  refine lt1_loop l μ hfr fun code hc i Pr ho => ?_
  have h1 := hs i Pr ho
  rw [← ht i] at h1
  have hXs := hT.ext
  refine (codeT_wp (L := fun _ _ => False) (lt := noLt) hm (sd_call hm hXs hD (n + 1)) (fr_callN (fun f g h => (hXs f g h).1) D (n + 1)) (callT_ok (xtOk_mk px ox) (xpX_mk px ox) D orcs sts (n + 1)) (xpOk (xpX_mk px ox) D n) (fun _ _ h => h.elim) code k c hc (fun p hp => ?_) _ _ _ _ h1).mono ?_
  · rw [List.isEmpty_iff] at hl; rw [hl] at hp; simp at hp
  · rintro ex t h ⟨kn, hq⟩
    obtain ⟨e1, e2, e3⟩ := lookT_in hq
    exact ⟨e1, e2, e3⟩

/-- The same; loops in its body are gone through round by round. -/
theorem LoopD.lt1u (hm : P.follows .mixedOrders = true) {px : PTab} {ox : OTab} (hT : TabX P px ox) {D : Nat → Option DF} (hD : Tab P D) {hint : Nat → List Nat} {m : Nat} (l : LoopD ι) (μ : ι → Nat) (hfr : ∀ ex, NG ≤ (l.fr ex).n0 ∧ m ≤ (l.fr ex).n0)
    {k : Nat} {c : DC} {orcs : Nat → Orc} {sts : Nat → List Nat} {n : Nat} {orc : ι → Orc} {st : List Nat} {tree : ι → DT (Ex × Snap)}
    (ht : ∀ i, codeT (callT (mkXT px ox) (mkXP px) (mkX px ox) D orcs sts (n + 1)) (callN (mkX px ox) D (n + 1)) (mkXP px) (orc i) st noLt k c (l.t0 i) [] (l.h0 i) l.end_ = tree i)
    (hs : ∀ i Pr, (l.out i).sat Pr → (tree i).sat (l.next μ i Pr)) : Lt1 P hint m l.lt c := by
  refine lt1_loop l μ hfr fun code hc i Pr ho => ?_
  have h1 := hs i Pr ho
  rw [← ht i] at h1
  have hXs := hT.ext
  refine (codeT_wp (L := fun _ _ => True) (lt := noLt) hm (sd_call hm hXs hD (n + 1)) (fr_callN (fun f g h => (hXs f g h).1) D (n + 1)) (callT_ok (xtOk_mk px ox) (xpX_mk px ox) D orcs sts (n + 1)) (xpOk (xpX_mk px ox) D n) (fun _ _ _ _ _ _ _ _ h => absurd h (fun q => q)) code k c hc (fun _ _ => trivial) _ _ _ _ h1).mono ?_
  · rintro ex t h ⟨kn, hq⟩
    obtain ⟨e1, e2, e3⟩ := lookT_in hq
    exact ⟨e1, e2, e3⟩

/-- A function with loops, as its tree says. -/
theorem run_loops {α : Type} (hm : P.follows .mixedOrders = true) {px : PTab} {ox : OTab} (hT : TabX P px ox) {D : Nat → Option DF} (hD : Tab P D) {f : Nat} {d : DF} (hd : D f = some d) {h : Heap} {lt : Lt}
    (hlt : ∀ hint, ∀ p ∈ loopsIn 0 d.body, Lt1 P hint h.n (lt p.1) p.2)
    {orcs : Nat → Orc} {sts : Nat → List Nat} {n : Nat} {orc : Orc} {st : List Nat} {args : List V} {obs : V → Heap → α} {Q : α → Prop} {tree : DT α}
    (ht : funT (mkXT px ox) (mkXP px) (mkX px ox) D orcs sts n orc st lt d args h obs = tree) (hs : tree.sat Q) : Run P f args h fun r h' => Q (obs r h') := by
  subst ht
  exact run_of hm (xtOk_mk px ox) (xpX_mk px ox) hT.ext hD hd (L := fun k c => (k, c) ∈ loopsIn 0 d.body) (fun hint _ _ _ k c hkc => hlt hint (k, c) hkc) (fun p hp => hp) hs
end
end Gw
