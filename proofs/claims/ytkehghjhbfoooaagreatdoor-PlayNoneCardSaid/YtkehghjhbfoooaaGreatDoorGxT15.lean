/- Loops whose states fall into classes: oracles and known words by the state. -/
import Derived.Test.YtkehghjhbfoooaaGreatDoorGxT9
noncomputable section
namespace Gw
open Go Go.RowKit
variable {P : Program} {ι : Type}

theorem LoopD.lt1c (hm : P.follows .mixedOrders = true) {px : PTab} {ox : OTab} (hT : TabX P px ox) {D : Nat → Option DF} (hD : Tab P D) {hint : Nat → List Nat} {m : Nat} (l : LoopD ι) (μ : ι → Nat) (hfr : ∀ ex, NG ≤ (l.fr ex).n0 ∧ m ≤ (l.fr ex).n0)
    {k : Nat} {c : DC} {orcs : ι → Nat → Orc} {sts : ι → Nat → List Nat} {n : Nat} {orc : ι → Orc} {st : ι → List Nat} {tree : ι → DT (Ex × Snap)}
    (ht : ∀ i, codeT (callT (mkXT px ox) (mkXP px) (mkX px ox) D (orcs i) (sts i) (n + 1)) (callN (mkX px ox) D (n + 1)) (mkXP px) (orc i) (st i) noLt k c (l.t0 i) [] (l.h0 i) l.end_ = tree i)
    (hs : ∀ i Pr, (l.out i).sat Pr → (tree i).sat (l.next μ i Pr)) : Lt1 P hint m l.lt c := by
  refine lt1_loop l μ hfr fun code hc i Pr ho => ?_
  have h1 := hs i Pr ho
  rw [← ht i] at h1
  have hXs := hT.ext
  refine (codeT_wp (L := fun _ _ => True) (lt := noLt) hm (sd_call hm hXs hD (n + 1)) (fr_callN (fun f g h => (hXs f g h).1) D (n + 1)) (callT_ok (xtOk_mk px ox) (xpX_mk px ox) D (orcs i) (sts i) (n + 1)) (xpOk (xpX_mk px ox) D n) (fun _ _ _ _ _ _ _ _ h => absurd h (fun q => q)) code k c hc (fun _ _ => trivial) _ _ _ _ h1).mono ?_
  · rintro ex t h ⟨kn, hq⟩
    obtain ⟨e1, e2, e3⟩ := lookT_in hq
    exact ⟨e1, e2, e3⟩
/-- The same, with loops in the rounds' bodies. -/
theorem LoopD.lt1nc (hm : P.follows .mixedOrders = true) {px : PTab} {ox : OTab} (hT : TabX P px ox) {D : Nat → Option DF} (hD : Tab P D) {hint : Nat → List Nat} {m : Nat} (l : LoopD ι) (μ : ι → Nat) (hfr : ∀ ex, NG ≤ (l.fr ex).n0 ∧ m ≤ (l.fr ex).n0)
    {k : Nat} {c : DC} {lt : ι → Lt} (hlt : ∀ i, ∀ p ∈ loopsIn k c, Lt1 P hint m (lt i p.1) p.2) {orcs : ι → Nat → Orc} {sts : ι → Nat → List Nat} {n : Nat} {orc : ι → Orc} {st : ι → List Nat} {tree : ι → DT (Ex × Snap)}
    (ht : ∀ i, codeT (callT (mkXT px ox) (mkXP px) (mkX px ox) D (orcs i) (sts i) (n + 1)) (callN (mkX px ox) D (n + 1)) (mkXP px) (orc i) (st i) (lt i) k c (l.t0 i) [] (l.h0 i) l.end_ = tree i)
    (hs : ∀ i Pr, (l.out i).sat Pr → (tree i).sat (l.next μ i Pr)) : Lt1 P hint m l.lt c := by
  refine lt1_loop l μ hfr fun code hc i Pr ho => ?_
  have h1 := hs i Pr ho
  rw [← ht i] at h1
  have hXs := hT.ext
  refine (codeT_wp (L := fun a b => (a, b) ∈ loopsIn k c) (lt := lt i) hm (sd_call hm hXs hD (n + 1)) (fr_callN (fun f g h => (hXs f g h).1) D (n + 1)) (callT_ok (xtOk_mk px ox) (xpX_mk px ox) D (orcs i) (sts i) (n + 1)) (xpOk (xpX_mk px ox) D n) (fun a b hab => hlt i (a, b) hab) code k c hc (fun p hp => hp) _ _ _ _ h1).mono ?_
  rintro ex t h ⟨kn, hq⟩
  obtain ⟨e1, e2, e3⟩ := lookT_in hq
  exact ⟨e1, e2, e3⟩
end Gw
