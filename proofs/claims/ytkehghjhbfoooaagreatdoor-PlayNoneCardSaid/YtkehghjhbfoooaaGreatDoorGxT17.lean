/- Loops whose rounds are run by the machine. -/
import Derived.Test.YtkehghjhbfoooaaGreatDoorGxT9
noncomputable section
namespace Gw
open Go Go.RowKit
variable {P : Program} {ι : Type}

/-- What a round came to, as the frame shows it. -/
def ranS (l : LoopD ι) : Option (Ex × St) → Option (Ex × Snap)
  | some (ex, s) => cond (Nat.beq s.t.length l.nt && (l.fr ex).ok s.t s.h) (some (ex, (l.fr ex).vs s.t s.h, (l.fr ex).bs s.t s.h)) none
  | none => none
theorem LoopD.lt1m (hm : P.follows .mixedOrders = true) {px : PTab} {ox : OTab} (hT : TabX P px ox) {D : Nat → Option DF} (hD : Tab P D) {hint : Nat → List Nat} {m : Nat} (l : LoopD ι) (μ : ι → Nat) (hfr : ∀ ex, NG ≤ (l.fr ex).n0 ∧ m ≤ (l.fr ex).n0)
    {k : Nat} {c : DC} {n : Nat} (r : ι → Ex × Snap) (hr : ∀ i, ranS l (evC (callN (mkX px ox) D n) (lpN n) k c ⟨l.t0 i, l.h0 i⟩) = some (r i))
    (hs : ∀ i Pr, (l.out i).sat Pr → l.next μ i Pr (r i)) : Lt1 P hint m l.lt c := by
  refine lt1_loop l μ hfr fun code hc i Pr ho => ?_
  have hXs := hT.ext
  have h1 := hr i
  have h2 := hs i Pr ho
  cases he : evC (callN (mkX px ox) D n) (lpN n) k c ⟨l.t0 i, l.h0 i⟩ with
  | none => rw [he] at h1; cases h1
  | some q =>
    obtain ⟨ex, s⟩ := q
    rw [he] at h1
    simp only [ranS] at h1
    cases hk : (Nat.beq s.t.length l.nt && (l.fr ex).ok s.t s.h) with
    | false => rw [hk] at h1; cases h1
    | true =>
      rw [hk] at h1
      simp only [cond_true, Option.some.injEq] at h1
      rw [← h1] at h2
      simp only [Bool.and_eq_true] at hk
      have hw := sd_code (L := fun _ _ => True) (sd_call hm hXs hD n) (fr_callN (fun f g h => (hXs f g h).1) D n) hm (loopN_lp hint _ n) code k c hc (fun _ _ => trivial) _ _ _ he
      intro B ρ a w Q R hQ
      exact hw B ρ a w Q R fun ρ' a' w' hle R' hB hd => hQ ex s.t s.h ρ' a' w' ⟨Nat.eq_of_beq_eq_true hk.1, hk.2, h2⟩ (fun i L _ hL => hle i L hL) R' hB hd
end Gw
