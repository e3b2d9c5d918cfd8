/- begun of these laws returns true; it is answered from here on. -/
import Derived.Test.YtjnhaaolbcmdbaaGreatDoorGxC2
namespace Go.Proofs.YtjnhaaolbcmdbaaGreatDoor
open Go Gw Go.RowKit
set_option maxRecDepth 1000000 in
theorem ranBegun : isTrue (callN noExt D 10000 18 [] h0) = true := by kernel_rfl
theorem isTrue_some {r : Option (V × Heap)} (h : isTrue r = true) : ∃ h', r = some (.bool true, h') := by
  unfold isTrue at h
  split at h
  · rename_i h1; exact ⟨_, rfl⟩
  · cases h
theorem begun_ok : ∀ args h r h', gTrue kT0 kT1 kT2 args h = some (r, h') →
    (∃ fn, Tryz.prog.funcs[18]? = some fn ∧ fn.name ≠ "runtime.NumGoroutine" ∧ fn.body.isSome = true) ∧
    ∀ (B : Nat → Prop) (ρ : Rho) (xs : List Value) (w : World), GR ρ → VRs ρ args xs → HR B ρ h w →
      Calls Tryz.prog 18 xs.toArray w fun e w' => ∃ x ρ', e = .returned x ∧ Le ρ ρ' ∧ VR ρ' r x ∧ HR B ρ' h' w' ∧ Keeps B w w' := by
  obtain ⟨h', hr⟩ := isTrue_some ranBegun
  exact gTrue_ok mixed (noExt_s _) tabD hr
end Go.Proofs.YtjnhaaolbcmdbaaGreatDoor
