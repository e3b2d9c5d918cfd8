/- begun of glowwormlaw20 is answered. -/
import Derived.Test.YtkehghjhbfoooaaGreatDoorGxLRa
namespace Go.Proofs.YtkehghjhbfoooaaGreatDoor.begun
open Go Gw Go.RowKit
set_option maxRecDepth 1000000
theorem tab0 : TabX Tryz.prog noPX x0 := TabX.nil
theorem isTrue_some {r : Option (V × Heap)} (h : isTrue r = true) : ∃ h', r = some (.bool true, h') := by
  unfold isTrue at h
  split at h
  · rename_i h1; exact ⟨_, rfl⟩
  · cases h
theorem ans0 : ∀ args h r h', gTrue kT0 kT1 kT2 args h = some (r, h') →
    (∃ fn, Tryz.prog.funcs[230]? = some fn ∧ fn.name ≠ "runtime.NumGoroutine" ∧ fn.body.isSome = true) ∧
    ∀ (B : Nat → Prop) (ρ : Rho) (xs : List Value) (w : World), GR ρ → VRs ρ args xs → HR B ρ h w →
      Calls Tryz.prog 230 xs.toArray w fun e w' => ∃ x ρ', e = .returned x ∧ Le ρ ρ' ∧ VR ρ' r x ∧ HR B ρ' h' w' ∧ Keeps B w w' := by
  obtain ⟨h', hr⟩ := isTrue_some ran0
  exact gTrue_ok mixed tab0.ext tabD hr
theorem tab1 : TabX Tryz.prog noPX x1 := tab0.addO ⟨fr_gTrue _ _ _, ans0⟩
theorem ans1 : ∀ args h r h', gTrue kT0 kT1 kT2 args h = some (r, h') →
    (∃ fn, Tryz.prog.funcs[212]? = some fn ∧ fn.name ≠ "runtime.NumGoroutine" ∧ fn.body.isSome = true) ∧
    ∀ (B : Nat → Prop) (ρ : Rho) (xs : List Value) (w : World), GR ρ → VRs ρ args xs → HR B ρ h w →
      Calls Tryz.prog 212 xs.toArray w fun e w' => ∃ x ρ', e = .returned x ∧ Le ρ ρ' ∧ VR ρ' r x ∧ HR B ρ' h' w' ∧ Keeps B w w' := by
  obtain ⟨h', hr⟩ := isTrue_some ran1
  exact gTrue_ok mixed tab1.ext tabD hr
theorem tab2 : TabX Tryz.prog noPX x2 := tab1.addO ⟨fr_gTrue _ _ _, ans1⟩
theorem ans2 : ∀ args h r h', gTrue kT0 kT1 kT2 args h = some (r, h') →
    (∃ fn, Tryz.prog.funcs[214]? = some fn ∧ fn.name ≠ "runtime.NumGoroutine" ∧ fn.body.isSome = true) ∧
    ∀ (B : Nat → Prop) (ρ : Rho) (xs : List Value) (w : World), GR ρ → VRs ρ args xs → HR B ρ h w →
      Calls Tryz.prog 214 xs.toArray w fun e w' => ∃ x ρ', e = .returned x ∧ Le ρ ρ' ∧ VR ρ' r x ∧ HR B ρ' h' w' ∧ Keeps B w w' := by
  obtain ⟨h', hr⟩ := isTrue_some ran2
  exact gTrue_ok mixed tab2.ext tabD hr
theorem tab3 : TabX Tryz.prog noPX x3 := tab2.addO ⟨fr_gTrue _ _ _, ans2⟩
theorem ans3 : ∀ args h r h', gTrue kT0 kT1 kT2 args h = some (r, h') →
    (∃ fn, Tryz.prog.funcs[132]? = some fn ∧ fn.name ≠ "runtime.NumGoroutine" ∧ fn.body.isSome = true) ∧
    ∀ (B : Nat → Prop) (ρ : Rho) (xs : List Value) (w : World), GR ρ → VRs ρ args xs → HR B ρ h w →
      Calls Tryz.prog 132 xs.toArray w fun e w' => ∃ x ρ', e = .returned x ∧ Le ρ ρ' ∧ VR ρ' r x ∧ HR B ρ' h' w' ∧ Keeps B w w' := by
  obtain ⟨h', hr⟩ := isTrue_some ran3
  exact gTrue_ok mixed tab3.ext tabD hr
theorem tab4 : TabX Tryz.prog noPX x4 := tab3.addO ⟨fr_gTrue _ _ _, ans3⟩
theorem ans4 : ∀ args h r h', gTrue kT0 kT1 kT2 args h = some (r, h') →
    (∃ fn, Tryz.prog.funcs[133]? = some fn ∧ fn.name ≠ "runtime.NumGoroutine" ∧ fn.body.isSome = true) ∧
    ∀ (B : Nat → Prop) (ρ : Rho) (xs : List Value) (w : World), GR ρ → VRs ρ args xs → HR B ρ h w →
      Calls Tryz.prog 133 xs.toArray w fun e w' => ∃ x ρ', e = .returned x ∧ Le ρ ρ' ∧ VR ρ' r x ∧ HR B ρ' h' w' ∧ Keeps B w w' := by
  obtain ⟨h', hr⟩ := isTrue_some ran4
  exact gTrue_ok mixed tab4.ext tabD hr
theorem tab5 : TabX Tryz.prog noPX x5 := tab4.addO ⟨fr_gTrue _ _ _, ans4⟩
theorem ans5 : ∀ args h r h', gTrue kT0 kT1 kT2 args h = some (r, h') →
    (∃ fn, Tryz.prog.funcs[57]? = some fn ∧ fn.name ≠ "runtime.NumGoroutine" ∧ fn.body.isSome = true) ∧
    ∀ (B : Nat → Prop) (ρ : Rho) (xs : List Value) (w : World), GR ρ → VRs ρ args xs → HR B ρ h w →
      Calls Tryz.prog 57 xs.toArray w fun e w' => ∃ x ρ', e = .returned x ∧ Le ρ ρ' ∧ VR ρ' r x ∧ HR B ρ' h' w' ∧ Keeps B w w' := by
  obtain ⟨h', hr⟩ := isTrue_some ran5
  exact gTrue_ok mixed tab5.ext tabD hr
theorem tab6 : TabX Tryz.prog noPX x6 := tab5.addO ⟨fr_gTrue _ _ _, ans5⟩
end Go.Proofs.YtkehghjhbfoooaaGreatDoor.begun
namespace Go.Proofs.YtkehghjhbfoooaaGreatDoor
open Go Gw Go.RowKit
theorem ans_begun : AnsO Tryz.prog 57 (gTrue kT0 kT1 kT2) := ⟨fr_gTrue _ _ _, begun.ans5⟩
end Go.Proofs.YtkehghjhbfoooaaGreatDoor
