/- begun of these laws returns true; it is answered from here on. -/
import Derived.Test.YtjnhaaolbcmdbaaGreatDoorGwC2
import Derived.Test.YtjnhaaolbcmdbaaGreatDoorGwB4
namespace Go.Proofs.YtjnhaaolbcmdbaaGreatDoor
open Go Gw Go.RowKit
set_option maxRecDepth 1000000 in
theorem ranBegun : isTrue (callN noExt D 10000 18 [] h0) = true := by kernel_rfl
theorem isTrue_some {r : Option (V × Heap)} (h : isTrue r = true) : ∃ h', r = some (.bool true, h') := by
  unfold isTrue at h
  split at h
  · rename_i h1; exact ⟨_, rfl⟩
  · cases h
def X1 : Ext := fun f => if f = 18 then some (gTrue kT0 kT1 kT2) else none
noncomputable def SX1 : SExt := fun f => if f = 18 then some (sgTrue kT0 kT1 kT2) else none
theorem X1_ok : ExtS Tryz.prog X1 := by
  intro f g hg
  unfold X1 at hg
  split at hg
  · rename_i hf
    cases hg
    subst hf
    obtain ⟨h', hr⟩ := isTrue_some ranBegun
    exact ⟨fr_gTrue _ _ _, gTrue_ok mixed (noExt_s _) tabD hr⟩
  · cases hg
def pI1 : Nat → List UInt8 → Bool := fun _ _ => true
theorem SX1_ok : SXR pI1 SX1 X1 := by
  intro f
  refine ⟨fun h => ?_, fun sg h => ?_⟩
  · unfold SX1 at h; unfold X1
    split at h
    · cases h
    · rename_i hf; rw [if_neg hf]
  · unfold SX1 at h
    split at h
    · rename_i hf
      cases h
      exact ⟨gTrue kT0 kT1 kT2, by unfold X1; rw [if_pos hf], fun m args pc sh h _ hp H => sgTrue_ok _ _ _ m args pc sh h hp H⟩
    · cases h
noncomputable def sh0 : SHeap := stabH kT0 kT1 kT2 3
theorem hc0 (σ : Val) : HC (mnId σ) sh0 h0 := HC.tabs σ kT0 kT1 kT2 3

/-- A law of plain arguments: what the symbolic machine finds true is true. -/
theorem walk1 {f n : Nat} {args : List SV} {pc : PC} (ht : sTrue (sCallN SX1 D n f args pc sh0) = true) {σ : Val} (hσ : σ.p = pI1) (hp : σ.ok pc)
    {W : World} (T : Tabs W kT0 kT1 kT2) {xs : Array Value} (hv : ∀ ρ, VRs ρ (SV.ccs (mnId σ) args) xs.toList) :
    Calls Tryz.prog f xs W fun e W' => e = .returned (.bool true) ∧ Below W.heap.size W W' := by
  obtain ⟨ρ, hG, _, hH, _⟩ := HR.tabs T W.heap.size (Nat.le_refl _) 3 (Nat.le_refl _)
  obtain ⟨h', hc⟩ := sTrue_ok SX1_ok D (mnId σ) hσ hp (hc0 σ) ht
  refine (walk_of X1_ok hc hG (hv ρ) hH).mono fun e w' ⟨⟨x, ρ', h1, h2⟩, h3⟩ => ⟨?_, h3⟩
  subst h1
  simp only [VR] at h2
  rw [h2]
end Go.Proofs.YtjnhaaolbcmdbaaGreatDoor
