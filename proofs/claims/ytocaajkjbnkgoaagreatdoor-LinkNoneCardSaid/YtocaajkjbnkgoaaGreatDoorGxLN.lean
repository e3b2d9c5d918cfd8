/- What is proved: the closed law LinkNone returns true, and turns nothing that was there, in every world that holds the laid tables; conditions: none beyond those of its card. -/
import Derived.Test.YtocaajkjbnkgoaaGreatDoorGxLR0
import Derived.Test.YtocaajkjbnkgoaaGreatDoorGxLR1
import Derived.Test.YtocaajkjbnkgoaaGreatDoorGxLR2
import Derived.Test.YtocaajkjbnkgoaaGreatDoorGxLR3
import Derived.Test.YtocaajkjbnkgoaaGreatDoorGxLR4
import Derived.Test.YtocaajkjbnkgoaaGreatDoorGxLR5
import Derived.Test.YtocaajkjbnkgoaaGreatDoorGxLRm
namespace Go.Proofs.YtocaajkjbnkgoaaGreatDoor.linkNone
open Go Gw Go.RowKit
set_option maxRecDepth 1000000
theorem tab0 : TabX Tryz.prog noPX x0 := TabX.nil
theorem isTrue_some {r : Option (V × Heap)} (h : isTrue r = true) : ∃ h', r = some (.bool true, h') := by
  unfold isTrue at h
  split at h
  · rename_i h1; exact ⟨_, rfl⟩
  · cases h
theorem ans0 : ∀ args h r h', gTrue kT0 kT1 kT2 args h = some (r, h') →
    (∃ fn, Tryz.prog.funcs[158]? = some fn ∧ fn.name ≠ "runtime.NumGoroutine" ∧ fn.body.isSome = true) ∧
    ∀ (B : Nat → Prop) (ρ : Rho) (xs : List Value) (w : World), GR ρ → VRs ρ args xs → HR B ρ h w →
      Calls Tryz.prog 158 xs.toArray w fun e w' => ∃ x ρ', e = .returned x ∧ Le ρ ρ' ∧ VR ρ' r x ∧ HR B ρ' h' w' ∧ Keeps B w w' := by
  obtain ⟨h', hr⟩ := isTrue_some ran0
  exact gTrue_ok mixed tab0.ext tabD hr
theorem tab1 : TabX Tryz.prog noPX x1 := tab0.addO ⟨fr_gTrue _ _ _, ans0⟩
theorem ans1 : ∀ args h r h', gTrue kT0 kT1 kT2 args h = some (r, h') →
    (∃ fn, Tryz.prog.funcs[122]? = some fn ∧ fn.name ≠ "runtime.NumGoroutine" ∧ fn.body.isSome = true) ∧
    ∀ (B : Nat → Prop) (ρ : Rho) (xs : List Value) (w : World), GR ρ → VRs ρ args xs → HR B ρ h w →
      Calls Tryz.prog 122 xs.toArray w fun e w' => ∃ x ρ', e = .returned x ∧ Le ρ ρ' ∧ VR ρ' r x ∧ HR B ρ' h' w' ∧ Keeps B w w' := by
  obtain ⟨h', hr⟩ := isTrue_some ran1
  exact gTrue_ok mixed tab1.ext tabD hr
theorem tab2 : TabX Tryz.prog noPX x2 := tab1.addO ⟨fr_gTrue _ _ _, ans1⟩
theorem ans2 : ∀ args h r h', gTrue kT0 kT1 kT2 args h = some (r, h') →
    (∃ fn, Tryz.prog.funcs[128]? = some fn ∧ fn.name ≠ "runtime.NumGoroutine" ∧ fn.body.isSome = true) ∧
    ∀ (B : Nat → Prop) (ρ : Rho) (xs : List Value) (w : World), GR ρ → VRs ρ args xs → HR B ρ h w →
      Calls Tryz.prog 128 xs.toArray w fun e w' => ∃ x ρ', e = .returned x ∧ Le ρ ρ' ∧ VR ρ' r x ∧ HR B ρ' h' w' ∧ Keeps B w w' := by
  obtain ⟨h', hr⟩ := isTrue_some ran2
  exact gTrue_ok mixed tab2.ext tabD hr
theorem tab3 : TabX Tryz.prog noPX x3 := tab2.addO ⟨fr_gTrue _ _ _, ans2⟩
theorem ans3 : ∀ args h r h', gTrue kT0 kT1 kT2 args h = some (r, h') →
    (∃ fn, Tryz.prog.funcs[39]? = some fn ∧ fn.name ≠ "runtime.NumGoroutine" ∧ fn.body.isSome = true) ∧
    ∀ (B : Nat → Prop) (ρ : Rho) (xs : List Value) (w : World), GR ρ → VRs ρ args xs → HR B ρ h w →
      Calls Tryz.prog 39 xs.toArray w fun e w' => ∃ x ρ', e = .returned x ∧ Le ρ ρ' ∧ VR ρ' r x ∧ HR B ρ' h' w' ∧ Keeps B w w' := by
  obtain ⟨h', hr⟩ := isTrue_some ran3
  exact gTrue_ok mixed tab3.ext tabD hr
theorem tab4 : TabX Tryz.prog noPX x4 := tab3.addO ⟨fr_gTrue _ _ _, ans3⟩
theorem ans4 : ∀ args h r h', gTrue kT0 kT1 kT2 args h = some (r, h') →
    (∃ fn, Tryz.prog.funcs[40]? = some fn ∧ fn.name ≠ "runtime.NumGoroutine" ∧ fn.body.isSome = true) ∧
    ∀ (B : Nat → Prop) (ρ : Rho) (xs : List Value) (w : World), GR ρ → VRs ρ args xs → HR B ρ h w →
      Calls Tryz.prog 40 xs.toArray w fun e w' => ∃ x ρ', e = .returned x ∧ Le ρ ρ' ∧ VR ρ' r x ∧ HR B ρ' h' w' ∧ Keeps B w w' := by
  obtain ⟨h', hr⟩ := isTrue_some ran4
  exact gTrue_ok mixed tab4.ext tabD hr
theorem tab5 : TabX Tryz.prog noPX x5 := tab4.addO ⟨fr_gTrue _ _ _, ans4⟩
theorem ans5 : ∀ args h r h', gTrue kT0 kT1 kT2 args h = some (r, h') →
    (∃ fn, Tryz.prog.funcs[8]? = some fn ∧ fn.name ≠ "runtime.NumGoroutine" ∧ fn.body.isSome = true) ∧
    ∀ (B : Nat → Prop) (ρ : Rho) (xs : List Value) (w : World), GR ρ → VRs ρ args xs → HR B ρ h w →
      Calls Tryz.prog 8 xs.toArray w fun e w' => ∃ x ρ', e = .returned x ∧ Le ρ ρ' ∧ VR ρ' r x ∧ HR B ρ' h' w' ∧ Keeps B w w' := by
  obtain ⟨h', hr⟩ := isTrue_some ran5
  exact gTrue_ok mixed tab5.ext tabD hr
theorem tab6 : TabX Tryz.prog noPX x6 := tab5.addO ⟨fr_gTrue _ _ _, ans5⟩
theorem walkC {W : World} (T : Tabs W kT0 kT1 kT2) : Calls Tryz.prog 3 #[] W fun e W' => e = .returned (.bool true) ∧ Below W.heap.size W W' := by
  obtain ⟨ρ, hG, _, hH, _⟩ := HR.tabs T (fun k => k < W.heap.size) (fun _ h => h) 3 (Nat.le_refl _)
  obtain ⟨h', hc⟩ := isTrue_some ran
  refine (walk_of tab6.ext hc (xs := #[]) hG (by simp [VRs]) hH).mono fun e w' ⟨⟨x, ρ', h1, h2⟩, h3⟩ => ⟨?_, h3⟩
  subst h1
  simp only [VR] at h2
  rw [h2]
theorem contract (H : Type) (enc : TypeId × Value → H) (W : World) (args : Array Value) (ds gs : List (DataW H)) (before : List MemPlace)
    (hW : DataW.Whole enc Tryz.prog Tryz.f3.params.toList Rows.linkNoneSpec.vars false W args.toList ds gs before) (hL : laidMetH Tryz.prog Rows.linkNoneRow.laid W) :
    Calls Tryz.prog 3 args W fun e W' => ∃ v, e = .returned v ∧ Rows.linkNoneSpec.post enc Tryz.prog Tryz.f3 false true false false W args v W' := by
  have hA : args = #[] := by
    obtain ⟨p, q, hA, _⟩ := hW
    exact (ChangeShapes.trodAll_none hA).1
  subst hA
  refine (walkC (tabs hL)).mono fun e W' ⟨he, hB⟩ => ⟨_, he, ?_⟩
  refine post_true laidOut (by kernel_rfl) rfl (tb := 4) rfl u4 (fun ds hd => ?_) hW hB
  obtain rfl : ds = [] := List.eq_nil_of_length_eq_zero hd
  exact ⟨rfl, rfl, rfl⟩

theorem reads (os : Os) {H : Type} (enc : TypeId × Value → H) : ∃ places, DataW.whole enc Tryz.prog ((laidWorld os).forCall (fun _ _ => 0) ⟨#[], #[], []⟩).memory Tryz.f3.params.toList Rows.linkNoneSpec.vars false (#[] : Array Value).toList 8 = some ([], [], places) :=
  ⟨[], by kernel_rfl⟩

theorem lifted (os : Os) (started : os.Started) (H : Type) (enc : TypeId × Value → H) (F : Stop.Interp) :
    ReturnsInHanded {} Tryz.checked os 3 .any ((OpenSpec.ofChange Rows.linkNoneSpec).preRow enc Tryz.prog Tryz.f3 Rows.linkNoneRow.domain false Rows.linkNoneRow.laid) (((OpenSpec.ofChange Rows.linkNoneSpec).at F).post enc Tryz.prog Tryz.f3 false true false false) := by
  obtain ⟨places, hx⟩ := reads os enc
  refine returnsInHanded_of_row (C := Tryz.checked) (s := OpenSpec.ofChange Rows.linkNoneSpec) own started (by kernel_rfl) Tryz.func3
    (witness_row_at (enc := enc) (C := Tryz.checked) false (laidWorld os) #[] rfl (by kernel_rfl) (by kernel_rfl) (by kernel_rfl)
      (OpenSpec.preRow_of_cond 8 hx (by kernel_rfl) (fun k hk => by cases hk) (by kernel_rfl) (laid_met os _))) ?_
  intro W base args ds gs before hval hW _ _ _ hL _ _
  exact contract H enc W args ds gs before hW hL

theorem said : Rows.LinkNoneSaid :=
  OpenClaim.holds_of_cond 3 Tryz.f3 rfl rfl rfl rfl rfl rfl rfl ⟨rfl, rfl, rfl, rfl, rfl⟩ rfl rfl rfl rfl rfl (by kernel_rfl) Tryz.func3 (by kernel_rfl)
    (of_decide_eq_true (by kernel_rfl)) (by unfold Func.isWrapper; first | (rw [if_pos (by decide +kernel)]; kernel_rfl) | (rw [if_neg (by decide +kernel)]; exact ⟨rfl, rfl⟩))
    (fun os started H enc _ F => by rw [OpenClaim.pre_eq_preRow]; exact lifted os started H enc F)

theorem plain (f : FuncId) (fn : Func) (hf : Tryz.pinned.checked.prog.funcNamed "glowworm/glowwormlaw20.LinkNone" = some f) (hfn : Tryz.pinned.checked.prog.funcs[f]? = some fn) :
    true = Tryz.pinned.checked.prog.looks [] ∧ ∀ (j : Nat) t, fn.params[j]? = some t → Tryz.pinned.checked.prog.wantsStandIn t = false := by
  obtain rfl : f = 3 := Option.some.inj ((show Tryz.prog.funcNamed "glowworm/glowwormlaw20.LinkNone" = some 3 by kernel_rfl).symm.trans hf) |>.symm
  obtain rfl : fn = Tryz.f3 := (Option.some.inj (Tryz.func3.symm.trans hfn)).symm
  refine ⟨by kernel_rfl, fun j t ht => ?_⟩
  have hp : Tryz.f3.params = #[] := by kernel_rfl
  rw [hp] at ht
  simp at ht

theorem card : Rows.LinkNoneCardSaid :=
  Claim7.holds_tied_plain_at .later [] _ _ _ _ said (fun _ h => by cases h) (by kernel_rfl) (fun _ h => by cases h) linkNone_row_tie rfl ⟨rfl, rfl⟩ (by kernel_rfl) rfl plain (by kernel_rfl)
end Go.Proofs.YtocaajkjbnkgoaaGreatDoor.linkNone
