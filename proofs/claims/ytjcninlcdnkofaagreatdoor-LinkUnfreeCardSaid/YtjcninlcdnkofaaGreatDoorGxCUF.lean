/- What is proved: glowwormlaw20.LinkUnfree returns true, whatever it is given, and turns nothing that was there, in every world that holds the three laid tables; conditions: none beyond those of its card. -/
import Derived.Test.YtjcninlcdnkofaaGreatDoorGxUF0
import Derived.Test.YtjcninlcdnkofaaGreatDoorGxUF1
import Derived.Test.YtjcninlcdnkofaaGreatDoorGxUF2
import Derived.Test.YtjcninlcdnkofaaGreatDoorGxX3
noncomputable section
namespace Go.Proofs.YtjcninlcdnkofaaGreatDoor.linkUnfree
open Go Gw Go.RowKit Go.ChangeShapes Go.WideShapes Go.ChangeAt
set_option maxRecDepth 1000000
theorem runLinkUnfree (a b : Gw.Offer) (n : Int) : Run Tryz.prog 5 [.agg a.vs, .agg b.vs, .int .i64 n] (tabH kT0 kT1 kT2 3) fun v _ => v = .bool true := by
  obtain ⟨m, hm, hm30⟩ := tm30 n
  rcases wait3 a with w | w | w
  · by_cases h3 : 3 ≤ m
    · exact runLU0_m a b n m h3 hm30 hm w
    · have : m = 0 ∨ m = 1 ∨ m = 2 := by omega
      rcases this with rfl | rfl | rfl
      · exact runLU0_0 a b n hm w
      · exact runLU0_1 a b n hm w
      · exact runLU0_2 a b n hm w
  · by_cases h3 : 3 ≤ m
    · exact runLU1_m a b n m h3 hm30 hm w
    · have : m = 0 ∨ m = 1 ∨ m = 2 := by omega
      rcases this with rfl | rfl | rfl
      · exact runLU1_0 a b n hm w
      · exact runLU1_1 a b n hm w
      · exact runLU1_2 a b n hm w
  · by_cases h3 : 3 ≤ m
    · exact runLU2_m a b n m h3 hm30 hm w
    · have : m = 0 ∨ m = 1 ∨ m = 2 := by omega
      rcases this with rfl | rfl | rfl
      · exact runLU2_0 a b n hm w
      · exact runLU2_1 a b n hm w
      · exact runLU2_2 a b n hm w
theorem walk {W : World} (T : Tabs W kT0 kT1 kT2) (a : Gw.Offer) (b : Gw.Offer) (n : Int) : Calls Tryz.prog 5 #[.agg (gOffer a).toArray, .agg (gOffer b).toArray, .int .i64 n] W fun e W' => e = .returned (.bool true) ∧ Below W.heap.size W W' := by
  obtain ⟨ρ, hG, _, hH, _⟩ := HR.tabs T (fun k => k < W.heap.size) (fun _ h => h) 3 (Nat.le_refl _)
  have hr := (runLinkUnfree a b n).2 (fun k => k < W.heap.size) ρ [.agg (gOffer a).toArray, .agg (gOffer b).toArray, .int .i64 n] W hG (VRs.cons (Offer_VR ρ a) (VRs.cons (Offer_VR ρ b) (VRs.cons (by simp only [VR]) (by simp [VRs])))) hH
  refine hr.mono fun e w' ⟨x, r, h', ρ2, h1, h2, _, h4, _, h6⟩ => ⟨?_, h6.below⟩
  subst h1 h2
  simp only [VR] at h4
  rw [h4]

theorem params : Tryz.f5.params = #[23, 23, 3] := by kernel_rfl
theorem contract (H : Type) (enc : TypeId × Value → H) (W : World) (base : Nat) (args : Array Value) (ds gs : List (DataW H)) (before : List MemPlace)
    (hval : ∀ (j : Nat) t v, Tryz.f5.params[j]? = some t → args[j]? = some v → Value.okWide Tryz.prog W .any base t v)
    (hW : DataW.Whole enc Tryz.prog Tryz.f5.params.toList Rows.linkUnfreeSpec.vars false W args.toList ds gs before) (hL : laidMetH Tryz.prog Rows.linkUnfreeRow.laid W) :
    Calls Tryz.prog 5 args W fun e W' => ∃ v, e = .returned v ∧ Rows.linkUnfreeSpec.post enc Tryz.prog Tryz.f5 false true false false W args v W' := by
  have hW' := hW
  obtain ⟨p, q, hA, _⟩ := hW
  rw [params] at hA hval
  obtain ⟨v0, vs0, d0, ds0, p0, q0, e0, _, _, h0, r0⟩ := trodAll_cons hA
  obtain ⟨v1, vs1, d1, ds1, p1, q1, e1, _, _, h1, r1⟩ := trodAll_cons r0
  obtain ⟨v2, vs2, d2, ds2, p2, q2, e2, _, _, h2, r2⟩ := trodAll_cons r1
  obtain ⟨z, _, _⟩ := trodAll_nil r2
  obtain rfl : args = #[v0, v1, v2] := by cases args; simp_all
  have go : Calls Tryz.prog 5 #[v0, v1, v2] W fun e W' => e = .returned (.bool true) ∧ Below W.heap.size W W' := by
    obtain ⟨a, rfl⟩ := Offer_arg (hval 0 23 v0 rfl rfl) h0
    obtain ⟨b, rfl⟩ := Offer_arg (hval 1 23 v1 rfl rfl) h1
    obtain ⟨n, rfl, _⟩ := int_arg (show Tryz.prog.underlying 3 = some (.int .i64) by kernel_rfl) (hval 2 3 v2 rfl rfl) h2
    exact walk (tabs hL) a b n
  refine go.mono fun e W' ⟨he, hB⟩ => ⟨_, he, ?_⟩
  refine post_true laidOut (by kernel_rfl) rfl (tb := 4) rfl u4 (fun ds hd => ?_) hW' hB
  rw [params] at hd
  match ds, hd with
  | [a0, a1, a2], _ => exact ⟨rfl, rfl, rfl⟩

noncomputable def wArgs : Array Value := #[.agg #[.int .i64 0, .int .i64 0, .int .i64 0, .int .i64 0, .int .i64 0], .agg #[.int .i64 0, .int .i64 0, .int .i64 0, .int .i64 0, .int .i64 0], .int .i64 0]
theorem reads (os : Os) {H : Type} (enc : TypeId × Value → H) : ∃ places, DataW.whole enc Tryz.prog ((laidWorld os).forCall (fun _ _ => 0) ⟨#[], wArgs, []⟩).memory Tryz.f5.params.toList Rows.linkUnfreeSpec.vars false wArgs.toList 8 = some ([.agg [.lit (.int .i64 0), .lit (.int .i64 0), .lit (.int .i64 0), .lit (.int .i64 0), .lit (.int .i64 0)], .agg [.lit (.int .i64 0), .lit (.int .i64 0), .lit (.int .i64 0), .lit (.int .i64 0), .lit (.int .i64 0)], .lit (.int .i64 0)], [], places) :=
  ⟨[], by kernel_rfl⟩

theorem lifted (os : Os) (started : os.Started) (H : Type) (enc : TypeId × Value → H) (F : Stop.Interp) :
    ReturnsInHanded {} Tryz.checked os 5 .any ((OpenSpec.ofChange Rows.linkUnfreeSpec).preRow enc Tryz.prog Tryz.f5 Rows.linkUnfreeRow.domain false Rows.linkUnfreeRow.laid) (((OpenSpec.ofChange Rows.linkUnfreeSpec).at F).post enc Tryz.prog Tryz.f5 false true false false) := by
  obtain ⟨places, hx⟩ := reads os enc
  refine returnsInHanded_of_row (C := Tryz.checked) (s := OpenSpec.ofChange Rows.linkUnfreeSpec) own started (by kernel_rfl) Tryz.func5
    (witness_row_at (enc := enc) (C := Tryz.checked) false (laidWorld os) wArgs rfl (by kernel_rfl) (by kernel_rfl) (by kernel_rfl)
      (OpenSpec.preRow_of_cond 8 hx (by kernel_rfl) (fun k hk => by cases hk) (by kernel_rfl) (laid_met os _))) ?_
  intro W base args ds gs before hval hW _ _ _ hL _ _
  exact contract H enc W base args ds gs before hval hW hL

theorem facts9 : (Rows.linkUnfreeRow.inPlace == Tryz.pinned.checked.prog.inPlace 5) = true := by kernel_rfl
theorem facts10 : (Rows.linkUnfreeRow.unfollowed == Tryz.pinned.checked.prog.unfollowed 5) = true := by kernel_rfl
theorem facts11 : (Rows.linkUnfreeRow.recurses == Tryz.pinned.checked.prog.recurses 5) = true := by kernel_rfl
theorem facts12 : (Rows.linkUnfreeRow.named == Tryz.pinned.checked.prog.varsNamed 5) = true := by kernel_rfl
theorem facts : joinedFacts Tryz.pinned.checked.prog 5 Tryz.f5 (OpenSpec.ofChange Rows.linkUnfreeSpec).bare Rows.linkUnfreeRow = true := by
  unfold joinedFacts
  simp only [Bool.and_eq_true]
  exact ⟨⟨⟨⟨⟨⟨⟨⟨⟨⟨⟨⟨⟨⟨⟨⟨⟨⟨⟨⟨⟨⟨⟨⟨⟨⟨⟨⟨⟨⟨⟨by kernel_rfl, by kernel_rfl⟩, by kernel_rfl⟩, by kernel_rfl⟩, by kernel_rfl⟩, by kernel_rfl⟩, by kernel_rfl⟩, by kernel_rfl⟩, by kernel_rfl⟩, facts9⟩, facts10⟩, facts11⟩, facts12⟩, by kernel_rfl⟩, by kernel_rfl⟩, by kernel_rfl⟩, by kernel_rfl⟩, by kernel_rfl⟩, by kernel_rfl⟩, by kernel_rfl⟩, by kernel_rfl⟩, by kernel_rfl⟩, by kernel_rfl⟩, by kernel_rfl⟩, by kernel_rfl⟩, by kernel_rfl⟩, by kernel_rfl⟩, by kernel_rfl⟩, by kernel_rfl⟩, by kernel_rfl⟩, by kernel_rfl⟩, by kernel_rfl⟩
theorem goes : false = Rows.linkUnfreeRow.goesBy Tryz.pinned.checked.prog := by kernel_rfl
theorem wfT : Rows.linkUnfreeRow.wfByText (OpenSpec.ofChange Rows.linkUnfreeSpec) = true := by kernel_rfl

theorem said : Rows.LinkUnfreeSaid :=
  OpenClaim.holds_of_cond 5 Tryz.f5 rfl rfl rfl rfl rfl rfl rfl ⟨rfl, rfl, rfl, rfl, rfl⟩ rfl rfl rfl rfl rfl (by kernel_rfl) Tryz.func5 facts
    (of_decide_eq_true (by kernel_rfl)) (by unfold Func.isWrapper; first | (rw [if_pos (by decide +kernel)]; kernel_rfl) | (rw [if_neg (by decide +kernel)]; exact ⟨rfl, rfl⟩))
    (fun os started H enc _ F => by rw [OpenClaim.pre_eq_preRow]; exact lifted os started H enc F)

theorem plain (f : FuncId) (fn : Func) (hf : Tryz.pinned.checked.prog.funcNamed "glowworm/glowwormlaw20.LinkUnfree" = some f) (hfn : Tryz.pinned.checked.prog.funcs[f]? = some fn) :
    true = Tryz.pinned.checked.prog.looks [] ∧ ∀ (j : Nat) t, fn.params[j]? = some t → Tryz.pinned.checked.prog.wantsStandIn t = false := by
  obtain rfl : f = 5 := Option.some.inj ((show Tryz.prog.funcNamed "glowworm/glowwormlaw20.LinkUnfree" = some 5 by kernel_rfl).symm.trans hf) |>.symm
  obtain rfl : fn = Tryz.f5 := (Option.some.inj (Tryz.func5.symm.trans hfn)).symm
  refine ⟨by kernel_rfl, fun j t ht => ?_⟩
  have hall : Tryz.f5.params.toList.all (fun t => Tryz.prog.wantsStandIn t == false) = true := by kernel_rfl
  have hm : t ∈ Tryz.f5.params.toList := by
    have := Array.mem_of_getElem? ht
    simpa using this
  have := List.all_eq_true.1 hall t hm
  have h2 : Tryz.prog.wantsStandIn t = false := by simpa using this
  exact h2

theorem card : Rows.LinkUnfreeCardSaid :=
  Claim7.holds_tied_plain_at .later [] _ _ _ _ said (fun _ h => by cases h) wfT (fun _ h => by cases h) linkUnfree_row_tie rfl ⟨rfl, rfl⟩ (by kernel_rfl) rfl plain goes
end Go.Proofs.YtjcninlcdnkofaaGreatDoor.linkUnfree
