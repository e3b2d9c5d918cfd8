/- What is proved: glowwormlaw16.ReplyLate returns true, whatever it is given, and turns nothing that was there, in every world that holds the three laid tables; conditions: none beyond those of its card. -/
import Derived.Test.YtjnhaaolbcmdbaaGreatDoorGwReplyLateR0
import Derived.Test.YtjnhaaolbcmdbaaGreatDoorGwReplyLateR1
import Derived.Test.YtjnhaaolbcmdbaaGreatDoorGwReplyLateR2
import Derived.Test.YtjnhaaolbcmdbaaGreatDoorGwReplyLateR3
import Derived.Test.YtjnhaaolbcmdbaaGreatDoorGwReplyLateR4
import Derived.Test.YtjnhaaolbcmdbaaGreatDoorGwE2
namespace Go.Proofs.YtjnhaaolbcmdbaaGreatDoor.replyLate
open Go Gw Go.RowKit Go.ChangeShapes Go.WideShapes Go.ChangeAt
set_option maxRecDepth 100000
theorem params : Tryz.f10.params = #[22, 3, 3, 22] := by kernel_rfl
theorem contract (H : Type) (enc : TypeId × Value → H) (W : World) (base : Nat) (args : Array Value) (ds gs : List (DataW H)) (before : List MemPlace)
    (hval : ∀ (j : Nat) t v, Tryz.f10.params[j]? = some t → args[j]? = some v → Value.okWide Tryz.prog W .any base t v)
    (hW : DataW.Whole enc Tryz.prog Tryz.f10.params.toList Rows.replyLateSpec.vars false W args.toList ds gs before) (hL : laidMetH Tryz.prog Rows.replyLateRow.laid W) :
    Calls Tryz.prog 10 args W fun e W' => ∃ v, e = .returned v ∧ Rows.replyLateSpec.post enc Tryz.prog Tryz.f10 false true false false W args v W' := by
  have hW' := hW
  obtain ⟨p, q, hA, _⟩ := hW
  rw [params] at hA hval
  obtain ⟨v0, vs0, d0, ds0, p0, q0, e0, _, _, h0, r0⟩ := trodAll_cons hA
  obtain ⟨v1, vs1, d1, ds1, p1, q1, e1, _, _, h1, r1⟩ := trodAll_cons r0
  obtain ⟨v2, vs2, d2, ds2, p2, q2, e2, _, _, h2, r2⟩ := trodAll_cons r1
  obtain ⟨v3, vs3, d3, ds3, p3, q3, e3, _, _, h3, r3⟩ := trodAll_cons r2
  obtain ⟨z, _, _⟩ := trodAll_nil r3
  obtain rfl : args = #[v0, v1, v2, v3] := by cases args; simp_all
  obtain ⟨n0, rfl, _, _, w0⟩ := open_int (show Tryz.prog.underlying 22 = some (.int .u32) by kernel_rfl) (hval 0 22 v0 rfl rfl) h0
  obtain ⟨n1, rfl, _, _, w1⟩ := open_int (show Tryz.prog.underlying 3 = some (.int .i64) by kernel_rfl) (hval 1 3 v1 rfl rfl) h1
  obtain ⟨n2, rfl, _, _, w2⟩ := open_int (show Tryz.prog.underlying 3 = some (.int .i64) by kernel_rfl) (hval 2 3 v2 rfl rfl) h2
  obtain ⟨n3, rfl, _, _, w3⟩ := open_int (show Tryz.prog.underlying 22 = some (.int .u32) by kernel_rfl) (hval 3 22 v3 rfl rfl) h3
  have hr : n1.tmod 2 = 0 ∨ n1.tmod 2 = 1 ∨ n1.tmod 2 = -1 := by
    rcases Int.le_total 0 n1 with h | h
    · have := Int.emod_emod_of_dvd n1 (show (2 : Int) ∣ 2 by decide)
      rw [Int.tmod_eq_emod_of_nonneg h]; omega
    · obtain ⟨k, rfl⟩ : ∃ k, n1 = -k := ⟨-n1, by omega⟩
      rw [Int.neg_tmod, Int.tmod_eq_emod_of_nonneg (by omega)]; omega
  have h3 : 0 ≤ n3 := by have := (wf_rg w3).1 _ rfl; simpa [kMin] using this
  have hd : n3.tmod 8 = n3 % 8 := Int.tmod_eq_emod_of_nonneg h3
  have go : Calls Tryz.prog 10 #[.int .u32 n0, .int .i64 n1, .int .i64 n2, .int .u32 n3] W fun e W' => e = .returned (.bool true) ∧ Below W.heap.size W W' := by
    have ok : ∀ l : List (IT × Option Int × Option Int), (∀ f ∈ l, okLo f.2.1 (f.1.ev (valOf [n0, n1, n2, n3] [] [] pI1)) ∧ okHi f.2.2 (f.1.ev (valOf [n0, n1, n2, n3] [] [] pI1))) →
        (valOf [n0, n1, n2, n3] [] [] pI1).ok ⟨l ++ [(.x 0, some (kMin .u32), some (kMax .u32)), (.x 1, some (kMin .i64), some (kMax .i64)), (.x 2, some (kMin .i64), some (kMax .i64)), (.x 3, some (kMin .u32), some (kMax .u32))], []⟩ := by
      intro l hl
      refine ⟨fun f hf => ?_, fun f hf => by simp at hf, fun i => ?_⟩
      · rcases List.mem_append.1 hf with hf | hf
        · exact hl f hf
        · simp only [List.mem_cons, List.not_mem_nil, or_false] at hf
          rcases hf with rfl | rfl | rfl | rfl
          · exact wf_rg w0
          · exact wf_rg w1
          · exact wf_rg w2
          · exact wf_rg w3
      · show (nthS [] i).length ≤ sBound
        exact nthS_len _ (fun x hx => by cases hx) i
    have e1 : ∀ a : Int, n1.tmod 2 = a → okLo (some a) (IT.ev (valOf [n0, n1, n2, n3] [] [] pI1) (.bin .rem .i64 (.x 1) (.c 2))) ∧ okHi (some a) (IT.ev (valOf [n0, n1, n2, n3] [] [] pI1) (.bin .rem .i64 (.x 1) (.c 2))) := by
      intro a ha
      have : IT.ev (valOf [n0, n1, n2, n3] [] [] pI1) (.bin .rem .i64 (.x 1) (.c 2)) = n1.tmod 2 := rfl
      rw [this, ha]
      exact ⟨fun x hx => by cases hx; exact Int.le_refl _, fun x hx => by cases hx; exact Int.le_refl _⟩
    have e3 : ∀ a b : Int, a ≤ n3 % 8 → n3 % 8 ≤ b → okLo (some a) (IT.ev (valOf [n0, n1, n2, n3] [] [] pI1) (.bin .rem .u32 (.x 3) (.c 8))) ∧ okHi (some b) (IT.ev (valOf [n0, n1, n2, n3] [] [] pI1) (.bin .rem .u32 (.x 3) (.c 8))) := by
      intro a b ha hb
      have : IT.ev (valOf [n0, n1, n2, n3] [] [] pI1) (.bin .rem .u32 (.x 3) (.c 8)) = n3.tmod 8 := rfl
      rw [this, hd]
      exact ⟨fun x hx => by cases hx; exact ha, fun x hx => by cases hx; exact hb⟩
    have run : ∀ {l : List (IT × Option Int × Option Int)}, (∀ f ∈ l, okLo f.2.1 (f.1.ev (valOf [n0, n1, n2, n3] [] [] pI1)) ∧ okHi f.2.2 (f.1.ev (valOf [n0, n1, n2, n3] [] [] pI1))) →
        sTrue (sCallN SX1 D 10000 10 [.int .u32 (.x 0), .int .i64 (.x 1), .int .i64 (.x 2), .int .u32 (.x 3)] ⟨l ++ [(.x 0, some (kMin .u32), some (kMax .u32)), (.x 1, some (kMin .i64), some (kMax .i64)), (.x 2, some (kMin .i64), some (kMax .i64)), (.x 3, some (kMin .u32), some (kMax .u32))], []⟩ sh0) = true →
        Calls Tryz.prog 10 #[.int .u32 n0, .int .i64 n1, .int .i64 n2, .int .u32 n3] W fun e W' => e = .returned (.bool true) ∧ Below W.heap.size W W' := fun hl ht =>
      walk1 ht (σ := valOf [n0, n1, n2, n3] [] [] pI1) rfl (ok _ hl) (tabs hL) (xs := #[.int .u32 n0, .int .i64 n1, .int .i64 n2, .int .u32 n3]) (fun ρ => by simp [SV.ccs, SV.cc, VRs, VR, IT.ev, nthI, mnId, valOf])
    have h8 : 0 ≤ n3 % 8 ∧ n3 % 8 < 8 := ⟨by omega, by omega⟩
    rcases hr with hr | hr | hr
    · exact run (l := [(.bin .rem .i64 (.x 1) (.c 2), some 0, some 0)]) (fun f hf => by simp only [List.mem_cons, List.not_mem_nil, or_false] at hf; subst hf; exact e1 0 hr) replyLate0.ran
    · rcases Int.lt_or_le (n3 % 8) 4 with h4 | h4
      · exact run (l := [(.bin .rem .i64 (.x 1) (.c 2), some 1, some 1), (.bin .rem .u32 (.x 3) (.c 8), some 0, some 3)]) (fun f hf => by
          simp only [List.mem_cons, List.not_mem_nil, or_false] at hf
          rcases hf with rfl | rfl
          · exact e1 1 hr
          · exact e3 0 3 h8.1 (by omega)) replyLate1.ran
      · exact run (l := [(.bin .rem .i64 (.x 1) (.c 2), some 1, some 1), (.bin .rem .u32 (.x 3) (.c 8), some 4, some 7)]) (fun f hf => by
          simp only [List.mem_cons, List.not_mem_nil, or_false] at hf
          rcases hf with rfl | rfl
          · exact e1 1 hr
          · exact e3 4 7 h4 (by omega)) replyLate2.ran
    · rcases Int.lt_or_le (n3 % 8) 4 with h4 | h4
      · exact run (l := [(.bin .rem .i64 (.x 1) (.c 2), some (-1), some (-1)), (.bin .rem .u32 (.x 3) (.c 8), some 0, some 3)]) (fun f hf => by
          simp only [List.mem_cons, List.not_mem_nil, or_false] at hf
          rcases hf with rfl | rfl
          · exact e1 (-1) hr
          · exact e3 0 3 h8.1 (by omega)) replyLate3.ran
      · exact run (l := [(.bin .rem .i64 (.x 1) (.c 2), some (-1), some (-1)), (.bin .rem .u32 (.x 3) (.c 8), some 4, some 7)]) (fun f hf => by
          simp only [List.mem_cons, List.not_mem_nil, or_false] at hf
          rcases hf with rfl | rfl
          · exact e1 (-1) hr
          · exact e3 4 7 h4 (by omega)) replyLate4.ran
  refine go.mono fun e W' ⟨he, hB⟩ => ⟨_, he, ?_⟩
  refine post_true laidOut (by kernel_rfl) rfl (tb := 4) rfl u4 (fun ds hd => ?_) hW' hB
  rw [params] at hd
  match ds, hd with
  | [a0, a1, a2, a3], _ => exact ⟨rfl, rfl, rfl⟩

noncomputable def wArgs : Array Value := #[.int .u32 0, .int .i64 0, .int .i64 0, .int .u32 0]
theorem reads (os : Os) {H : Type} (enc : TypeId × Value → H) : ∃ places, DataW.whole enc Tryz.prog ((laidWorld os).forCall (fun _ _ => 0) ⟨#[], wArgs, []⟩).memory Tryz.f10.params.toList Rows.replyLateSpec.vars false wArgs.toList 8 = some ([.lit (.int .u32 0), .lit (.int .i64 0), .lit (.int .i64 0), .lit (.int .u32 0)], [], places) :=
  ⟨[], by kernel_rfl⟩

theorem lifted (os : Os) (started : os.Started) (H : Type) (enc : TypeId × Value → H) (F : Stop.Interp) :
    ReturnsInHanded {} Tryz.checked os 10 .any ((OpenSpec.ofChange Rows.replyLateSpec).preRow enc Tryz.prog Tryz.f10 Rows.replyLateRow.domain false Rows.replyLateRow.laid) (((OpenSpec.ofChange Rows.replyLateSpec).at F).post enc Tryz.prog Tryz.f10 false true false false) := by
  obtain ⟨places, hx⟩ := reads os enc
  refine returnsInHanded_of_row (C := Tryz.checked) (s := OpenSpec.ofChange Rows.replyLateSpec) own started (by kernel_rfl) Tryz.func10
    (witness_row_at (enc := enc) (C := Tryz.checked) false (laidWorld os) wArgs rfl (by kernel_rfl) (by kernel_rfl) (by kernel_rfl)
      (OpenSpec.preRow_of_cond 8 hx (by kernel_rfl) (fun k hk => by cases hk) (by kernel_rfl) (laid_met os _))) ?_
  intro W base args ds gs before hval hW _ _ _ hL _ _
  exact contract H enc W base args ds gs before hval hW hL

theorem said : Rows.ReplyLateSaid :=
  OpenClaim.holds_of_cond 10 Tryz.f10 rfl rfl rfl rfl rfl rfl rfl ⟨rfl, rfl, rfl, rfl, rfl⟩ rfl rfl rfl rfl rfl (by kernel_rfl) Tryz.func10 (by kernel_rfl)
    (of_decide_eq_true (by kernel_rfl)) (by unfold Func.isWrapper; first | (rw [if_pos (by decide +kernel)]; kernel_rfl) | (rw [if_neg (by decide +kernel)]; exact ⟨rfl, rfl⟩))
    (fun os started H enc _ F => by rw [OpenClaim.pre_eq_preRow]; exact lifted os started H enc F)

theorem plain (f : FuncId) (fn : Func) (hf : Tryz.pinned.checked.prog.funcNamed "glowworm/glowwormlaw16.ReplyLate" = some f) (hfn : Tryz.pinned.checked.prog.funcs[f]? = some fn) :
    true = Tryz.pinned.checked.prog.looks [] ∧ ∀ (j : Nat) t, fn.params[j]? = some t → Tryz.pinned.checked.prog.wantsStandIn t = false := by
  obtain rfl : f = 10 := Option.some.inj ((show Tryz.prog.funcNamed "glowworm/glowwormlaw16.ReplyLate" = some 10 by kernel_rfl).symm.trans hf) |>.symm
  obtain rfl : fn = Tryz.f10 := (Option.some.inj (Tryz.func10.symm.trans hfn)).symm
  refine ⟨by kernel_rfl, fun j t ht => ?_⟩
  have hall : Tryz.f10.params.toList.all (fun t => Tryz.prog.wantsStandIn t == false) = true := by kernel_rfl
  have hm : t ∈ Tryz.f10.params.toList := by
    have := Array.mem_of_getElem? ht
    simpa using this
  have := List.all_eq_true.1 hall t hm
  have h2 : Tryz.prog.wantsStandIn t = false := by simpa using this
  exact h2

theorem card : Rows.ReplyLateCardSaid :=
  Claim7.holds_tied_plain_at .later [] _ _ _ _ said (fun _ h => by cases h) (by kernel_rfl) (fun _ h => by cases h) replyLate_row_tie rfl ⟨rfl, rfl⟩ (by kernel_rfl) rfl plain (by kernel_rfl)
end Go.Proofs.YtjnhaaolbcmdbaaGreatDoor.replyLate
