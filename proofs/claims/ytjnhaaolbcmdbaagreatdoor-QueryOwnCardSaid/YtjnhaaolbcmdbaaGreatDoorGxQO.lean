/- What is proved: glowwormlaw16.QueryOwn returns true, whatever it is given, and turns nothing that was there, in every world that holds the three laid tables; conditions: none beyond those of its card. -/
import Derived.Test.YtjnhaaolbcmdbaaGreatDoorGxL
import Derived.Test.YtjnhaaolbcmdbaaGreatDoorGxX1
import Derived.Test.YtjnhaaolbcmdbaaGreatDoorGxB5
namespace Go.Proofs.YtjnhaaolbcmdbaaGreatDoor
open Go Gw Go.RowKit
set_option linter.unusedSimpArgs false
set_option linter.unusedVariables false
def toX (a : Int) (x : Gw.Xid) : Gw.Xid := ⟨x.src, a, x.slot, x.slots, x.anew, (extractL x.nick 0 (((if (25 : Int) < ((x.nick : Str).length : Int) then 25 else ((x.nick : Str).length : Int)) : Int).toNat))⟩
def treeQO (a : Int) (b : Int) (x : Gw.Xid) : DT V :=
  .node (!(mayXid ⟨a, 0, 0, 6, false, [97]⟩)) (
    .node (!(mayXid ⟨b, 0, 0, 6, false, [98]⟩)) (
      .ob ((((a : Int) != 0) == true) = true → ((True) ∧ ((True) ∧ (True)))) (
      .node ((!(cond (((a : Int) != 0) == true) ((a : Int) != 4294967295) false)) == false) (
        .ob ((((b : Int) != 0) == true) = true → ((True) ∧ ((True) ∧ (True)))) (
        .leaf (.bool (!(cond (((b : Int) != 0) == true) ((b : Int) != 4294967295) false))))) (
        .leaf (.bool true)))) (
      .ob (((V.beq (.agg [.int .u32 b, .int .u32 0, .int .i64 0, .int .i64 6, .bool false, .str [98]]) (.agg [.int .u32 b, .int .u32 0, .int .i64 0, .int .i64 6, .bool false, .str [98]])) && true) = true) (
      .ob ((((a : Int) != 0) == true) = true → ((True) ∧ ((True) ∧ (True)))) (
      .node ((!(cond (((a : Int) != 0) == true) ((a : Int) != 4294967295) false)) == false) (
        .ob ((((b : Int) != 0) == true) = true → ((True) ∧ ((True) ∧ (True)))) (
        .leaf (.bool (!(cond (((b : Int) != 0) == true) ((b : Int) != 4294967295) false))))) (
        .leaf (.bool true)))))) (
    .ob (((V.beq (.agg [.int .u32 a, .int .u32 0, .int .i64 0, .int .i64 6, .bool false, .str [97]]) (.agg [.int .u32 a, .int .u32 0, .int .i64 0, .int .i64 6, .bool false, .str [97]])) && true) = true) (
    .node (!(mayXid ⟨b, 0, 0, 6, false, [98]⟩)) (
      .ob ((((a : Int) != 0) == true) = true → ((True) ∧ ((True) ∧ (True)))) (
      .node ((!(cond (((a : Int) != 0) == true) ((a : Int) != 4294967295) false)) == false) (
        .ob ((((b : Int) != 0) == true) = true → ((True) ∧ ((True) ∧ (True)))) (
        .leaf (.bool (!(cond (((b : Int) != 0) == true) ((b : Int) != 4294967295) false))))) (
        .leaf (.bool true)))) (
      .ob (((V.beq (.agg [.int .u32 b, .int .u32 0, .int .i64 0, .int .i64 6, .bool false, .str [98]]) (.agg [.int .u32 b, .int .u32 0, .int .i64 0, .int .i64 6, .bool false, .str [98]])) && true) = true) (
      .ob (IntKind.i64 = IntKind.i64 ∧ (8 : Int) ≠ 0) (
      .ob (IntKind.i64 = IntKind.i64 ∧ (8 : Int) ≠ 0) (
      .ob (IntKind.i64 = IntKind.i64 ∧ (8 : Int) ≠ 0) (
      .ob (IntKind.i64 = IntKind.i64 ∧ (8 : Int) ≠ 0) (
      .ob ((0 ≤ ((if (25 : Int) < ((x.nick : Str).length : Int) then 25 else ((x.nick : Str).length : Int)) : Int) ∧ ((if (25 : Int) < ((x.nick : Str).length : Int) then 25 else ((x.nick : Str).length : Int)) : Int) ≤ (((x.nick : Str).length : Nat) : Int)) ∧ (True)) (
      .node (((a : Int) == a) == true) (
        .ob (okLogL ⟨a, none, none, none⟩ = true) (
        .ob (((mayXid (toX a x)) == true) = true → ((True) ∧ ((True) ∧ ((True) ∧ ((True) ∧ (True)))))) (
        .node (((logAdd ⟨a, none, none, none⟩ (toX a x)).1 == (cond ((mayXid (toX a x)) == true) ((x.src : Int) != a) false)) == true) (
          .ob (okLenL (logAdd ⟨a, none, none, none⟩ (toX a x)).2 = true) (
          .node (logAdd ⟨a, none, none, none⟩ (toX a x)).1 (
            .node (((((Option.getD ((logAdd ⟨a, none, none, none⟩ (toX a x)).2 : Gw.Log).devs []).length : Int) : Int) == 1) == true) (
              .ob (okLenL ⟨b, none, none, none⟩ = true) (
              .node (((((Option.getD (⟨b, none, none, none⟩ : Gw.Log).devs []).length : Int) : Int) == 0) == true) (
                .node (((a : Int) == b) == true) (
                  .ob (okLogL ⟨b, none, none, none⟩ = true) (
                  .node (((a : Int) == b) == true) (
                    .leaf (.bool ((logAdd ⟨b, none, none, none⟩ (toX a x)).1 == (logAdd ⟨a, none, none, none⟩ (toX a x)).1))) (
                    .leaf (.bool ((logAdd ⟨b, none, none, none⟩ (toX a x)).1 == false))))) (
                  .node (((a : Int) == b) == true) (
                    .leaf (.bool (false == (logAdd ⟨a, none, none, none⟩ (toX a x)).1))) (
                    .leaf (.bool true)))) (
                .leaf (.bool false)))) (
              .leaf (.bool false))) (
            .node (((((Option.getD ((logAdd ⟨a, none, none, none⟩ (toX a x)).2 : Gw.Log).devs []).length : Int) : Int) == 0) == true) (
              .ob (okLenL ⟨b, none, none, none⟩ = true) (
              .node (((((Option.getD (⟨b, none, none, none⟩ : Gw.Log).devs []).length : Int) : Int) == 0) == true) (
                .node (((a : Int) == b) == true) (
                  .ob (okLogL ⟨b, none, none, none⟩ = true) (
                  .node (((a : Int) == b) == true) (
                    .leaf (.bool ((logAdd ⟨b, none, none, none⟩ (toX a x)).1 == (logAdd ⟨a, none, none, none⟩ (toX a x)).1))) (
                    .leaf (.bool ((logAdd ⟨b, none, none, none⟩ (toX a x)).1 == false))))) (
                  .node (((a : Int) == b) == true) (
                    .leaf (.bool (false == (logAdd ⟨a, none, none, none⟩ (toX a x)).1))) (
                    .leaf (.bool true)))) (
                .leaf (.bool false)))) (
              .leaf (.bool false))))) (
          .leaf (.bool false))))) (
        .ob (((mayXid (toX a x)) == true) = true → ((True) ∧ ((True) ∧ ((True) ∧ ((True) ∧ (True)))))) (
        .node ((false == (cond ((mayXid (toX a x)) == true) ((x.src : Int) != a) false)) == true) (
          .ob (okLenL ⟨a, none, none, none⟩ = true) (
          .node false (
            .node (((((Option.getD (⟨a, none, none, none⟩ : Gw.Log).devs []).length : Int) : Int) == 1) == true) (
              .ob (okLenL ⟨b, none, none, none⟩ = true) (
              .node (((((Option.getD (⟨b, none, none, none⟩ : Gw.Log).devs []).length : Int) : Int) == 0) == true) (
                .node (((a : Int) == b) == true) (
                  .ob (okLogL ⟨b, none, none, none⟩ = true) (
                  .node (((a : Int) == b) == true) (
                    .leaf (.bool ((logAdd ⟨b, none, none, none⟩ (toX a x)).1 == false))) (
                    .leaf (.bool ((logAdd ⟨b, none, none, none⟩ (toX a x)).1 == false))))) (
                  .node (((a : Int) == b) == true) (
                    .leaf (.bool true)) (
                    .leaf (.bool true)))) (
                .leaf (.bool false)))) (
              .leaf (.bool false))) (
            .node (((((Option.getD (⟨a, none, none, none⟩ : Gw.Log).devs []).length : Int) : Int) == 0) == true) (
              .ob (okLenL ⟨b, none, none, none⟩ = true) (
              .node (((((Option.getD (⟨b, none, none, none⟩ : Gw.Log).devs []).length : Int) : Int) == 0) == true) (
                .node (((a : Int) == b) == true) (
                  .ob (okLogL ⟨b, none, none, none⟩ = true) (
                  .node (((a : Int) == b) == true) (
                    .leaf (.bool ((logAdd ⟨b, none, none, none⟩ (toX a x)).1 == false))) (
                    .leaf (.bool ((logAdd ⟨b, none, none, none⟩ (toX a x)).1 == false))))) (
                  .node (((a : Int) == b) == true) (
                    .leaf (.bool true)) (
                    .leaf (.bool true)))) (
                .leaf (.bool false)))) (
              .leaf (.bool false))))) (
          .leaf (.bool false)))))))))))))
set_option maxRecDepth 1000000 in
theorem treeQO_eq (a : Int) (b : Int) (x : Gw.Xid) : funT (mkXT pxL oxL) (mkXP pxL) (mkX pxL oxL) D (fun _ => noOrc) (fun k => match k with | 13 => [11] | 40 => [8, 28, 36, 48] | 41 => [17] | 42 => [6, 13] | _ => []) 12 noOrc [11] noLt (dOf 13) [.int .u32 a, .int .u32 b, .agg x.vs] (tabH kT0 kT1 kT2 3) (fun v _ => v) = treeQO a b x := by kernel_rfl
theorem nick97 : nickOk [97] = true := by kernel_rfl
theorem nick98 : nickOk [98] = true := by kernel_rfl
theorem satQO (a b : Int) (x : Gw.Xid) : (treeQO a b x).sat fun r => r = .bool true := by
  unfold treeQO
  have tx := text25 x.nick
  have e1 : (toX a x).src = x.src := rfl
  have ma : mayXid ⟨a, 0, 0, 6, false, [97]⟩ = (a != 0 && a != 4294967295) := by simp [mayXid, nick97]
  have mb : mayXid ⟨b, 0, 0, 6, false, [98]⟩ = (b != 0 && b != 4294967295) := by simp [mayXid, nick98]
  rw [ma, mb]
  generalize toX a x = x' at *
  by_cases oa : a ≠ 0 ∧ a ≠ 4294967295
  · by_cases ob : b ≠ 0 ∧ b ≠ 4294967295
    · obtain ⟨a1, a2⟩ := oa
      obtain ⟨b1, b2⟩ := ob
      cases mx : mayXid x' with
      | false =>
        have l1 : logAdd ⟨a, none, none, none⟩ x' = (false, ⟨a, none, none, none⟩) := by simp [logAdd, mx]
        have l2 : logAdd ⟨b, none, none, none⟩ x' = (false, ⟨b, none, none, none⟩) := by simp [logAdd, mx]
        simp only [l1, l2]
        simp [DT.sat, a1, a2, b1, b2, mx, tx, V.beq, V.beqs, okLogL, okLenL]
      | true =>
        by_cases h1 : x.src = a
        · have l1 : logAdd ⟨a, none, none, none⟩ x' = (false, ⟨a, none, none, some [a]⟩) := by simp [logAdd, mx, e1, h1, clashAdd]
          by_cases h2 : a = b
          · subst h2
            simp only [l1]
            simp [DT.sat, a1, a2, mx, tx, h1, V.beq, V.beqs, okLogL, okLenL]
          · simp only [l1]
            simp [DT.sat, a1, a2, b1, b2, mx, tx, h1, h2, V.beq, V.beqs, okLogL, okLenL]
        · have l1 : logAdd ⟨a, none, none, none⟩ x' = (true, ⟨a, some [⟨x.src, x'.nick⟩], some [x'.slot], none⟩) := by simp [logAdd, mx, e1, h1, logFind]
          by_cases h2 : a = b
          · subst h2
            simp only [l1]
            simp [DT.sat, a1, a2, mx, tx, h1, V.beq, V.beqs, okLogL, okLenL]
          · simp only [l1]
            simp [DT.sat, a1, a2, b1, b2, mx, tx, h1, h2, V.beq, V.beqs, okLogL, okLenL]
    · have : (b != 0 && b != 4294967295) = false := by
        by_cases q : b = 0
        · simp [q]
        · have : b = 4294967295 := by
            apply Classical.byContradiction
            intro q2
            exact ob ⟨q, q2⟩
          simp [this]
      obtain ⟨a1, a2⟩ := oa
      by_cases q : b = 0
      · simp [DT.sat, a1, a2, q, V.beq, V.beqs]
      · have q2 : b = 4294967295 := by
          apply Classical.byContradiction
          intro q2
          exact ob ⟨q, q2⟩
        simp [DT.sat, a1, a2, q2, V.beq, V.beqs]
  · by_cases q : a = 0
    · simp [DT.sat, q, V.beq, V.beqs]
    · have q2 : a = 4294967295 := by
        apply Classical.byContradiction
        intro q2
        exact oa ⟨q, q2⟩
      simp [DT.sat, q2, V.beq, V.beqs]
end Go.Proofs.YtjnhaaolbcmdbaaGreatDoor

namespace Go.Proofs.YtjnhaaolbcmdbaaGreatDoor.queryOwn
open Go Gw Go.RowKit Go.ChangeShapes Go.WideShapes Go.ChangeAt
set_option maxRecDepth 1000000
theorem walk {W : World} (T : Tabs W kT0 kT1 kT2) (a b : Int) (x : Gw.Xid) : Calls Tryz.prog 13 #[.int .u32 a, .int .u32 b, .agg (gXid x).toArray] W fun e W' => e = .returned (.bool true) ∧ Below W.heap.size W W' := by
  obtain ⟨ρ, hG, _, hH, _⟩ := HR.tabs T (fun k => k < W.heap.size) (fun _ h => h) 3 (Nat.le_refl _)
  have hr := (run_plainU mixed tabL tabD (dIs (by kernel_rfl)) (treeQO_eq a b x) (Q := fun r => r = .bool true) (satQO a b x)).2 (fun k => k < W.heap.size) ρ [.int .u32 a, .int .u32 b, .agg (gXid x).toArray] W hG (VRs.cons (by simp only [VR]) (VRs.cons (by simp only [VR]) (VRs.cons (xid_VR ρ x) (by simp [VRs])))) hH
  refine hr.mono fun e w' ⟨x, r, h', ρ2, h1, h2, _, h4, _, h6⟩ => ⟨?_, h6.below⟩
  subst h1 h2
  simp only [VR] at h4
  rw [h4]

theorem params : Tryz.f13.params = #[22, 22, 32] := by kernel_rfl
theorem contract (H : Type) (enc : TypeId × Value → H) (W : World) (base : Nat) (args : Array Value) (ds gs : List (DataW H)) (before : List MemPlace)
    (hval : ∀ (j : Nat) t v, Tryz.f13.params[j]? = some t → args[j]? = some v → Value.okWide Tryz.prog W .any base t v)
    (hW : DataW.Whole enc Tryz.prog Tryz.f13.params.toList Rows.queryOwnSpec.vars false W args.toList ds gs before) (hL : laidMetH Tryz.prog Rows.queryOwnRow.laid W) :
    Calls Tryz.prog 13 args W fun e W' => ∃ v, e = .returned v ∧ Rows.queryOwnSpec.post enc Tryz.prog Tryz.f13 false true false false W args v W' := by
  have hW' := hW
  obtain ⟨p, q, hA, _⟩ := hW
  rw [params] at hA hval
  obtain ⟨v0, vs0, d0, ds0, p0, q0, e0, _, _, h0, r0⟩ := trodAll_cons hA
  obtain ⟨v1, vs1, d1, ds1, p1, q1, e1, _, _, h1, r1⟩ := trodAll_cons r0
  obtain ⟨v2, vs2, d2, ds2, p2, q2, e2, _, _, h2, r2⟩ := trodAll_cons r1
  obtain ⟨z, _, _⟩ := trodAll_nil r2
  obtain rfl : args = #[v0, v1, v2] := by cases args; simp_all
  have go : Calls Tryz.prog 13 #[v0, v1, v2] W fun e W' => e = .returned (.bool true) ∧ Below W.heap.size W W' := by
    obtain ⟨a, rfl, _⟩ := int_arg (show Tryz.prog.underlying 22 = some (.int .u32) by kernel_rfl) (hval 0 22 v0 rfl rfl) h0
    obtain ⟨b, rfl, _⟩ := int_arg (show Tryz.prog.underlying 22 = some (.int .u32) by kernel_rfl) (hval 1 22 v1 rfl rfl) h1
    obtain ⟨x, rfl⟩ := xid_arg (hval 2 32 v2 rfl rfl) h2
    exact walk (tabs hL) a b x
  refine go.mono fun e W' ⟨he, hB⟩ => ⟨_, he, ?_⟩
  refine post_true laidOut (by kernel_rfl) rfl (tb := 4) rfl u4 (fun ds hd => ?_) hW' hB
  rw [params] at hd
  match ds, hd with
  | [a0, a1, a2], _ => exact ⟨rfl, rfl, rfl⟩

noncomputable def wArgs : Array Value := #[.int .u32 0, .int .u32 0, .agg #[.int .u32 0, .int .u32 0, .int .i64 0, .int .i64 0, .bool false, .string ⟨#[]⟩]]
theorem reads (os : Os) {H : Type} (enc : TypeId × Value → H) : ∃ places, DataW.whole enc Tryz.prog ((laidWorld os).forCall (fun _ _ => 0) ⟨#[], wArgs, []⟩).memory Tryz.f13.params.toList Rows.queryOwnSpec.vars false wArgs.toList 8 = some ([.lit (.int .u32 0), .lit (.int .u32 0), .agg [.lit (.int .u32 0), .lit (.int .u32 0), .lit (.int .i64 0), .lit (.int .i64 0), .lit (.bool false), .lit (.string [])]], [], places) :=
  ⟨[], by kernel_rfl⟩

theorem lifted (os : Os) (started : os.Started) (H : Type) (enc : TypeId × Value → H) (F : Stop.Interp) :
    ReturnsInHanded {} Tryz.checked os 13 .any ((OpenSpec.ofChange Rows.queryOwnSpec).preRow enc Tryz.prog Tryz.f13 Rows.queryOwnRow.domain false Rows.queryOwnRow.laid) (((OpenSpec.ofChange Rows.queryOwnSpec).at F).post enc Tryz.prog Tryz.f13 false true false false) := by
  obtain ⟨places, hx⟩ := reads os enc
  refine returnsInHanded_of_row (C := Tryz.checked) (s := OpenSpec.ofChange Rows.queryOwnSpec) own started (by kernel_rfl) Tryz.func13
    (witness_row_at (enc := enc) (C := Tryz.checked) false (laidWorld os) wArgs rfl (by kernel_rfl) (by kernel_rfl) (by kernel_rfl)
      (OpenSpec.preRow_of_cond 8 hx (by kernel_rfl) (fun k hk => by cases hk) (by kernel_rfl) (laid_met os _))) ?_
  intro W base args ds gs before hval hW _ _ _ hL _ _
  exact contract H enc W base args ds gs before hval hW hL

theorem said : Rows.QueryOwnSaid :=
  OpenClaim.holds_of_cond 13 Tryz.f13 rfl rfl rfl rfl rfl rfl rfl ⟨rfl, rfl, rfl, rfl, rfl⟩ rfl rfl rfl rfl rfl (by kernel_rfl) Tryz.func13 (by kernel_rfl)
    (of_decide_eq_true (by kernel_rfl)) (by unfold Func.isWrapper; first | (rw [if_pos (by decide +kernel)]; kernel_rfl) | (rw [if_neg (by decide +kernel)]; exact ⟨rfl, rfl⟩))
    (fun os started H enc _ F => by rw [OpenClaim.pre_eq_preRow]; exact lifted os started H enc F)

theorem plain (f : FuncId) (fn : Func) (hf : Tryz.pinned.checked.prog.funcNamed "glowworm/glowwormlaw16.QueryOwn" = some f) (hfn : Tryz.pinned.checked.prog.funcs[f]? = some fn) :
    true = Tryz.pinned.checked.prog.looks [] ∧ ∀ (j : Nat) t, fn.params[j]? = some t → Tryz.pinned.checked.prog.wantsStandIn t = false := by
  obtain rfl : f = 13 := Option.some.inj ((show Tryz.prog.funcNamed "glowworm/glowwormlaw16.QueryOwn" = some 13 by kernel_rfl).symm.trans hf) |>.symm
  obtain rfl : fn = Tryz.f13 := (Option.some.inj (Tryz.func13.symm.trans hfn)).symm
  refine ⟨by kernel_rfl, fun j t ht => ?_⟩
  have hall : Tryz.f13.params.toList.all (fun t => Tryz.prog.wantsStandIn t == false) = true := by kernel_rfl
  have hm : t ∈ Tryz.f13.params.toList := by
    have := Array.mem_of_getElem? ht
    simpa using this
  have := List.all_eq_true.1 hall t hm
  have h2 : Tryz.prog.wantsStandIn t = false := by simpa using this
  exact h2

theorem card : Rows.QueryOwnCardSaid :=
  Claim7.holds_tied_plain_at .later [] _ _ _ _ said (fun _ h => by cases h) (by kernel_rfl) (fun _ h => by cases h) queryOwn_row_tie rfl ⟨rfl, rfl⟩ (by kernel_rfl) rfl plain (by kernel_rfl)
end Go.Proofs.YtjnhaaolbcmdbaaGreatDoor.queryOwn
