/- What is proved: glowwormlaw16.LogClash returns true, whatever it is given, and turns nothing that was there, in every world that holds the three laid tables; conditions: none beyond those of its card. -/
import Derived.Test.YtjnhaaolbcmdbaaGreatDoorGxX1
import Derived.Test.YtjnhaaolbcmdbaaGreatDoorGxL
import Derived.Test.YtjnhaaolbcmdbaaGreatDoorGxB5
/- LogClash: its tree. -/
namespace Go.Proofs.YtjnhaaolbcmdbaaGreatDoor
open Go Gw Go.RowKit
set_option linter.unusedSimpArgs false
set_option linter.unusedVariables false
def treeLC (a : Gw.Xid) (b : Gw.Xid) (me : Int) : DT V :=
  .ob ((0 ≤ ((if (25 : Int) < ((a.nick : Str).length : Int) then 25 else ((a.nick : Str).length : Int)) : Int) ∧ ((if (25 : Int) < ((a.nick : Str).length : Int) then 25 else ((a.nick : Str).length : Int)) : Int) ≤ (((a.nick : Str).length : Nat) : Int)) ∧ (True)) (
  .ob (((V.beq (.agg [.int .u32 b.src, .int .u32 b.dst, .int .i64 b.slot, .int .i64 b.slots, .bool b.anew, .str b.nick]) (.agg [.int .u32 b.src, .int .u32 b.dst, .int .i64 b.slot, .int .i64 b.slots, .bool b.anew, .str b.nick])) && true) = true) (
  .ob ((0 ≤ ((if (25 : Int) < ((b.nick : Str).length : Int) then 25 else ((b.nick : Str).length : Int)) : Int) ∧ ((if (25 : Int) < ((b.nick : Str).length : Int) then 25 else ((b.nick : Str).length : Int)) : Int) ≤ (((b.nick : Str).length : Nat) : Int)) ∧ (True)) (
  .ob (((!(mayXid (cutX a))) == false) = true → ((True) ∧ ((True) ∧ ((True) ∧ (True))))) (
  .node (cond ((!(mayXid (cutX a))) == false) (!(mayXid (cutX b))) true) (
    .leaf (.bool true)) (
    .ob (okLogL ⟨me, none, none, none⟩ = true) (
    .ob (okLogL (logAdd ⟨me, none, none, none⟩ (cutX a)).2 = true) (
    .ob ((((a.src : Int) == me) == false) = true → ((True) ∧ ((True) ∧ ((True) ∧ ((True) ∧ (True)))))) (
    .node ((cond (((a.src : Int) == me) == false) ((b.src : Int) == me) true) == false) (
      .node (((a.src : Int) == b.src) == true) (
        .node ((!(((cutX a).nick : Str) == (cutX b).nick)) == false) (
          .node (((logAdd ⟨me, none, none, none⟩ (cutX a)).1 == ((a.src : Int) != me)) == true) (
            .node (((b.src : Int) != me) == true) (
              .node (((a.src : Int) != b.src) == false) (
                .node ((((cutX a).nick : Str) == (cutX b).nick) == true) (
                  .node (((logAdd (logAdd ⟨me, none, none, none⟩ (cutX a)).2 (cutX b)).1 == ((a.slot : Int) == b.slot)) == true) (
                    .ob (okClL (logAdd (logAdd ⟨me, none, none, none⟩ (cutX a)).2 (cutX b)).2 = true) (
                    .node ((logAdd (logAdd ⟨me, none, none, none⟩ (cutX a)).2 (cutX b)).2 : Gw.Log).clash.isSome (
                      .leaf (.bool ((decide (((((Option.getD ((logAdd (logAdd ⟨me, none, none, none⟩ (cutX a)).2 (cutX b)).2 : Gw.Log).clash []).length : Nat) : Int) : Int) > 0)) == ((a.slot : Int) != b.slot)))) (
                      .leaf (.bool (false == ((a.slot : Int) != b.slot)))))) (
                    .leaf (.bool false))) (
                  .node (((logAdd (logAdd ⟨me, none, none, none⟩ (cutX a)).2 (cutX b)).1 == false) == true) (
                    .ob (okClL (logAdd (logAdd ⟨me, none, none, none⟩ (cutX a)).2 (cutX b)).2 = true) (
                    .node ((logAdd (logAdd ⟨me, none, none, none⟩ (cutX a)).2 (cutX b)).2 : Gw.Log).clash.isSome (
                      .leaf (.bool ((decide (((((Option.getD ((logAdd (logAdd ⟨me, none, none, none⟩ (cutX a)).2 (cutX b)).2 : Gw.Log).clash []).length : Nat) : Int) : Int) > 0)) == ((a.slot : Int) != b.slot)))) (
                      .leaf (.bool (false == ((a.slot : Int) != b.slot)))))) (
                    .leaf (.bool false)))) (
                .node (((logAdd (logAdd ⟨me, none, none, none⟩ (cutX a)).2 (cutX b)).1 == true) == true) (
                  .ob (okClL (logAdd (logAdd ⟨me, none, none, none⟩ (cutX a)).2 (cutX b)).2 = true) (
                  .node ((logAdd (logAdd ⟨me, none, none, none⟩ (cutX a)).2 (cutX b)).2 : Gw.Log).clash.isSome (
                    .leaf (.bool ((decide (((((Option.getD ((logAdd (logAdd ⟨me, none, none, none⟩ (cutX a)).2 (cutX b)).2 : Gw.Log).clash []).length : Nat) : Int) : Int) > 0)) == ((a.slot : Int) != b.slot)))) (
                    .leaf (.bool (false == ((a.slot : Int) != b.slot)))))) (
                  .leaf (.bool false)))) (
              .node (((logAdd (logAdd ⟨me, none, none, none⟩ (cutX a)).2 (cutX b)).1 == false) == true) (
                .ob (okClL (logAdd (logAdd ⟨me, none, none, none⟩ (cutX a)).2 (cutX b)).2 = true) (
                .node ((logAdd (logAdd ⟨me, none, none, none⟩ (cutX a)).2 (cutX b)).2 : Gw.Log).clash.isSome (
                  .leaf (.bool ((decide (((((Option.getD ((logAdd (logAdd ⟨me, none, none, none⟩ (cutX a)).2 (cutX b)).2 : Gw.Log).clash []).length : Nat) : Int) : Int) > 0)) == ((a.slot : Int) != b.slot)))) (
                  .leaf (.bool (false == ((a.slot : Int) != b.slot)))))) (
                .leaf (.bool false)))) (
            .leaf (.bool false))) (
          .node (((logAdd ⟨me, none, none, none⟩ (cutX a)).1 == ((a.src : Int) != me)) == true) (
            .node (((b.src : Int) != me) == true) (
              .node (((a.src : Int) != b.src) == false) (
                .node ((((cutX a).nick : Str) == (cutX b).nick) == true) (
                  .node (((logAdd (logAdd ⟨me, none, none, none⟩ (cutX a)).2 (cutX b)).1 == ((a.slot : Int) == b.slot)) == true) (
                    .ob (okClL (logAdd (logAdd ⟨me, none, none, none⟩ (cutX a)).2 (cutX b)).2 = true) (
                    .node ((logAdd (logAdd ⟨me, none, none, none⟩ (cutX a)).2 (cutX b)).2 : Gw.Log).clash.isSome (
                      .leaf (.bool ((decide (((((Option.getD ((logAdd (logAdd ⟨me, none, none, none⟩ (cutX a)).2 (cutX b)).2 : Gw.Log).clash []).length : Nat) : Int) : Int) > 0)) == true))) (
                      .leaf (.bool false)))) (
                    .leaf (.bool false))) (
                  .node (((logAdd (logAdd ⟨me, none, none, none⟩ (cutX a)).2 (cutX b)).1 == false) == true) (
                    .ob (okClL (logAdd (logAdd ⟨me, none, none, none⟩ (cutX a)).2 (cutX b)).2 = true) (
                    .node ((logAdd (logAdd ⟨me, none, none, none⟩ (cutX a)).2 (cutX b)).2 : Gw.Log).clash.isSome (
                      .leaf (.bool ((decide (((((Option.getD ((logAdd (logAdd ⟨me, none, none, none⟩ (cutX a)).2 (cutX b)).2 : Gw.Log).clash []).length : Nat) : Int) : Int) > 0)) == true))) (
                      .leaf (.bool false)))) (
                    .leaf (.bool false)))) (
                .node (((logAdd (logAdd ⟨me, none, none, none⟩ (cutX a)).2 (cutX b)).1 == true) == true) (
                  .ob (okClL (logAdd (logAdd ⟨me, none, none, none⟩ (cutX a)).2 (cutX b)).2 = true) (
                  .node ((logAdd (logAdd ⟨me, none, none, none⟩ (cutX a)).2 (cutX b)).2 : Gw.Log).clash.isSome (
                    .leaf (.bool ((decide (((((Option.getD ((logAdd (logAdd ⟨me, none, none, none⟩ (cutX a)).2 (cutX b)).2 : Gw.Log).clash []).length : Nat) : Int) : Int) > 0)) == true))) (
                    .leaf (.bool false)))) (
                  .leaf (.bool false)))) (
              .node (((logAdd (logAdd ⟨me, none, none, none⟩ (cutX a)).2 (cutX b)).1 == false) == true) (
                .ob (okClL (logAdd (logAdd ⟨me, none, none, none⟩ (cutX a)).2 (cutX b)).2 = true) (
                .node ((logAdd (logAdd ⟨me, none, none, none⟩ (cutX a)).2 (cutX b)).2 : Gw.Log).clash.isSome (
                  .leaf (.bool ((decide (((((Option.getD ((logAdd (logAdd ⟨me, none, none, none⟩ (cutX a)).2 (cutX b)).2 : Gw.Log).clash []).length : Nat) : Int) : Int) > 0)) == true))) (
                  .leaf (.bool false)))) (
                .leaf (.bool false)))) (
            .leaf (.bool false)))) (
        .node (((logAdd ⟨me, none, none, none⟩ (cutX a)).1 == ((a.src : Int) != me)) == true) (
          .node (((b.src : Int) != me) == true) (
            .node (((a.src : Int) != b.src) == false) (
              .node ((((cutX a).nick : Str) == (cutX b).nick) == true) (
                .node (((logAdd (logAdd ⟨me, none, none, none⟩ (cutX a)).2 (cutX b)).1 == ((a.slot : Int) == b.slot)) == true) (
                  .ob (okClL (logAdd (logAdd ⟨me, none, none, none⟩ (cutX a)).2 (cutX b)).2 = true) (
                  .node ((logAdd (logAdd ⟨me, none, none, none⟩ (cutX a)).2 (cutX b)).2 : Gw.Log).clash.isSome (
                    .leaf (.bool ((decide (((((Option.getD ((logAdd (logAdd ⟨me, none, none, none⟩ (cutX a)).2 (cutX b)).2 : Gw.Log).clash []).length : Nat) : Int) : Int) > 0)) == false))) (
                    .leaf (.bool true)))) (
                  .leaf (.bool false))) (
                .node (((logAdd (logAdd ⟨me, none, none, none⟩ (cutX a)).2 (cutX b)).1 == false) == true) (
                  .ob (okClL (logAdd (logAdd ⟨me, none, none, none⟩ (cutX a)).2 (cutX b)).2 = true) (
                  .node ((logAdd (logAdd ⟨me, none, none, none⟩ (cutX a)).2 (cutX b)).2 : Gw.Log).clash.isSome (
                    .leaf (.bool ((decide (((((Option.getD ((logAdd (logAdd ⟨me, none, none, none⟩ (cutX a)).2 (cutX b)).2 : Gw.Log).clash []).length : Nat) : Int) : Int) > 0)) == false))) (
                    .leaf (.bool true)))) (
                  .leaf (.bool false)))) (
              .node (((logAdd (logAdd ⟨me, none, none, none⟩ (cutX a)).2 (cutX b)).1 == true) == true) (
                .ob (okClL (logAdd (logAdd ⟨me, none, none, none⟩ (cutX a)).2 (cutX b)).2 = true) (
                .node ((logAdd (logAdd ⟨me, none, none, none⟩ (cutX a)).2 (cutX b)).2 : Gw.Log).clash.isSome (
                  .leaf (.bool ((decide (((((Option.getD ((logAdd (logAdd ⟨me, none, none, none⟩ (cutX a)).2 (cutX b)).2 : Gw.Log).clash []).length : Nat) : Int) : Int) > 0)) == false))) (
                  .leaf (.bool true)))) (
                .leaf (.bool false)))) (
            .node (((logAdd (logAdd ⟨me, none, none, none⟩ (cutX a)).2 (cutX b)).1 == false) == true) (
              .ob (okClL (logAdd (logAdd ⟨me, none, none, none⟩ (cutX a)).2 (cutX b)).2 = true) (
              .node ((logAdd (logAdd ⟨me, none, none, none⟩ (cutX a)).2 (cutX b)).2 : Gw.Log).clash.isSome (
                .leaf (.bool ((decide (((((Option.getD ((logAdd (logAdd ⟨me, none, none, none⟩ (cutX a)).2 (cutX b)).2 : Gw.Log).clash []).length : Nat) : Int) : Int) > 0)) == false))) (
                .leaf (.bool true)))) (
              .leaf (.bool false)))) (
          .leaf (.bool false)))) (
      .node (((logAdd ⟨me, none, none, none⟩ (cutX a)).1 == ((a.src : Int) != me)) == true) (
        .node (((b.src : Int) != me) == true) (
          .node (((a.src : Int) != b.src) == false) (
            .node ((((cutX a).nick : Str) == (cutX b).nick) == true) (
              .node (((logAdd (logAdd ⟨me, none, none, none⟩ (cutX a)).2 (cutX b)).1 == ((a.slot : Int) == b.slot)) == true) (
                .ob (okClL (logAdd (logAdd ⟨me, none, none, none⟩ (cutX a)).2 (cutX b)).2 = true) (
                .node ((logAdd (logAdd ⟨me, none, none, none⟩ (cutX a)).2 (cutX b)).2 : Gw.Log).clash.isSome (
                  .leaf (.bool ((decide (((((Option.getD ((logAdd (logAdd ⟨me, none, none, none⟩ (cutX a)).2 (cutX b)).2 : Gw.Log).clash []).length : Nat) : Int) : Int) > 0)) == true))) (
                  .leaf (.bool false)))) (
                .leaf (.bool false))) (
              .node (((logAdd (logAdd ⟨me, none, none, none⟩ (cutX a)).2 (cutX b)).1 == false) == true) (
                .ob (okClL (logAdd (logAdd ⟨me, none, none, none⟩ (cutX a)).2 (cutX b)).2 = true) (
                .node ((logAdd (logAdd ⟨me, none, none, none⟩ (cutX a)).2 (cutX b)).2 : Gw.Log).clash.isSome (
                  .leaf (.bool ((decide (((((Option.getD ((logAdd (logAdd ⟨me, none, none, none⟩ (cutX a)).2 (cutX b)).2 : Gw.Log).clash []).length : Nat) : Int) : Int) > 0)) == true))) (
                  .leaf (.bool false)))) (
                .leaf (.bool false)))) (
            .node (((logAdd (logAdd ⟨me, none, none, none⟩ (cutX a)).2 (cutX b)).1 == true) == true) (
              .ob (okClL (logAdd (logAdd ⟨me, none, none, none⟩ (cutX a)).2 (cutX b)).2 = true) (
              .node ((logAdd (logAdd ⟨me, none, none, none⟩ (cutX a)).2 (cutX b)).2 : Gw.Log).clash.isSome (
                .leaf (.bool ((decide (((((Option.getD ((logAdd (logAdd ⟨me, none, none, none⟩ (cutX a)).2 (cutX b)).2 : Gw.Log).clash []).length : Nat) : Int) : Int) > 0)) == true))) (
                .leaf (.bool false)))) (
              .leaf (.bool false)))) (
          .node (((logAdd (logAdd ⟨me, none, none, none⟩ (cutX a)).2 (cutX b)).1 == false) == true) (
            .ob (okClL (logAdd (logAdd ⟨me, none, none, none⟩ (cutX a)).2 (cutX b)).2 = true) (
            .node ((logAdd (logAdd ⟨me, none, none, none⟩ (cutX a)).2 (cutX b)).2 : Gw.Log).clash.isSome (
              .leaf (.bool ((decide (((((Option.getD ((logAdd (logAdd ⟨me, none, none, none⟩ (cutX a)).2 (cutX b)).2 : Gw.Log).clash []).length : Nat) : Int) : Int) > 0)) == true))) (
              .leaf (.bool false)))) (
            .leaf (.bool false)))) (
        .leaf (.bool false)))))))))))
set_option maxRecDepth 1000000 in
theorem treeLC_eq (a : Gw.Xid) (b : Gw.Xid) (me : Int) : funT (mkXT pxL oxL) (mkXP pxL) (mkX pxL oxL) D (fun _ => noOrc) (fun k => match k with | 6 => [12] | _ => []) 12 noOrc [12] noLt (dOf 6) [.agg a.vs, .agg b.vs, .int .u32 me] (tabH kT0 kT1 kT2 3) (fun v _ => v) = treeLC a b me := by kernel_rfl
end Go.Proofs.YtjnhaaolbcmdbaaGreatDoor

/- What is proved: glowwormlaw16.LogClash returns true, whatever it is given, and turns nothing that was there, in every world that holds the three laid tables; conditions: none beyond those of its card. -/
namespace Go.Proofs.YtjnhaaolbcmdbaaGreatDoor
open Go Gw Go.RowKit
set_option linter.unusedSimpArgs false
set_option linter.unusedVariables false

theorem satLC (a b : Gw.Xid) (me : Int) : (treeLC a b me).sat fun r => r = .bool true := by
  unfold treeLC
  have ta := text25 a.nick
  have tb := text25 b.nick
  have ea : (cutX a).src = a.src := rfl
  have eb : (cutX b).src = b.src := rfl
  have sa : (cutX a).slot = a.slot := rfl
  have sb : (cutX b).slot = b.slot := rfl
  generalize cutX a = a' at *
  generalize cutX b = b' at *
  cases ma : mayXid a' with
  | false => simp [DT.sat, ma, ta, tb, V.beq, V.beqs]
  | true =>
  cases mb : mayXid b' with
  | false => simp [DT.sat, ma, mb, ta, tb, V.beq, V.beqs]
  | true =>
  by_cases h1 : a.src = me
  · have l1 : logAdd ⟨me, none, none, none⟩ a' = (false, ⟨me, none, none, some [me]⟩) := by simp [logAdd, ma, ea, h1, clashAdd]
    by_cases h2 : b.src = me
    · have l2 : logAdd ⟨me, none, none, some [me]⟩ b' = (false, ⟨me, none, none, some [me]⟩) := by simp [logAdd, mb, eb, h1, h2, clashAdd]
      simp only [l1, l2]
      simp [DT.sat, ma, mb, ta, tb, V.beq, V.beqs, h1, h2, okLogL, okClL]
    · have l2 : logAdd ⟨me, none, none, some [me]⟩ b' = (true, ⟨me, some [⟨b.src, b'.nick⟩], some [b.slot], some [me]⟩) := by simp [logAdd, mb, eb, sb, h2, logFind]
      have h3 : ¬ me = b.src := fun e => h2 e.symm
      simp only [l1, l2]
      simp [DT.sat, ma, mb, ta, tb, V.beq, V.beqs, h1, h2, h3, okLogL, okClL]
  · have l1 : logAdd ⟨me, none, none, none⟩ a' = (true, ⟨me, some [⟨a.src, a'.nick⟩], some [a.slot], none⟩) := by simp [logAdd, ma, ea, sa, h1, logFind]
    by_cases h2 : b.src = me
    · have l2 : logAdd ⟨me, some [⟨a.src, a'.nick⟩], some [a.slot], none⟩ b' = (false, ⟨me, some [⟨a.src, a'.nick⟩], some [a.slot], some [b.src]⟩) := by simp [logAdd, mb, eb, h2, clashAdd]
      have h3 : ¬ a.src = b.src := fun e => h1 (e.trans h2)
      simp only [l1, l2]
      simp [DT.sat, ma, mb, ta, tb, V.beq, V.beqs, h1, h2, h3, okLogL, okClL]
    · by_cases h3 : a.src = b.src
      · by_cases h4 : a'.nick = b'.nick ∧ a.slot = b.slot
        · obtain ⟨h4, h5⟩ := h4
          have l2 : logAdd ⟨me, some [⟨a.src, a'.nick⟩], some [a.slot], none⟩ b' = (true, ⟨me, some [⟨a.src, a'.nick⟩], some [a.slot], none⟩) := by simp [logAdd, mb, eb, sb, h2, h3, h4, h5, logFind]
          simp only [l1, l2]
          simp [DT.sat, ma, mb, ta, tb, V.beq, V.beqs, h1, h2, h3, h4, h5, okLogL, okClL]
        · have l2 : logAdd ⟨me, some [⟨a.src, a'.nick⟩], some [a.slot], none⟩ b' = (false, ⟨me, some [⟨a.src, a'.nick⟩], some [a.slot], some [b.src]⟩) := by
            have hf : logFind b' [⟨a.src, a'.nick⟩] [a.slot] = some false := by
              simp only [logFind, eb, sb, if_pos h3]
              by_cases q : a'.nick = b'.nick
              · have : ¬ a.slot = b.slot := fun e => h4 ⟨q, e⟩
                simp [q, this]
              · simp [q]
            simp [logAdd, mb, eb, h2, hf, clashAdd]
          by_cases h5 : a'.nick = b'.nick
          · have h6 : ¬ a.slot = b.slot := fun e => h4 ⟨h5, e⟩
            simp only [l1, l2]
            simp [DT.sat, ma, mb, ta, tb, V.beq, V.beqs, h1, h2, h3, h5, h6, okLogL, okClL]
          · simp only [l1, l2]
            simp [DT.sat, ma, mb, ta, tb, V.beq, V.beqs, h1, h2, h3, h5, okLogL, okClL]
      · have l2 : logAdd ⟨me, some [⟨a.src, a'.nick⟩], some [a.slot], none⟩ b' = (true, ⟨me, some [⟨a.src, a'.nick⟩, ⟨b.src, b'.nick⟩], some [a.slot, b.slot], none⟩) := by simp [logAdd, mb, eb, sb, h2, h3, logFind]
        simp only [l1, l2]
        simp [DT.sat, ma, mb, ta, tb, V.beq, V.beqs, h1, h2, h3, okLogL, okClL]
end Go.Proofs.YtjnhaaolbcmdbaaGreatDoor

namespace Go.Proofs.YtjnhaaolbcmdbaaGreatDoor.logClash
open Go Gw Go.RowKit Go.ChangeShapes Go.WideShapes Go.ChangeAt
set_option maxRecDepth 1000000
theorem walk {W : World} (T : Tabs W kT0 kT1 kT2) (a b : Gw.Xid) (me : Int) : Calls Tryz.prog 6 #[.agg (gXid a).toArray, .agg (gXid b).toArray, .int .u32 me] W fun e W' => e = .returned (.bool true) ∧ Below W.heap.size W W' := by
  obtain ⟨ρ, hG, _, hH, _⟩ := HR.tabs T (fun k => k < W.heap.size) (fun _ h => h) 3 (Nat.le_refl _)
  have hr := (run_plainU mixed tabL tabD (dIs (by kernel_rfl)) (treeLC_eq a b me) (Q := fun r => r = .bool true) (satLC a b me)).2 (fun k => k < W.heap.size) ρ [.agg (gXid a).toArray, .agg (gXid b).toArray, .int .u32 me] W hG (VRs.cons (xid_VR ρ a) (VRs.cons (xid_VR ρ b) (VRs.cons (by simp only [VR]) (by simp [VRs])))) hH
  refine hr.mono fun e w' ⟨x, r, h', ρ2, h1, h2, _, h4, _, h6⟩ => ⟨?_, h6.below⟩
  subst h1 h2
  simp only [VR] at h4
  rw [h4]

theorem params : Tryz.f6.params = #[32, 32, 22] := by kernel_rfl
theorem contract (H : Type) (enc : TypeId × Value → H) (W : World) (base : Nat) (args : Array Value) (ds gs : List (DataW H)) (before : List MemPlace)
    (hval : ∀ (j : Nat) t v, Tryz.f6.params[j]? = some t → args[j]? = some v → Value.okWide Tryz.prog W .any base t v)
    (hW : DataW.Whole enc Tryz.prog Tryz.f6.params.toList Rows.logClashSpec.vars false W args.toList ds gs before) (hL : laidMetH Tryz.prog Rows.logClashRow.laid W) :
    Calls Tryz.prog 6 args W fun e W' => ∃ v, e = .returned v ∧ Rows.logClashSpec.post enc Tryz.prog Tryz.f6 false true false false W args v W' := by
  have hW' := hW
  obtain ⟨p, q, hA, _⟩ := hW
  rw [params] at hA hval
  obtain ⟨v0, vs0, d0, ds0, p0, q0, e0, _, _, h0, r0⟩ := trodAll_cons hA
  obtain ⟨v1, vs1, d1, ds1, p1, q1, e1, _, _, h1, r1⟩ := trodAll_cons r0
  obtain ⟨v2, vs2, d2, ds2, p2, q2, e2, _, _, h2, r2⟩ := trodAll_cons r1
  obtain ⟨z, _, _⟩ := trodAll_nil r2
  obtain rfl : args = #[v0, v1, v2] := by cases args; simp_all
  have go : Calls Tryz.prog 6 #[v0, v1, v2] W fun e W' => e = .returned (.bool true) ∧ Below W.heap.size W W' := by
    obtain ⟨a, rfl⟩ := xid_arg (hval 0 32 v0 rfl rfl) h0
    obtain ⟨b, rfl⟩ := xid_arg (hval 1 32 v1 rfl rfl) h1
    obtain ⟨me, rfl, _⟩ := int_arg (show Tryz.prog.underlying 22 = some (.int .u32) by kernel_rfl) (hval 2 22 v2 rfl rfl) h2
    exact walk (tabs hL) a b me
  refine go.mono fun e W' ⟨he, hB⟩ => ⟨_, he, ?_⟩
  refine post_true laidOut (by kernel_rfl) rfl (tb := 4) rfl u4 (fun ds hd => ?_) hW' hB
  rw [params] at hd
  match ds, hd with
  | [a0, a1, a2], _ => exact ⟨rfl, rfl, rfl⟩

noncomputable def wArgs : Array Value := #[.agg #[.int .u32 0, .int .u32 0, .int .i64 0, .int .i64 0, .bool false, .string ⟨#[]⟩], .agg #[.int .u32 0, .int .u32 0, .int .i64 0, .int .i64 0, .bool false, .string ⟨#[]⟩], .int .u32 0]
theorem reads (os : Os) {H : Type} (enc : TypeId × Value → H) : ∃ places, DataW.whole enc Tryz.prog ((laidWorld os).forCall (fun _ _ => 0) ⟨#[], wArgs, []⟩).memory Tryz.f6.params.toList Rows.logClashSpec.vars false wArgs.toList 8 = some ([.agg [.lit (.int .u32 0), .lit (.int .u32 0), .lit (.int .i64 0), .lit (.int .i64 0), .lit (.bool false), .lit (.string [])], .agg [.lit (.int .u32 0), .lit (.int .u32 0), .lit (.int .i64 0), .lit (.int .i64 0), .lit (.bool false), .lit (.string [])], .lit (.int .u32 0)], [], places) :=
  ⟨[], by kernel_rfl⟩

theorem lifted (os : Os) (started : os.Started) (H : Type) (enc : TypeId × Value → H) (F : Stop.Interp) :
    ReturnsInHanded {} Tryz.checked os 6 .any ((OpenSpec.ofChange Rows.logClashSpec).preRow enc Tryz.prog Tryz.f6 Rows.logClashRow.domain false Rows.logClashRow.laid) (((OpenSpec.ofChange Rows.logClashSpec).at F).post enc Tryz.prog Tryz.f6 false true false false) := by
  obtain ⟨places, hx⟩ := reads os enc
  refine returnsInHanded_of_row (C := Tryz.checked) (s := OpenSpec.ofChange Rows.logClashSpec) own started (by kernel_rfl) Tryz.func6
    (witness_row_at (enc := enc) (C := Tryz.checked) false (laidWorld os) wArgs rfl (by kernel_rfl) (by kernel_rfl) (by kernel_rfl)
      (OpenSpec.preRow_of_cond 8 hx (by kernel_rfl) (fun k hk => by cases hk) (by kernel_rfl) (laid_met os _))) ?_
  intro W base args ds gs before hval hW _ _ _ hL _ _
  exact contract H enc W base args ds gs before hval hW hL

theorem said : Rows.LogClashSaid :=
  OpenClaim.holds_of_cond 6 Tryz.f6 rfl rfl rfl rfl rfl rfl rfl ⟨rfl, rfl, rfl, rfl, rfl⟩ rfl rfl rfl rfl rfl (by kernel_rfl) Tryz.func6 (by kernel_rfl)
    (of_decide_eq_true (by kernel_rfl)) (by unfold Func.isWrapper; first | (rw [if_pos (by decide +kernel)]; kernel_rfl) | (rw [if_neg (by decide +kernel)]; exact ⟨rfl, rfl⟩))
    (fun os started H enc _ F => by rw [OpenClaim.pre_eq_preRow]; exact lifted os started H enc F)

theorem plain (f : FuncId) (fn : Func) (hf : Tryz.pinned.checked.prog.funcNamed "glowworm/glowwormlaw16.LogClash" = some f) (hfn : Tryz.pinned.checked.prog.funcs[f]? = some fn) :
    true = Tryz.pinned.checked.prog.looks [] ∧ ∀ (j : Nat) t, fn.params[j]? = some t → Tryz.pinned.checked.prog.wantsStandIn t = false := by
  obtain rfl : f = 6 := Option.some.inj ((show Tryz.prog.funcNamed "glowworm/glowwormlaw16.LogClash" = some 6 by kernel_rfl).symm.trans hf) |>.symm
  obtain rfl : fn = Tryz.f6 := (Option.some.inj (Tryz.func6.symm.trans hfn)).symm
  refine ⟨by kernel_rfl, fun j t ht => ?_⟩
  have hall : Tryz.f6.params.toList.all (fun t => Tryz.prog.wantsStandIn t == false) = true := by kernel_rfl
  have hm : t ∈ Tryz.f6.params.toList := by
    have := Array.mem_of_getElem? ht
    simpa using this
  have := List.all_eq_true.1 hall t hm
  have h2 : Tryz.prog.wantsStandIn t = false := by simpa using this
  exact h2

theorem card : Rows.LogClashCardSaid :=
  Claim7.holds_tied_plain_at .later [] _ _ _ _ said (fun _ h => by cases h) (by kernel_rfl) (fun _ h => by cases h) logClash_row_tie rfl ⟨rfl, rfl⟩ (by kernel_rfl) rfl plain (by kernel_rfl)
end Go.Proofs.YtjnhaaolbcmdbaaGreatDoor.logClash
