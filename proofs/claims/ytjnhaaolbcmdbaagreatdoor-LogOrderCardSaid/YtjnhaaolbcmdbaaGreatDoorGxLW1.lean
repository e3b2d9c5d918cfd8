/- A log of twelve: one is added. -/
import Derived.Test.YtjnhaaolbcmdbaaGreatDoorGxL
namespace Go.Proofs.YtjnhaaolbcmdbaaGreatDoor
open Go Gw Go.RowKit
set_option linter.unusedSimpArgs false
set_option linter.unusedVariables false
def treeAdd2_0 (me : Int) (d0 d1 : Gw.Device) (s0 s1 : Int) (x : Gw.Xid) : DT (V × Option Gw.Log) :=
  .node (!(mayXid ⟨x.src, x.dst, x.slot, x.slots, x.anew, x.nick⟩)) (
    .leaf (.bool false, some (⟨me, some [⟨d0.id, d0.nick⟩, ⟨d1.id, d1.nick⟩], some [s0, s1], none⟩ : Gw.Log))) (
    .ob (2 = 2 ∧ 0 ≤ (0 : Int) ∧ (0 : Int) < ((2 : Nat) : Int)) (
    .node ((d0.id : Int) == x.src) (
      .node ((x.src : Int) == me) (
        .ob ((1 = 1 ∧ ([.int .u32 x.src] : List V).length = 1 * 1) ∧ allOne [.int .u32 x.src] = true ∧ 1 * 4 ≤ 70368744177664) (
        .ob (0 ≤ (1 : Int) ∧ (1 : Int) < (((tab256 : Str).length : Nat) : Int)) (
        .leaf (.bool false, some (⟨me, some [⟨d0.id, d0.nick⟩, ⟨d1.id, d1.nick⟩], some [s0, s1], some [x.src]⟩ : Gw.Log))))) (
        .ob (2 = 2 ∧ 0 ≤ (0 : Int) ∧ (0 : Int) < ((2 : Nat) : Int)) (
        .node ((!((d0.nick : Str) == x.nick)) == false) (
          .ob (1 = 1 ∧ 0 ≤ (0 : Int) ∧ (0 : Int) < ((2 : Nat) : Int)) (
          .node ((s0 : Int) != x.slot) (
            .ob ((1 = 1 ∧ ([.int .u32 x.src] : List V).length = 1 * 1) ∧ allOne [.int .u32 x.src] = true ∧ 1 * 4 ≤ 70368744177664) (
            .ob (0 ≤ (1 : Int) ∧ (1 : Int) < (((tab256 : Str).length : Nat) : Int)) (
            .leaf (.bool false, some (⟨me, some [⟨d0.id, d0.nick⟩, ⟨d1.id, d1.nick⟩], some [s0, s1], some [x.src]⟩ : Gw.Log))))) (
            .leaf (.bool true, some (⟨me, some [⟨d0.id, d0.nick⟩, ⟨d1.id, d1.nick⟩], some [s0, s1], none⟩ : Gw.Log))))) (
          .ob ((1 = 1 ∧ ([.int .u32 x.src] : List V).length = 1 * 1) ∧ allOne [.int .u32 x.src] = true ∧ 1 * 4 ≤ 70368744177664) (
          .ob (0 ≤ (1 : Int) ∧ (1 : Int) < (((tab256 : Str).length : Nat) : Int)) (
          .leaf (.bool false, some (⟨me, some [⟨d0.id, d0.nick⟩, ⟨d1.id, d1.nick⟩], some [s0, s1], some [x.src]⟩ : Gw.Log)))))))) (
      .ob (2 = 2 ∧ 0 ≤ (1 : Int) ∧ (1 : Int) < ((2 : Nat) : Int)) (
      .node ((d1.id : Int) == x.src) (
        .node ((x.src : Int) == me) (
          .ob ((1 = 1 ∧ ([.int .u32 x.src] : List V).length = 1 * 1) ∧ allOne [.int .u32 x.src] = true ∧ 1 * 4 ≤ 70368744177664) (
          .ob (0 ≤ (1 : Int) ∧ (1 : Int) < (((tab256 : Str).length : Nat) : Int)) (
          .leaf (.bool false, some (⟨me, some [⟨d0.id, d0.nick⟩, ⟨d1.id, d1.nick⟩], some [s0, s1], some [x.src]⟩ : Gw.Log))))) (
          .ob (2 = 2 ∧ 0 ≤ (1 : Int) ∧ (1 : Int) < ((2 : Nat) : Int)) (
          .node ((!((d1.nick : Str) == x.nick)) == false) (
            .ob (1 = 1 ∧ 0 ≤ (1 : Int) ∧ (1 : Int) < ((2 : Nat) : Int)) (
            .node ((s1 : Int) != x.slot) (
              .ob ((1 = 1 ∧ ([.int .u32 x.src] : List V).length = 1 * 1) ∧ allOne [.int .u32 x.src] = true ∧ 1 * 4 ≤ 70368744177664) (
              .ob (0 ≤ (1 : Int) ∧ (1 : Int) < (((tab256 : Str).length : Nat) : Int)) (
              .leaf (.bool false, some (⟨me, some [⟨d0.id, d0.nick⟩, ⟨d1.id, d1.nick⟩], some [s0, s1], some [x.src]⟩ : Gw.Log))))) (
              .leaf (.bool true, some (⟨me, some [⟨d0.id, d0.nick⟩, ⟨d1.id, d1.nick⟩], some [s0, s1], none⟩ : Gw.Log))))) (
            .ob ((1 = 1 ∧ ([.int .u32 x.src] : List V).length = 1 * 1) ∧ allOne [.int .u32 x.src] = true ∧ 1 * 4 ≤ 70368744177664) (
            .ob (0 ≤ (1 : Int) ∧ (1 : Int) < (((tab256 : Str).length : Nat) : Int)) (
            .leaf (.bool false, some (⟨me, some [⟨d0.id, d0.nick⟩, ⟨d1.id, d1.nick⟩], some [s0, s1], some [x.src]⟩ : Gw.Log)))))))) (
        .node ((x.src : Int) == me) (
          .ob ((1 = 1 ∧ ([.int .u32 x.src] : List V).length = 1 * 1) ∧ allOne [.int .u32 x.src] = true ∧ 1 * 4 ≤ 70368744177664) (
          .ob (0 ≤ (1 : Int) ∧ (1 : Int) < (((tab256 : Str).length : Nat) : Int)) (
          .leaf (.bool false, some (⟨me, some [⟨d0.id, d0.nick⟩, ⟨d1.id, d1.nick⟩], some [s0, s1], some [x.src]⟩ : Gw.Log))))) (
          .ob ((2 = 2 ∧ ([.int .u32 x.src, .str x.nick] : List V).length = 1 * 2) ∧ allOne [.int .u32 x.src, .str x.nick] = true ∧ 2 = 2 ∧ 3 * 24 ≤ 70368744177664 ∧ ([.int .u32 d0.id, .str d0.nick, .int .u32 d1.id, .str d1.nick] : List V).length = 2 * 2) (
          .ob ((1 = 1 ∧ ([.int .i64 x.slot] : List V).length = 1 * 1) ∧ allOne [.int .i64 x.slot] = true ∧ 1 = 1 ∧ 3 * 8 ≤ 70368744177664 ∧ ([.int .i64 s0, .int .i64 s1] : List V).length = 2 * 1) (
          .leaf (.bool true, some (⟨me, some [⟨d0.id, d0.nick⟩, ⟨d1.id, d1.nick⟩, ⟨x.src, x.nick⟩], some [s0, s1, x.slot], none⟩ : Gw.Log))))))))))
set_option maxRecDepth 1000000 in
theorem treeAdd2_0_eq (me : Int) (d0 d1 : Gw.Device) (s0 s1 : Int) (x : Gw.Xid) : funT (mkXT pxM noOX) (mkXP pxM) (mkX pxM noOX) D (fun _ => noOrc) (fun k => match k with | 37 => [28, 57, 60, 67] | 62 => [9] | 76 => [8] | 91 => [23] | 108 => [12] | 118 => [4, 8, 14] | _ => []) 12 noOrc [28, 57, 60, 67] noLt (dOf 37) [.ptr 3 0, .agg x.vs] (((openAt (smallH [.o 0 (.log ⟨me, some [d0, d1], some [s0, s1], none⟩)]) 3 (.log ⟨me, some [d0, d1], some [s0, s1], none⟩)).put 4 (some (.cells false ([d0, d1].flatMap Gw.Device.vs)))).put 5 (some (.cells false ([s0, s1].map (V.int .i64))))) (fun v h => (v, readLog h 3)) = treeAdd2_0 me d0 d1 s0 s1 x := by kernel_rfl
set_option maxHeartbeats 4000000 in
theorem satAdd2_0 (me : Int) (d0 d1 : Gw.Device) (s0 s1 : Int) (x : Gw.Xid) : (treeAdd2_0 me d0 d1 s0 s1 x).sat fun p => p = (.bool (logAdd ⟨me, some [d0, d1], some [s0, s1], none⟩ x).1, some (logAdd ⟨me, some [d0, d1], some [s0, s1], none⟩ x).2) := by
  obtain ⟨a0, b0⟩ := d0
  obtain ⟨a1, b1⟩ := d1
  unfold treeAdd2_0
  cases hm : mayXid x with
  | false => simp [DT.sat, logAdd, logFind, clashAdd, mayXid_eta, len_tab256, allOne, V.one, hm]
  | true =>
  by_cases h0 : a0 = x.src
  · subst h0
    by_cases hs : x.src = me
    · subst hs; simp [DT.sat, logAdd, logFind, clashAdd, mayXid_eta, len_tab256, allOne, V.one, hm]
    · by_cases hn : b0 = x.nick
      · subst hn
        by_cases hl : s0 = x.slot
        · subst hl; simp [DT.sat, logAdd, logFind, clashAdd, mayXid_eta, len_tab256, allOne, V.one, hm, hs]
        · have hl' : (s0 == x.slot) = false := by simpa using hl
          simp [DT.sat, logAdd, logFind, clashAdd, mayXid_eta, len_tab256, allOne, V.one, hm, hs, hl, hl']
      · have hn' : (b0 == x.nick) = false := by simpa using hn
        simp [DT.sat, logAdd, logFind, clashAdd, mayXid_eta, len_tab256, allOne, V.one, hm, hs, hn, hn']
  by_cases h1 : a1 = x.src
  · subst h1
    by_cases hs : x.src = me
    · subst hs; simp [DT.sat, logAdd, logFind, clashAdd, mayXid_eta, len_tab256, allOne, V.one, hm, h0]
    · by_cases hn : b1 = x.nick
      · subst hn
        by_cases hl : s1 = x.slot
        · subst hl; simp [DT.sat, logAdd, logFind, clashAdd, mayXid_eta, len_tab256, allOne, V.one, hm, hs, h0]
        · have hl' : (s1 == x.slot) = false := by simpa using hl
          simp [DT.sat, logAdd, logFind, clashAdd, mayXid_eta, len_tab256, allOne, V.one, hm, hs, hl, hl', h0]
      · have hn' : (b1 == x.nick) = false := by simpa using hn
        simp [DT.sat, logAdd, logFind, clashAdd, mayXid_eta, len_tab256, allOne, V.one, hm, hs, hn, hn', h0]
  by_cases hs : x.src = me
  · subst hs; simp [DT.sat, logAdd, logFind, clashAdd, mayXid_eta, len_tab256, allOne, V.one, hm, h0, h1]
  · simp [DT.sat, logAdd, logFind, clashAdd, mayXid_eta, len_tab256, allOne, V.one, hm, hs, h0, h1]
theorem runAdd2_0 (me : Int) (d0 d1 : Gw.Device) (s0 s1 : Int) (x : Gw.Xid) : Run Tryz.prog 37 [.ptr 3 0, .agg x.vs] (((openAt (smallH [.o 0 (.log ⟨me, some [d0, d1], some [s0, s1], none⟩)]) 3 (.log ⟨me, some [d0, d1], some [s0, s1], none⟩)).put 4 (some (.cells false ([d0, d1].flatMap Gw.Device.vs)))).put 5 (some (.cells false ([s0, s1].map (V.int .i64))))) fun r h => Gw.Ends [.o 0 (.log ⟨me, some [d0, d1], some [s0, s1], none⟩)] [.log (logAdd ⟨me, some [d0, d1], some [s0, s1], none⟩ x).2] [] [.f (.bool (logAdd ⟨me, some [d0, d1], some [s0, s1], none⟩ x).1)] r h :=
  runMono (run_plainU mixed tabM tabD (dIs (by kernel_rfl)) (treeAdd2_0_eq me d0 d1 s0 s1 x) (satAdd2_0 me d0 d1 s0 s1 x)) fun r h hq => by
    simp only [Prod.mk.injEq] at hq
    obtain ⟨rfl, hr⟩ := hq
    obtain ⟨ws, ids, h1, h2, h3, h4⟩ := readLog_ok hr
    exact ends_o h1 h2 h3 h4
def treeAdd3_0 (me : Int) (d0 d1 d2 : Gw.Device) (s0 s1 s2 : Int) (x : Gw.Xid) : DT (V × Option Gw.Log) :=
  .node (!(mayXid ⟨x.src, x.dst, x.slot, x.slots, x.anew, x.nick⟩)) (
    .leaf (.bool false, some (⟨me, some [⟨d0.id, d0.nick⟩, ⟨d1.id, d1.nick⟩, ⟨d2.id, d2.nick⟩], some [s0, s1, s2], none⟩ : Gw.Log))) (
    .ob (2 = 2 ∧ 0 ≤ (0 : Int) ∧ (0 : Int) < ((3 : Nat) : Int)) (
    .node ((d0.id : Int) == x.src) (
      .node ((x.src : Int) == me) (
        .ob ((1 = 1 ∧ ([.int .u32 x.src] : List V).length = 1 * 1) ∧ allOne [.int .u32 x.src] = true ∧ 1 * 4 ≤ 70368744177664) (
        .ob (0 ≤ (1 : Int) ∧ (1 : Int) < (((tab256 : Str).length : Nat) : Int)) (
        .leaf (.bool false, some (⟨me, some [⟨d0.id, d0.nick⟩, ⟨d1.id, d1.nick⟩, ⟨d2.id, d2.nick⟩], some [s0, s1, s2], some [x.src]⟩ : Gw.Log))))) (
        .ob (2 = 2 ∧ 0 ≤ (0 : Int) ∧ (0 : Int) < ((3 : Nat) : Int)) (
        .node ((!((d0.nick : Str) == x.nick)) == false) (
          .ob (1 = 1 ∧ 0 ≤ (0 : Int) ∧ (0 : Int) < ((3 : Nat) : Int)) (
          .node ((s0 : Int) != x.slot) (
            .ob ((1 = 1 ∧ ([.int .u32 x.src] : List V).length = 1 * 1) ∧ allOne [.int .u32 x.src] = true ∧ 1 * 4 ≤ 70368744177664) (
            .ob (0 ≤ (1 : Int) ∧ (1 : Int) < (((tab256 : Str).length : Nat) : Int)) (
            .leaf (.bool false, some (⟨me, some [⟨d0.id, d0.nick⟩, ⟨d1.id, d1.nick⟩, ⟨d2.id, d2.nick⟩], some [s0, s1, s2], some [x.src]⟩ : Gw.Log))))) (
            .leaf (.bool true, some (⟨me, some [⟨d0.id, d0.nick⟩, ⟨d1.id, d1.nick⟩, ⟨d2.id, d2.nick⟩], some [s0, s1, s2], none⟩ : Gw.Log))))) (
          .ob ((1 = 1 ∧ ([.int .u32 x.src] : List V).length = 1 * 1) ∧ allOne [.int .u32 x.src] = true ∧ 1 * 4 ≤ 70368744177664) (
          .ob (0 ≤ (1 : Int) ∧ (1 : Int) < (((tab256 : Str).length : Nat) : Int)) (
          .leaf (.bool false, some (⟨me, some [⟨d0.id, d0.nick⟩, ⟨d1.id, d1.nick⟩, ⟨d2.id, d2.nick⟩], some [s0, s1, s2], some [x.src]⟩ : Gw.Log)))))))) (
      .ob (2 = 2 ∧ 0 ≤ (1 : Int) ∧ (1 : Int) < ((3 : Nat) : Int)) (
      .node ((d1.id : Int) == x.src) (
        .node ((x.src : Int) == me) (
          .ob ((1 = 1 ∧ ([.int .u32 x.src] : List V).length = 1 * 1) ∧ allOne [.int .u32 x.src] = true ∧ 1 * 4 ≤ 70368744177664) (
          .ob (0 ≤ (1 : Int) ∧ (1 : Int) < (((tab256 : Str).length : Nat) : Int)) (
          .leaf (.bool false, some (⟨me, some [⟨d0.id, d0.nick⟩, ⟨d1.id, d1.nick⟩, ⟨d2.id, d2.nick⟩], some [s0, s1, s2], some [x.src]⟩ : Gw.Log))))) (
          .ob (2 = 2 ∧ 0 ≤ (1 : Int) ∧ (1 : Int) < ((3 : Nat) : Int)) (
          .node ((!((d1.nick : Str) == x.nick)) == false) (
            .ob (1 = 1 ∧ 0 ≤ (1 : Int) ∧ (1 : Int) < ((3 : Nat) : Int)) (
            .node ((s1 : Int) != x.slot) (
              .ob ((1 = 1 ∧ ([.int .u32 x.src] : List V).length = 1 * 1) ∧ allOne [.int .u32 x.src] = true ∧ 1 * 4 ≤ 70368744177664) (
              .ob (0 ≤ (1 : Int) ∧ (1 : Int) < (((tab256 : Str).length : Nat) : Int)) (
              .leaf (.bool false, some (⟨me, some [⟨d0.id, d0.nick⟩, ⟨d1.id, d1.nick⟩, ⟨d2.id, d2.nick⟩], some [s0, s1, s2], some [x.src]⟩ : Gw.Log))))) (
              .leaf (.bool true, some (⟨me, some [⟨d0.id, d0.nick⟩, ⟨d1.id, d1.nick⟩, ⟨d2.id, d2.nick⟩], some [s0, s1, s2], none⟩ : Gw.Log))))) (
            .ob ((1 = 1 ∧ ([.int .u32 x.src] : List V).length = 1 * 1) ∧ allOne [.int .u32 x.src] = true ∧ 1 * 4 ≤ 70368744177664) (
            .ob (0 ≤ (1 : Int) ∧ (1 : Int) < (((tab256 : Str).length : Nat) : Int)) (
            .leaf (.bool false, some (⟨me, some [⟨d0.id, d0.nick⟩, ⟨d1.id, d1.nick⟩, ⟨d2.id, d2.nick⟩], some [s0, s1, s2], some [x.src]⟩ : Gw.Log)))))))) (
        .ob (2 = 2 ∧ 0 ≤ (2 : Int) ∧ (2 : Int) < ((3 : Nat) : Int)) (
        .node ((d2.id : Int) == x.src) (
          .node ((x.src : Int) == me) (
            .ob ((1 = 1 ∧ ([.int .u32 x.src] : List V).length = 1 * 1) ∧ allOne [.int .u32 x.src] = true ∧ 1 * 4 ≤ 70368744177664) (
            .ob (0 ≤ (1 : Int) ∧ (1 : Int) < (((tab256 : Str).length : Nat) : Int)) (
            .leaf (.bool false, some (⟨me, some [⟨d0.id, d0.nick⟩, ⟨d1.id, d1.nick⟩, ⟨d2.id, d2.nick⟩], some [s0, s1, s2], some [x.src]⟩ : Gw.Log))))) (
            .ob (2 = 2 ∧ 0 ≤ (2 : Int) ∧ (2 : Int) < ((3 : Nat) : Int)) (
            .node ((!((d2.nick : Str) == x.nick)) == false) (
              .ob (1 = 1 ∧ 0 ≤ (2 : Int) ∧ (2 : Int) < ((3 : Nat) : Int)) (
              .node ((s2 : Int) != x.slot) (
                .ob ((1 = 1 ∧ ([.int .u32 x.src] : List V).length = 1 * 1) ∧ allOne [.int .u32 x.src] = true ∧ 1 * 4 ≤ 70368744177664) (
                .ob (0 ≤ (1 : Int) ∧ (1 : Int) < (((tab256 : Str).length : Nat) : Int)) (
                .leaf (.bool false, some (⟨me, some [⟨d0.id, d0.nick⟩, ⟨d1.id, d1.nick⟩, ⟨d2.id, d2.nick⟩], some [s0, s1, s2], some [x.src]⟩ : Gw.Log))))) (
                .leaf (.bool true, some (⟨me, some [⟨d0.id, d0.nick⟩, ⟨d1.id, d1.nick⟩, ⟨d2.id, d2.nick⟩], some [s0, s1, s2], none⟩ : Gw.Log))))) (
              .ob ((1 = 1 ∧ ([.int .u32 x.src] : List V).length = 1 * 1) ∧ allOne [.int .u32 x.src] = true ∧ 1 * 4 ≤ 70368744177664) (
              .ob (0 ≤ (1 : Int) ∧ (1 : Int) < (((tab256 : Str).length : Nat) : Int)) (
              .leaf (.bool false, some (⟨me, some [⟨d0.id, d0.nick⟩, ⟨d1.id, d1.nick⟩, ⟨d2.id, d2.nick⟩], some [s0, s1, s2], some [x.src]⟩ : Gw.Log)))))))) (
          .node ((x.src : Int) == me) (
            .ob ((1 = 1 ∧ ([.int .u32 x.src] : List V).length = 1 * 1) ∧ allOne [.int .u32 x.src] = true ∧ 1 * 4 ≤ 70368744177664) (
            .ob (0 ≤ (1 : Int) ∧ (1 : Int) < (((tab256 : Str).length : Nat) : Int)) (
            .leaf (.bool false, some (⟨me, some [⟨d0.id, d0.nick⟩, ⟨d1.id, d1.nick⟩, ⟨d2.id, d2.nick⟩], some [s0, s1, s2], some [x.src]⟩ : Gw.Log))))) (
            .ob ((2 = 2 ∧ ([.int .u32 x.src, .str x.nick] : List V).length = 1 * 2) ∧ allOne [.int .u32 x.src, .str x.nick] = true ∧ 2 = 2 ∧ 4 * 24 ≤ 70368744177664 ∧ ([.int .u32 d0.id, .str d0.nick, .int .u32 d1.id, .str d1.nick, .int .u32 d2.id, .str d2.nick] : List V).length = 3 * 2) (
            .ob ((1 = 1 ∧ ([.int .i64 x.slot] : List V).length = 1 * 1) ∧ allOne [.int .i64 x.slot] = true ∧ 1 = 1 ∧ 4 * 8 ≤ 70368744177664 ∧ ([.int .i64 s0, .int .i64 s1, .int .i64 s2] : List V).length = 3 * 1) (
            .leaf (.bool true, some (⟨me, some [⟨d0.id, d0.nick⟩, ⟨d1.id, d1.nick⟩, ⟨d2.id, d2.nick⟩, ⟨x.src, x.nick⟩], some [s0, s1, s2, x.slot], none⟩ : Gw.Log))))))))))))
set_option maxRecDepth 1000000 in
theorem treeAdd3_0_eq (me : Int) (d0 d1 d2 : Gw.Device) (s0 s1 s2 : Int) (x : Gw.Xid) : funT (mkXT pxM noOX) (mkXP pxM) (mkX pxM noOX) D (fun _ => noOrc) (fun k => match k with | 37 => [28, 57, 60, 67] | 62 => [9] | 76 => [8] | 91 => [23] | 108 => [12] | 118 => [4, 8, 14] | _ => []) 12 noOrc [28, 57, 60, 67] noLt (dOf 37) [.ptr 3 0, .agg x.vs] (((openAt (smallH [.o 0 (.log ⟨me, some [d0, d1, d2], some [s0, s1, s2], none⟩)]) 3 (.log ⟨me, some [d0, d1, d2], some [s0, s1, s2], none⟩)).put 4 (some (.cells false ([d0, d1, d2].flatMap Gw.Device.vs)))).put 5 (some (.cells false ([s0, s1, s2].map (V.int .i64))))) (fun v h => (v, readLog h 3)) = treeAdd3_0 me d0 d1 d2 s0 s1 s2 x := by kernel_rfl
set_option maxHeartbeats 4000000 in
theorem satAdd3_0 (me : Int) (d0 d1 d2 : Gw.Device) (s0 s1 s2 : Int) (x : Gw.Xid) : (treeAdd3_0 me d0 d1 d2 s0 s1 s2 x).sat fun p => p = (.bool (logAdd ⟨me, some [d0, d1, d2], some [s0, s1, s2], none⟩ x).1, some (logAdd ⟨me, some [d0, d1, d2], some [s0, s1, s2], none⟩ x).2) := by
  obtain ⟨a0, b0⟩ := d0
  obtain ⟨a1, b1⟩ := d1
  obtain ⟨a2, b2⟩ := d2
  unfold treeAdd3_0
  cases hm : mayXid x with
  | false => simp [DT.sat, logAdd, logFind, clashAdd, mayXid_eta, len_tab256, allOne, V.one, hm]
  | true =>
  by_cases h0 : a0 = x.src
  · subst h0
    by_cases hs : x.src = me
    · subst hs; simp [DT.sat, logAdd, logFind, clashAdd, mayXid_eta, len_tab256, allOne, V.one, hm]
    · by_cases hn : b0 = x.nick
      · subst hn
        by_cases hl : s0 = x.slot
        · subst hl; simp [DT.sat, logAdd, logFind, clashAdd, mayXid_eta, len_tab256, allOne, V.one, hm, hs]
        · have hl' : (s0 == x.slot) = false := by simpa using hl
          simp [DT.sat, logAdd, logFind, clashAdd, mayXid_eta, len_tab256, allOne, V.one, hm, hs, hl, hl']
      · have hn' : (b0 == x.nick) = false := by simpa using hn
        simp [DT.sat, logAdd, logFind, clashAdd, mayXid_eta, len_tab256, allOne, V.one, hm, hs, hn, hn']
  by_cases h1 : a1 = x.src
  · subst h1
    by_cases hs : x.src = me
    · subst hs; simp [DT.sat, logAdd, logFind, clashAdd, mayXid_eta, len_tab256, allOne, V.one, hm, h0]
    · by_cases hn : b1 = x.nick
      · subst hn
        by_cases hl : s1 = x.slot
        · subst hl; simp [DT.sat, logAdd, logFind, clashAdd, mayXid_eta, len_tab256, allOne, V.one, hm, hs, h0]
        · have hl' : (s1 == x.slot) = false := by simpa using hl
          simp [DT.sat, logAdd, logFind, clashAdd, mayXid_eta, len_tab256, allOne, V.one, hm, hs, hl, hl', h0]
      · have hn' : (b1 == x.nick) = false := by simpa using hn
        simp [DT.sat, logAdd, logFind, clashAdd, mayXid_eta, len_tab256, allOne, V.one, hm, hs, hn, hn', h0]
  by_cases h2 : a2 = x.src
  · subst h2
    by_cases hs : x.src = me
    · subst hs; simp [DT.sat, logAdd, logFind, clashAdd, mayXid_eta, len_tab256, allOne, V.one, hm, h0, h1]
    · by_cases hn : b2 = x.nick
      · subst hn
        by_cases hl : s2 = x.slot
        · subst hl; simp [DT.sat, logAdd, logFind, clashAdd, mayXid_eta, len_tab256, allOne, V.one, hm, hs, h0, h1]
        · have hl' : (s2 == x.slot) = false := by simpa using hl
          simp [DT.sat, logAdd, logFind, clashAdd, mayXid_eta, len_tab256, allOne, V.one, hm, hs, hl, hl', h0, h1]
      · have hn' : (b2 == x.nick) = false := by simpa using hn
        simp [DT.sat, logAdd, logFind, clashAdd, mayXid_eta, len_tab256, allOne, V.one, hm, hs, hn, hn', h0, h1]
  by_cases hs : x.src = me
  · subst hs; simp [DT.sat, logAdd, logFind, clashAdd, mayXid_eta, len_tab256, allOne, V.one, hm, h0, h1, h2]
  · simp [DT.sat, logAdd, logFind, clashAdd, mayXid_eta, len_tab256, allOne, V.one, hm, hs, h0, h1, h2]
theorem runAdd3_0 (me : Int) (d0 d1 d2 : Gw.Device) (s0 s1 s2 : Int) (x : Gw.Xid) : Run Tryz.prog 37 [.ptr 3 0, .agg x.vs] (((openAt (smallH [.o 0 (.log ⟨me, some [d0, d1, d2], some [s0, s1, s2], none⟩)]) 3 (.log ⟨me, some [d0, d1, d2], some [s0, s1, s2], none⟩)).put 4 (some (.cells false ([d0, d1, d2].flatMap Gw.Device.vs)))).put 5 (some (.cells false ([s0, s1, s2].map (V.int .i64))))) fun r h => Gw.Ends [.o 0 (.log ⟨me, some [d0, d1, d2], some [s0, s1, s2], none⟩)] [.log (logAdd ⟨me, some [d0, d1, d2], some [s0, s1, s2], none⟩ x).2] [] [.f (.bool (logAdd ⟨me, some [d0, d1, d2], some [s0, s1, s2], none⟩ x).1)] r h :=
  runMono (run_plainU mixed tabM tabD (dIs (by kernel_rfl)) (treeAdd3_0_eq me d0 d1 d2 s0 s1 s2 x) (satAdd3_0 me d0 d1 d2 s0 s1 s2 x)) fun r h hq => by
    simp only [Prod.mk.injEq] at hq
    obtain ⟨rfl, hr⟩ := hq
    obtain ⟨ws, ids, h1, h2, h3, h4⟩ := readLog_ok hr
    exact ends_o h1 h2 h3 h4
def treeAdd4_0 (me : Int) (d0 d1 d2 d3 : Gw.Device) (s0 s1 s2 s3 : Int) (x : Gw.Xid) : DT (V × Option Gw.Log) :=
  .node (!(mayXid ⟨x.src, x.dst, x.slot, x.slots, x.anew, x.nick⟩)) (
    .leaf (.bool false, some (⟨me, some [⟨d0.id, d0.nick⟩, ⟨d1.id, d1.nick⟩, ⟨d2.id, d2.nick⟩, ⟨d3.id, d3.nick⟩], some [s0, s1, s2, s3], none⟩ : Gw.Log))) (
    .ob (2 = 2 ∧ 0 ≤ (0 : Int) ∧ (0 : Int) < ((4 : Nat) : Int)) (
    .node ((d0.id : Int) == x.src) (
      .node ((x.src : Int) == me) (
        .ob ((1 = 1 ∧ ([.int .u32 x.src] : List V).length = 1 * 1) ∧ allOne [.int .u32 x.src] = true ∧ 1 * 4 ≤ 70368744177664) (
        .ob (0 ≤ (1 : Int) ∧ (1 : Int) < (((tab256 : Str).length : Nat) : Int)) (
        .leaf (.bool false, some (⟨me, some [⟨d0.id, d0.nick⟩, ⟨d1.id, d1.nick⟩, ⟨d2.id, d2.nick⟩, ⟨d3.id, d3.nick⟩], some [s0, s1, s2, s3], some [x.src]⟩ : Gw.Log))))) (
        .ob (2 = 2 ∧ 0 ≤ (0 : Int) ∧ (0 : Int) < ((4 : Nat) : Int)) (
        .node ((!((d0.nick : Str) == x.nick)) == false) (
          .ob (1 = 1 ∧ 0 ≤ (0 : Int) ∧ (0 : Int) < ((4 : Nat) : Int)) (
          .node ((s0 : Int) != x.slot) (
            .ob ((1 = 1 ∧ ([.int .u32 x.src] : List V).length = 1 * 1) ∧ allOne [.int .u32 x.src] = true ∧ 1 * 4 ≤ 70368744177664) (
            .ob (0 ≤ (1 : Int) ∧ (1 : Int) < (((tab256 : Str).length : Nat) : Int)) (
            .leaf (.bool false, some (⟨me, some [⟨d0.id, d0.nick⟩, ⟨d1.id, d1.nick⟩, ⟨d2.id, d2.nick⟩, ⟨d3.id, d3.nick⟩], some [s0, s1, s2, s3], some [x.src]⟩ : Gw.Log))))) (
            .leaf (.bool true, some (⟨me, some [⟨d0.id, d0.nick⟩, ⟨d1.id, d1.nick⟩, ⟨d2.id, d2.nick⟩, ⟨d3.id, d3.nick⟩], some [s0, s1, s2, s3], none⟩ : Gw.Log))))) (
          .ob ((1 = 1 ∧ ([.int .u32 x.src] : List V).length = 1 * 1) ∧ allOne [.int .u32 x.src] = true ∧ 1 * 4 ≤ 70368744177664) (
          .ob (0 ≤ (1 : Int) ∧ (1 : Int) < (((tab256 : Str).length : Nat) : Int)) (
          .leaf (.bool false, some (⟨me, some [⟨d0.id, d0.nick⟩, ⟨d1.id, d1.nick⟩, ⟨d2.id, d2.nick⟩, ⟨d3.id, d3.nick⟩], some [s0, s1, s2, s3], some [x.src]⟩ : Gw.Log)))))))) (
      .ob (2 = 2 ∧ 0 ≤ (1 : Int) ∧ (1 : Int) < ((4 : Nat) : Int)) (
      .node ((d1.id : Int) == x.src) (
        .node ((x.src : Int) == me) (
          .ob ((1 = 1 ∧ ([.int .u32 x.src] : List V).length = 1 * 1) ∧ allOne [.int .u32 x.src] = true ∧ 1 * 4 ≤ 70368744177664) (
          .ob (0 ≤ (1 : Int) ∧ (1 : Int) < (((tab256 : Str).length : Nat) : Int)) (
          .leaf (.bool false, some (⟨me, some [⟨d0.id, d0.nick⟩, ⟨d1.id, d1.nick⟩, ⟨d2.id, d2.nick⟩, ⟨d3.id, d3.nick⟩], some [s0, s1, s2, s3], some [x.src]⟩ : Gw.Log))))) (
          .ob (2 = 2 ∧ 0 ≤ (1 : Int) ∧ (1 : Int) < ((4 : Nat) : Int)) (
          .node ((!((d1.nick : Str) == x.nick)) == false) (
            .ob (1 = 1 ∧ 0 ≤ (1 : Int) ∧ (1 : Int) < ((4 : Nat) : Int)) (
            .node ((s1 : Int) != x.slot) (
              .ob ((1 = 1 ∧ ([.int .u32 x.src] : List V).length = 1 * 1) ∧ allOne [.int .u32 x.src] = true ∧ 1 * 4 ≤ 70368744177664) (
              .ob (0 ≤ (1 : Int) ∧ (1 : Int) < (((tab256 : Str).length : Nat) : Int)) (
              .leaf (.bool false, some (⟨me, some [⟨d0.id, d0.nick⟩, ⟨d1.id, d1.nick⟩, ⟨d2.id, d2.nick⟩, ⟨d3.id, d3.nick⟩], some [s0, s1, s2, s3], some [x.src]⟩ : Gw.Log))))) (
              .leaf (.bool true, some (⟨me, some [⟨d0.id, d0.nick⟩, ⟨d1.id, d1.nick⟩, ⟨d2.id, d2.nick⟩, ⟨d3.id, d3.nick⟩], some [s0, s1, s2, s3], none⟩ : Gw.Log))))) (
            .ob ((1 = 1 ∧ ([.int .u32 x.src] : List V).length = 1 * 1) ∧ allOne [.int .u32 x.src] = true ∧ 1 * 4 ≤ 70368744177664) (
            .ob (0 ≤ (1 : Int) ∧ (1 : Int) < (((tab256 : Str).length : Nat) : Int)) (
            .leaf (.bool false, some (⟨me, some [⟨d0.id, d0.nick⟩, ⟨d1.id, d1.nick⟩, ⟨d2.id, d2.nick⟩, ⟨d3.id, d3.nick⟩], some [s0, s1, s2, s3], some [x.src]⟩ : Gw.Log)))))))) (
        .ob (2 = 2 ∧ 0 ≤ (2 : Int) ∧ (2 : Int) < ((4 : Nat) : Int)) (
        .node ((d2.id : Int) == x.src) (
          .node ((x.src : Int) == me) (
            .ob ((1 = 1 ∧ ([.int .u32 x.src] : List V).length = 1 * 1) ∧ allOne [.int .u32 x.src] = true ∧ 1 * 4 ≤ 70368744177664) (
            .ob (0 ≤ (1 : Int) ∧ (1 : Int) < (((tab256 : Str).length : Nat) : Int)) (
            .leaf (.bool false, some (⟨me, some [⟨d0.id, d0.nick⟩, ⟨d1.id, d1.nick⟩, ⟨d2.id, d2.nick⟩, ⟨d3.id, d3.nick⟩], some [s0, s1, s2, s3], some [x.src]⟩ : Gw.Log))))) (
            .ob (2 = 2 ∧ 0 ≤ (2 : Int) ∧ (2 : Int) < ((4 : Nat) : Int)) (
            .node ((!((d2.nick : Str) == x.nick)) == false) (
              .ob (1 = 1 ∧ 0 ≤ (2 : Int) ∧ (2 : Int) < ((4 : Nat) : Int)) (
              .node ((s2 : Int) != x.slot) (
                .ob ((1 = 1 ∧ ([.int .u32 x.src] : List V).length = 1 * 1) ∧ allOne [.int .u32 x.src] = true ∧ 1 * 4 ≤ 70368744177664) (
                .ob (0 ≤ (1 : Int) ∧ (1 : Int) < (((tab256 : Str).length : Nat) : Int)) (
                .leaf (.bool false, some (⟨me, some [⟨d0.id, d0.nick⟩, ⟨d1.id, d1.nick⟩, ⟨d2.id, d2.nick⟩, ⟨d3.id, d3.nick⟩], some [s0, s1, s2, s3], some [x.src]⟩ : Gw.Log))))) (
                .leaf (.bool true, some (⟨me, some [⟨d0.id, d0.nick⟩, ⟨d1.id, d1.nick⟩, ⟨d2.id, d2.nick⟩, ⟨d3.id, d3.nick⟩], some [s0, s1, s2, s3], none⟩ : Gw.Log))))) (
              .ob ((1 = 1 ∧ ([.int .u32 x.src] : List V).length = 1 * 1) ∧ allOne [.int .u32 x.src] = true ∧ 1 * 4 ≤ 70368744177664) (
              .ob (0 ≤ (1 : Int) ∧ (1 : Int) < (((tab256 : Str).length : Nat) : Int)) (
              .leaf (.bool false, some (⟨me, some [⟨d0.id, d0.nick⟩, ⟨d1.id, d1.nick⟩, ⟨d2.id, d2.nick⟩, ⟨d3.id, d3.nick⟩], some [s0, s1, s2, s3], some [x.src]⟩ : Gw.Log)))))))) (
          .ob (2 = 2 ∧ 0 ≤ (3 : Int) ∧ (3 : Int) < ((4 : Nat) : Int)) (
          .node ((d3.id : Int) == x.src) (
            .node ((x.src : Int) == me) (
              .ob ((1 = 1 ∧ ([.int .u32 x.src] : List V).length = 1 * 1) ∧ allOne [.int .u32 x.src] = true ∧ 1 * 4 ≤ 70368744177664) (
              .ob (0 ≤ (1 : Int) ∧ (1 : Int) < (((tab256 : Str).length : Nat) : Int)) (
              .leaf (.bool false, some (⟨me, some [⟨d0.id, d0.nick⟩, ⟨d1.id, d1.nick⟩, ⟨d2.id, d2.nick⟩, ⟨d3.id, d3.nick⟩], some [s0, s1, s2, s3], some [x.src]⟩ : Gw.Log))))) (
              .ob (2 = 2 ∧ 0 ≤ (3 : Int) ∧ (3 : Int) < ((4 : Nat) : Int)) (
              .node ((!((d3.nick : Str) == x.nick)) == false) (
                .ob (1 = 1 ∧ 0 ≤ (3 : Int) ∧ (3 : Int) < ((4 : Nat) : Int)) (
                .node ((s3 : Int) != x.slot) (
                  .ob ((1 = 1 ∧ ([.int .u32 x.src] : List V).length = 1 * 1) ∧ allOne [.int .u32 x.src] = true ∧ 1 * 4 ≤ 70368744177664) (
                  .ob (0 ≤ (1 : Int) ∧ (1 : Int) < (((tab256 : Str).length : Nat) : Int)) (
                  .leaf (.bool false, some (⟨me, some [⟨d0.id, d0.nick⟩, ⟨d1.id, d1.nick⟩, ⟨d2.id, d2.nick⟩, ⟨d3.id, d3.nick⟩], some [s0, s1, s2, s3], some [x.src]⟩ : Gw.Log))))) (
                  .leaf (.bool true, some (⟨me, some [⟨d0.id, d0.nick⟩, ⟨d1.id, d1.nick⟩, ⟨d2.id, d2.nick⟩, ⟨d3.id, d3.nick⟩], some [s0, s1, s2, s3], none⟩ : Gw.Log))))) (
                .ob ((1 = 1 ∧ ([.int .u32 x.src] : List V).length = 1 * 1) ∧ allOne [.int .u32 x.src] = true ∧ 1 * 4 ≤ 70368744177664) (
                .ob (0 ≤ (1 : Int) ∧ (1 : Int) < (((tab256 : Str).length : Nat) : Int)) (
                .leaf (.bool false, some (⟨me, some [⟨d0.id, d0.nick⟩, ⟨d1.id, d1.nick⟩, ⟨d2.id, d2.nick⟩, ⟨d3.id, d3.nick⟩], some [s0, s1, s2, s3], some [x.src]⟩ : Gw.Log)))))))) (
            .node ((x.src : Int) == me) (
              .ob ((1 = 1 ∧ ([.int .u32 x.src] : List V).length = 1 * 1) ∧ allOne [.int .u32 x.src] = true ∧ 1 * 4 ≤ 70368744177664) (
              .ob (0 ≤ (1 : Int) ∧ (1 : Int) < (((tab256 : Str).length : Nat) : Int)) (
              .leaf (.bool false, some (⟨me, some [⟨d0.id, d0.nick⟩, ⟨d1.id, d1.nick⟩, ⟨d2.id, d2.nick⟩, ⟨d3.id, d3.nick⟩], some [s0, s1, s2, s3], some [x.src]⟩ : Gw.Log))))) (
              .ob ((2 = 2 ∧ ([.int .u32 x.src, .str x.nick] : List V).length = 1 * 2) ∧ allOne [.int .u32 x.src, .str x.nick] = true ∧ 2 = 2 ∧ 5 * 24 ≤ 70368744177664 ∧ ([.int .u32 d0.id, .str d0.nick, .int .u32 d1.id, .str d1.nick, .int .u32 d2.id, .str d2.nick, .int .u32 d3.id, .str d3.nick] : List V).length = 4 * 2) (
              .ob ((1 = 1 ∧ ([.int .i64 x.slot] : List V).length = 1 * 1) ∧ allOne [.int .i64 x.slot] = true ∧ 1 = 1 ∧ 5 * 8 ≤ 70368744177664 ∧ ([.int .i64 s0, .int .i64 s1, .int .i64 s2, .int .i64 s3] : List V).length = 4 * 1) (
              .leaf (.bool true, some (⟨me, some [⟨d0.id, d0.nick⟩, ⟨d1.id, d1.nick⟩, ⟨d2.id, d2.nick⟩, ⟨d3.id, d3.nick⟩, ⟨x.src, x.nick⟩], some [s0, s1, s2, s3, x.slot], none⟩ : Gw.Log))))))))))))))
set_option maxRecDepth 1000000 in
theorem treeAdd4_0_eq (me : Int) (d0 d1 d2 d3 : Gw.Device) (s0 s1 s2 s3 : Int) (x : Gw.Xid) : funT (mkXT pxM noOX) (mkXP pxM) (mkX pxM noOX) D (fun _ => noOrc) (fun k => match k with | 37 => [28, 57, 60, 67] | 62 => [9] | 76 => [8] | 91 => [23] | 108 => [12] | 118 => [4, 8, 14] | _ => []) 12 noOrc [28, 57, 60, 67] noLt (dOf 37) [.ptr 3 0, .agg x.vs] (((openAt (smallH [.o 0 (.log ⟨me, some [d0, d1, d2, d3], some [s0, s1, s2, s3], none⟩)]) 3 (.log ⟨me, some [d0, d1, d2, d3], some [s0, s1, s2, s3], none⟩)).put 4 (some (.cells false ([d0, d1, d2, d3].flatMap Gw.Device.vs)))).put 5 (some (.cells false ([s0, s1, s2, s3].map (V.int .i64))))) (fun v h => (v, readLog h 3)) = treeAdd4_0 me d0 d1 d2 d3 s0 s1 s2 s3 x := by kernel_rfl
set_option maxHeartbeats 4000000 in
theorem satAdd4_0 (me : Int) (d0 d1 d2 d3 : Gw.Device) (s0 s1 s2 s3 : Int) (x : Gw.Xid) : (treeAdd4_0 me d0 d1 d2 d3 s0 s1 s2 s3 x).sat fun p => p = (.bool (logAdd ⟨me, some [d0, d1, d2, d3], some [s0, s1, s2, s3], none⟩ x).1, some (logAdd ⟨me, some [d0, d1, d2, d3], some [s0, s1, s2, s3], none⟩ x).2) := by
  obtain ⟨a0, b0⟩ := d0
  obtain ⟨a1, b1⟩ := d1
  obtain ⟨a2, b2⟩ := d2
  obtain ⟨a3, b3⟩ := d3
  unfold treeAdd4_0
  cases hm : mayXid x with
  | false => simp [DT.sat, logAdd, logFind, clashAdd, mayXid_eta, len_tab256, allOne, V.one, hm]
  | true =>
  by_cases h0 : a0 = x.src
  · subst h0
    by_cases hs : x.src = me
    · subst hs; simp [DT.sat, logAdd, logFind, clashAdd, mayXid_eta, len_tab256, allOne, V.one, hm]
    · by_cases hn : b0 = x.nick
      · subst hn
        by_cases hl : s0 = x.slot
        · subst hl; simp [DT.sat, logAdd, logFind, clashAdd, mayXid_eta, len_tab256, allOne, V.one, hm, hs]
        · have hl' : (s0 == x.slot) = false := by simpa using hl
          simp [DT.sat, logAdd, logFind, clashAdd, mayXid_eta, len_tab256, allOne, V.one, hm, hs, hl, hl']
      · have hn' : (b0 == x.nick) = false := by simpa using hn
        simp [DT.sat, logAdd, logFind, clashAdd, mayXid_eta, len_tab256, allOne, V.one, hm, hs, hn, hn']
  by_cases h1 : a1 = x.src
  · subst h1
    by_cases hs : x.src = me
    · subst hs; simp [DT.sat, logAdd, logFind, clashAdd, mayXid_eta, len_tab256, allOne, V.one, hm, h0]
    · by_cases hn : b1 = x.nick
      · subst hn
        by_cases hl : s1 = x.slot
        · subst hl; simp [DT.sat, logAdd, logFind, clashAdd, mayXid_eta, len_tab256, allOne, V.one, hm, hs, h0]
        · have hl' : (s1 == x.slot) = false := by simpa using hl
          simp [DT.sat, logAdd, logFind, clashAdd, mayXid_eta, len_tab256, allOne, V.one, hm, hs, hl, hl', h0]
      · have hn' : (b1 == x.nick) = false := by simpa using hn
        simp [DT.sat, logAdd, logFind, clashAdd, mayXid_eta, len_tab256, allOne, V.one, hm, hs, hn, hn', h0]
  by_cases h2 : a2 = x.src
  · subst h2
    by_cases hs : x.src = me
    · subst hs; simp [DT.sat, logAdd, logFind, clashAdd, mayXid_eta, len_tab256, allOne, V.one, hm, h0, h1]
    · by_cases hn : b2 = x.nick
      · subst hn
        by_cases hl : s2 = x.slot
        · subst hl; simp [DT.sat, logAdd, logFind, clashAdd, mayXid_eta, len_tab256, allOne, V.one, hm, hs, h0, h1]
        · have hl' : (s2 == x.slot) = false := by simpa using hl
          simp [DT.sat, logAdd, logFind, clashAdd, mayXid_eta, len_tab256, allOne, V.one, hm, hs, hl, hl', h0, h1]
      · have hn' : (b2 == x.nick) = false := by simpa using hn
        simp [DT.sat, logAdd, logFind, clashAdd, mayXid_eta, len_tab256, allOne, V.one, hm, hs, hn, hn', h0, h1]
  by_cases h3 : a3 = x.src
  · subst h3
    by_cases hs : x.src = me
    · subst hs; simp [DT.sat, logAdd, logFind, clashAdd, mayXid_eta, len_tab256, allOne, V.one, hm, h0, h1, h2]
    · by_cases hn : b3 = x.nick
      · subst hn
        by_cases hl : s3 = x.slot
        · subst hl; simp [DT.sat, logAdd, logFind, clashAdd, mayXid_eta, len_tab256, allOne, V.one, hm, hs, h0, h1, h2]
        · have hl' : (s3 == x.slot) = false := by simpa using hl
          simp [DT.sat, logAdd, logFind, clashAdd, mayXid_eta, len_tab256, allOne, V.one, hm, hs, hl, hl', h0, h1, h2]
      · have hn' : (b3 == x.nick) = false := by simpa using hn
        simp [DT.sat, logAdd, logFind, clashAdd, mayXid_eta, len_tab256, allOne, V.one, hm, hs, hn, hn', h0, h1, h2]
  by_cases hs : x.src = me
  · subst hs; simp [DT.sat, logAdd, logFind, clashAdd, mayXid_eta, len_tab256, allOne, V.one, hm, h0, h1, h2, h3]
  · simp [DT.sat, logAdd, logFind, clashAdd, mayXid_eta, len_tab256, allOne, V.one, hm, hs, h0, h1, h2, h3]
theorem runAdd4_0 (me : Int) (d0 d1 d2 d3 : Gw.Device) (s0 s1 s2 s3 : Int) (x : Gw.Xid) : Run Tryz.prog 37 [.ptr 3 0, .agg x.vs] (((openAt (smallH [.o 0 (.log ⟨me, some [d0, d1, d2, d3], some [s0, s1, s2, s3], none⟩)]) 3 (.log ⟨me, some [d0, d1, d2, d3], some [s0, s1, s2, s3], none⟩)).put 4 (some (.cells false ([d0, d1, d2, d3].flatMap Gw.Device.vs)))).put 5 (some (.cells false ([s0, s1, s2, s3].map (V.int .i64))))) fun r h => Gw.Ends [.o 0 (.log ⟨me, some [d0, d1, d2, d3], some [s0, s1, s2, s3], none⟩)] [.log (logAdd ⟨me, some [d0, d1, d2, d3], some [s0, s1, s2, s3], none⟩ x).2] [] [.f (.bool (logAdd ⟨me, some [d0, d1, d2, d3], some [s0, s1, s2, s3], none⟩ x).1)] r h :=
  runMono (run_plainU mixed tabM tabD (dIs (by kernel_rfl)) (treeAdd4_0_eq me d0 d1 d2 d3 s0 s1 s2 s3 x) (satAdd4_0 me d0 d1 d2 d3 s0 s1 s2 s3 x)) fun r h hq => by
    simp only [Prod.mk.injEq] at hq
    obtain ⟨rfl, hr⟩ := hq
    obtain ⟨ws, ids, h1, h2, h3, h4⟩ := readLog_ok hr
    exact ends_o h1 h2 h3 h4
def treeAdd5_0 (me : Int) (d0 d1 d2 d3 d4 : Gw.Device) (s0 s1 s2 s3 s4 : Int) (x : Gw.Xid) : DT (V × Option Gw.Log) :=
  .node (!(mayXid ⟨x.src, x.dst, x.slot, x.slots, x.anew, x.nick⟩)) (
    .leaf (.bool false, some (⟨me, some [⟨d0.id, d0.nick⟩, ⟨d1.id, d1.nick⟩, ⟨d2.id, d2.nick⟩, ⟨d3.id, d3.nick⟩, ⟨d4.id, d4.nick⟩], some [s0, s1, s2, s3, s4], none⟩ : Gw.Log))) (
    .ob (2 = 2 ∧ 0 ≤ (0 : Int) ∧ (0 : Int) < ((5 : Nat) : Int)) (
    .node ((d0.id : Int) == x.src) (
      .node ((x.src : Int) == me) (
        .ob ((1 = 1 ∧ ([.int .u32 x.src] : List V).length = 1 * 1) ∧ allOne [.int .u32 x.src] = true ∧ 1 * 4 ≤ 70368744177664) (
        .ob (0 ≤ (1 : Int) ∧ (1 : Int) < (((tab256 : Str).length : Nat) : Int)) (
        .leaf (.bool false, some (⟨me, some [⟨d0.id, d0.nick⟩, ⟨d1.id, d1.nick⟩, ⟨d2.id, d2.nick⟩, ⟨d3.id, d3.nick⟩, ⟨d4.id, d4.nick⟩], some [s0, s1, s2, s3, s4], some [x.src]⟩ : Gw.Log))))) (
        .ob (2 = 2 ∧ 0 ≤ (0 : Int) ∧ (0 : Int) < ((5 : Nat) : Int)) (
        .node ((!((d0.nick : Str) == x.nick)) == false) (
          .ob (1 = 1 ∧ 0 ≤ (0 : Int) ∧ (0 : Int) < ((5 : Nat) : Int)) (
          .node ((s0 : Int) != x.slot) (
            .ob ((1 = 1 ∧ ([.int .u32 x.src] : List V).length = 1 * 1) ∧ allOne [.int .u32 x.src] = true ∧ 1 * 4 ≤ 70368744177664) (
            .ob (0 ≤ (1 : Int) ∧ (1 : Int) < (((tab256 : Str).length : Nat) : Int)) (
            .leaf (.bool false, some (⟨me, some [⟨d0.id, d0.nick⟩, ⟨d1.id, d1.nick⟩, ⟨d2.id, d2.nick⟩, ⟨d3.id, d3.nick⟩, ⟨d4.id, d4.nick⟩], some [s0, s1, s2, s3, s4], some [x.src]⟩ : Gw.Log))))) (
            .leaf (.bool true, some (⟨me, some [⟨d0.id, d0.nick⟩, ⟨d1.id, d1.nick⟩, ⟨d2.id, d2.nick⟩, ⟨d3.id, d3.nick⟩, ⟨d4.id, d4.nick⟩], some [s0, s1, s2, s3, s4], none⟩ : Gw.Log))))) (
          .ob ((1 = 1 ∧ ([.int .u32 x.src] : List V).length = 1 * 1) ∧ allOne [.int .u32 x.src] = true ∧ 1 * 4 ≤ 70368744177664) (
          .ob (0 ≤ (1 : Int) ∧ (1 : Int) < (((tab256 : Str).length : Nat) : Int)) (
          .leaf (.bool false, some (⟨me, some [⟨d0.id, d0.nick⟩, ⟨d1.id, d1.nick⟩, ⟨d2.id, d2.nick⟩, ⟨d3.id, d3.nick⟩, ⟨d4.id, d4.nick⟩], some [s0, s1, s2, s3, s4], some [x.src]⟩ : Gw.Log)))))))) (
      .ob (2 = 2 ∧ 0 ≤ (1 : Int) ∧ (1 : Int) < ((5 : Nat) : Int)) (
      .node ((d1.id : Int) == x.src) (
        .node ((x.src : Int) == me) (
          .ob ((1 = 1 ∧ ([.int .u32 x.src] : List V).length = 1 * 1) ∧ allOne [.int .u32 x.src] = true ∧ 1 * 4 ≤ 70368744177664) (
          .ob (0 ≤ (1 : Int) ∧ (1 : Int) < (((tab256 : Str).length : Nat) : Int)) (
          .leaf (.bool false, some (⟨me, some [⟨d0.id, d0.nick⟩, ⟨d1.id, d1.nick⟩, ⟨d2.id, d2.nick⟩, ⟨d3.id, d3.nick⟩, ⟨d4.id, d4.nick⟩], some [s0, s1, s2, s3, s4], some [x.src]⟩ : Gw.Log))))) (
          .ob (2 = 2 ∧ 0 ≤ (1 : Int) ∧ (1 : Int) < ((5 : Nat) : Int)) (
          .node ((!((d1.nick : Str) == x.nick)) == false) (
            .ob (1 = 1 ∧ 0 ≤ (1 : Int) ∧ (1 : Int) < ((5 : Nat) : Int)) (
            .node ((s1 : Int) != x.slot) (
              .ob ((1 = 1 ∧ ([.int .u32 x.src] : List V).length = 1 * 1) ∧ allOne [.int .u32 x.src] = true ∧ 1 * 4 ≤ 70368744177664) (
              .ob (0 ≤ (1 : Int) ∧ (1 : Int) < (((tab256 : Str).length : Nat) : Int)) (
              .leaf (.bool false, some (⟨me, some [⟨d0.id, d0.nick⟩, ⟨d1.id, d1.nick⟩, ⟨d2.id, d2.nick⟩, ⟨d3.id, d3.nick⟩, ⟨d4.id, d4.nick⟩], some [s0, s1, s2, s3, s4], some [x.src]⟩ : Gw.Log))))) (
              .leaf (.bool true, some (⟨me, some [⟨d0.id, d0.nick⟩, ⟨d1.id, d1.nick⟩, ⟨d2.id, d2.nick⟩, ⟨d3.id, d3.nick⟩, ⟨d4.id, d4.nick⟩], some [s0, s1, s2, s3, s4], none⟩ : Gw.Log))))) (
            .ob ((1 = 1 ∧ ([.int .u32 x.src] : List V).length = 1 * 1) ∧ allOne [.int .u32 x.src] = true ∧ 1 * 4 ≤ 70368744177664) (
            .ob (0 ≤ (1 : Int) ∧ (1 : Int) < (((tab256 : Str).length : Nat) : Int)) (
            .leaf (.bool false, some (⟨me, some [⟨d0.id, d0.nick⟩, ⟨d1.id, d1.nick⟩, ⟨d2.id, d2.nick⟩, ⟨d3.id, d3.nick⟩, ⟨d4.id, d4.nick⟩], some [s0, s1, s2, s3, s4], some [x.src]⟩ : Gw.Log)))))))) (
        .ob (2 = 2 ∧ 0 ≤ (2 : Int) ∧ (2 : Int) < ((5 : Nat) : Int)) (
        .node ((d2.id : Int) == x.src) (
          .node ((x.src : Int) == me) (
            .ob ((1 = 1 ∧ ([.int .u32 x.src] : List V).length = 1 * 1) ∧ allOne [.int .u32 x.src] = true ∧ 1 * 4 ≤ 70368744177664) (
            .ob (0 ≤ (1 : Int) ∧ (1 : Int) < (((tab256 : Str).length : Nat) : Int)) (
            .leaf (.bool false, some (⟨me, some [⟨d0.id, d0.nick⟩, ⟨d1.id, d1.nick⟩, ⟨d2.id, d2.nick⟩, ⟨d3.id, d3.nick⟩, ⟨d4.id, d4.nick⟩], some [s0, s1, s2, s3, s4], some [x.src]⟩ : Gw.Log))))) (
            .ob (2 = 2 ∧ 0 ≤ (2 : Int) ∧ (2 : Int) < ((5 : Nat) : Int)) (
            .node ((!((d2.nick : Str) == x.nick)) == false) (
              .ob (1 = 1 ∧ 0 ≤ (2 : Int) ∧ (2 : Int) < ((5 : Nat) : Int)) (
              .node ((s2 : Int) != x.slot) (
                .ob ((1 = 1 ∧ ([.int .u32 x.src] : List V).length = 1 * 1) ∧ allOne [.int .u32 x.src] = true ∧ 1 * 4 ≤ 70368744177664) (
                .ob (0 ≤ (1 : Int) ∧ (1 : Int) < (((tab256 : Str).length : Nat) : Int)) (
                .leaf (.bool false, some (⟨me, some [⟨d0.id, d0.nick⟩, ⟨d1.id, d1.nick⟩, ⟨d2.id, d2.nick⟩, ⟨d3.id, d3.nick⟩, ⟨d4.id, d4.nick⟩], some [s0, s1, s2, s3, s4], some [x.src]⟩ : Gw.Log))))) (
                .leaf (.bool true, some (⟨me, some [⟨d0.id, d0.nick⟩, ⟨d1.id, d1.nick⟩, ⟨d2.id, d2.nick⟩, ⟨d3.id, d3.nick⟩, ⟨d4.id, d4.nick⟩], some [s0, s1, s2, s3, s4], none⟩ : Gw.Log))))) (
              .ob ((1 = 1 ∧ ([.int .u32 x.src] : List V).length = 1 * 1) ∧ allOne [.int .u32 x.src] = true ∧ 1 * 4 ≤ 70368744177664) (
              .ob (0 ≤ (1 : Int) ∧ (1 : Int) < (((tab256 : Str).length : Nat) : Int)) (
              .leaf (.bool false, some (⟨me, some [⟨d0.id, d0.nick⟩, ⟨d1.id, d1.nick⟩, ⟨d2.id, d2.nick⟩, ⟨d3.id, d3.nick⟩, ⟨d4.id, d4.nick⟩], some [s0, s1, s2, s3, s4], some [x.src]⟩ : Gw.Log)))))))) (
          .ob (2 = 2 ∧ 0 ≤ (3 : Int) ∧ (3 : Int) < ((5 : Nat) : Int)) (
          .node ((d3.id : Int) == x.src) (
            .node ((x.src : Int) == me) (
              .ob ((1 = 1 ∧ ([.int .u32 x.src] : List V).length = 1 * 1) ∧ allOne [.int .u32 x.src] = true ∧ 1 * 4 ≤ 70368744177664) (
              .ob (0 ≤ (1 : Int) ∧ (1 : Int) < (((tab256 : Str).length : Nat) : Int)) (
              .leaf (.bool false, some (⟨me, some [⟨d0.id, d0.nick⟩, ⟨d1.id, d1.nick⟩, ⟨d2.id, d2.nick⟩, ⟨d3.id, d3.nick⟩, ⟨d4.id, d4.nick⟩], some [s0, s1, s2, s3, s4], some [x.src]⟩ : Gw.Log))))) (
              .ob (2 = 2 ∧ 0 ≤ (3 : Int) ∧ (3 : Int) < ((5 : Nat) : Int)) (
              .node ((!((d3.nick : Str) == x.nick)) == false) (
                .ob (1 = 1 ∧ 0 ≤ (3 : Int) ∧ (3 : Int) < ((5 : Nat) : Int)) (
                .node ((s3 : Int) != x.slot) (
                  .ob ((1 = 1 ∧ ([.int .u32 x.src] : List V).length = 1 * 1) ∧ allOne [.int .u32 x.src] = true ∧ 1 * 4 ≤ 70368744177664) (
                  .ob (0 ≤ (1 : Int) ∧ (1 : Int) < (((tab256 : Str).length : Nat) : Int)) (
                  .leaf (.bool false, some (⟨me, some [⟨d0.id, d0.nick⟩, ⟨d1.id, d1.nick⟩, ⟨d2.id, d2.nick⟩, ⟨d3.id, d3.nick⟩, ⟨d4.id, d4.nick⟩], some [s0, s1, s2, s3, s4], some [x.src]⟩ : Gw.Log))))) (
                  .leaf (.bool true, some (⟨me, some [⟨d0.id, d0.nick⟩, ⟨d1.id, d1.nick⟩, ⟨d2.id, d2.nick⟩, ⟨d3.id, d3.nick⟩, ⟨d4.id, d4.nick⟩], some [s0, s1, s2, s3, s4], none⟩ : Gw.Log))))) (
                .ob ((1 = 1 ∧ ([.int .u32 x.src] : List V).length = 1 * 1) ∧ allOne [.int .u32 x.src] = true ∧ 1 * 4 ≤ 70368744177664) (
                .ob (0 ≤ (1 : Int) ∧ (1 : Int) < (((tab256 : Str).length : Nat) : Int)) (
                .leaf (.bool false, some (⟨me, some [⟨d0.id, d0.nick⟩, ⟨d1.id, d1.nick⟩, ⟨d2.id, d2.nick⟩, ⟨d3.id, d3.nick⟩, ⟨d4.id, d4.nick⟩], some [s0, s1, s2, s3, s4], some [x.src]⟩ : Gw.Log)))))))) (
            .ob (2 = 2 ∧ 0 ≤ (4 : Int) ∧ (4 : Int) < ((5 : Nat) : Int)) (
            .node ((d4.id : Int) == x.src) (
              .node ((x.src : Int) == me) (
                .ob ((1 = 1 ∧ ([.int .u32 x.src] : List V).length = 1 * 1) ∧ allOne [.int .u32 x.src] = true ∧ 1 * 4 ≤ 70368744177664) (
                .ob (0 ≤ (1 : Int) ∧ (1 : Int) < (((tab256 : Str).length : Nat) : Int)) (
                .leaf (.bool false, some (⟨me, some [⟨d0.id, d0.nick⟩, ⟨d1.id, d1.nick⟩, ⟨d2.id, d2.nick⟩, ⟨d3.id, d3.nick⟩, ⟨d4.id, d4.nick⟩], some [s0, s1, s2, s3, s4], some [x.src]⟩ : Gw.Log))))) (
                .ob (2 = 2 ∧ 0 ≤ (4 : Int) ∧ (4 : Int) < ((5 : Nat) : Int)) (
                .node ((!((d4.nick : Str) == x.nick)) == false) (
                  .ob (1 = 1 ∧ 0 ≤ (4 : Int) ∧ (4 : Int) < ((5 : Nat) : Int)) (
                  .node ((s4 : Int) != x.slot) (
                    .ob ((1 = 1 ∧ ([.int .u32 x.src] : List V).length = 1 * 1) ∧ allOne [.int .u32 x.src] = true ∧ 1 * 4 ≤ 70368744177664) (
                    .ob (0 ≤ (1 : Int) ∧ (1 : Int) < (((tab256 : Str).length : Nat) : Int)) (
                    .leaf (.bool false, some (⟨me, some [⟨d0.id, d0.nick⟩, ⟨d1.id, d1.nick⟩, ⟨d2.id, d2.nick⟩, ⟨d3.id, d3.nick⟩, ⟨d4.id, d4.nick⟩], some [s0, s1, s2, s3, s4], some [x.src]⟩ : Gw.Log))))) (
                    .leaf (.bool true, some (⟨me, some [⟨d0.id, d0.nick⟩, ⟨d1.id, d1.nick⟩, ⟨d2.id, d2.nick⟩, ⟨d3.id, d3.nick⟩, ⟨d4.id, d4.nick⟩], some [s0, s1, s2, s3, s4], none⟩ : Gw.Log))))) (
                  .ob ((1 = 1 ∧ ([.int .u32 x.src] : List V).length = 1 * 1) ∧ allOne [.int .u32 x.src] = true ∧ 1 * 4 ≤ 70368744177664) (
                  .ob (0 ≤ (1 : Int) ∧ (1 : Int) < (((tab256 : Str).length : Nat) : Int)) (
                  .leaf (.bool false, some (⟨me, some [⟨d0.id, d0.nick⟩, ⟨d1.id, d1.nick⟩, ⟨d2.id, d2.nick⟩, ⟨d3.id, d3.nick⟩, ⟨d4.id, d4.nick⟩], some [s0, s1, s2, s3, s4], some [x.src]⟩ : Gw.Log)))))))) (
              .node ((x.src : Int) == me) (
                .ob ((1 = 1 ∧ ([.int .u32 x.src] : List V).length = 1 * 1) ∧ allOne [.int .u32 x.src] = true ∧ 1 * 4 ≤ 70368744177664) (
                .ob (0 ≤ (1 : Int) ∧ (1 : Int) < (((tab256 : Str).length : Nat) : Int)) (
                .leaf (.bool false, some (⟨me, some [⟨d0.id, d0.nick⟩, ⟨d1.id, d1.nick⟩, ⟨d2.id, d2.nick⟩, ⟨d3.id, d3.nick⟩, ⟨d4.id, d4.nick⟩], some [s0, s1, s2, s3, s4], some [x.src]⟩ : Gw.Log))))) (
                .ob ((2 = 2 ∧ ([.int .u32 x.src, .str x.nick] : List V).length = 1 * 2) ∧ allOne [.int .u32 x.src, .str x.nick] = true ∧ 2 = 2 ∧ 6 * 24 ≤ 70368744177664 ∧ ([.int .u32 d0.id, .str d0.nick, .int .u32 d1.id, .str d1.nick, .int .u32 d2.id, .str d2.nick, .int .u32 d3.id, .str d3.nick, .int .u32 d4.id, .str d4.nick] : List V).length = 5 * 2) (
                .ob ((1 = 1 ∧ ([.int .i64 x.slot] : List V).length = 1 * 1) ∧ allOne [.int .i64 x.slot] = true ∧ 1 = 1 ∧ 6 * 8 ≤ 70368744177664 ∧ ([.int .i64 s0, .int .i64 s1, .int .i64 s2, .int .i64 s3, .int .i64 s4] : List V).length = 5 * 1) (
                .leaf (.bool true, some (⟨me, some [⟨d0.id, d0.nick⟩, ⟨d1.id, d1.nick⟩, ⟨d2.id, d2.nick⟩, ⟨d3.id, d3.nick⟩, ⟨d4.id, d4.nick⟩, ⟨x.src, x.nick⟩], some [s0, s1, s2, s3, s4, x.slot], none⟩ : Gw.Log))))))))))))))))
set_option maxRecDepth 1000000 in
theorem treeAdd5_0_eq (me : Int) (d0 d1 d2 d3 d4 : Gw.Device) (s0 s1 s2 s3 s4 : Int) (x : Gw.Xid) : funT (mkXT pxM noOX) (mkXP pxM) (mkX pxM noOX) D (fun _ => noOrc) (fun k => match k with | 37 => [28, 57, 60, 67] | 62 => [9] | 76 => [8] | 91 => [23] | 108 => [12] | 118 => [4, 8, 14] | _ => []) 12 noOrc [28, 57, 60, 67] noLt (dOf 37) [.ptr 3 0, .agg x.vs] (((openAt (smallH [.o 0 (.log ⟨me, some [d0, d1, d2, d3, d4], some [s0, s1, s2, s3, s4], none⟩)]) 3 (.log ⟨me, some [d0, d1, d2, d3, d4], some [s0, s1, s2, s3, s4], none⟩)).put 4 (some (.cells false ([d0, d1, d2, d3, d4].flatMap Gw.Device.vs)))).put 5 (some (.cells false ([s0, s1, s2, s3, s4].map (V.int .i64))))) (fun v h => (v, readLog h 3)) = treeAdd5_0 me d0 d1 d2 d3 d4 s0 s1 s2 s3 s4 x := by kernel_rfl
set_option maxHeartbeats 4000000 in
theorem satAdd5_0 (me : Int) (d0 d1 d2 d3 d4 : Gw.Device) (s0 s1 s2 s3 s4 : Int) (x : Gw.Xid) : (treeAdd5_0 me d0 d1 d2 d3 d4 s0 s1 s2 s3 s4 x).sat fun p => p = (.bool (logAdd ⟨me, some [d0, d1, d2, d3, d4], some [s0, s1, s2, s3, s4], none⟩ x).1, some (logAdd ⟨me, some [d0, d1, d2, d3, d4], some [s0, s1, s2, s3, s4], none⟩ x).2) := by
  obtain ⟨a0, b0⟩ := d0
  obtain ⟨a1, b1⟩ := d1
  obtain ⟨a2, b2⟩ := d2
  obtain ⟨a3, b3⟩ := d3
  obtain ⟨a4, b4⟩ := d4
  unfold treeAdd5_0
  cases hm : mayXid x with
  | false => simp [DT.sat, logAdd, logFind, clashAdd, mayXid_eta, len_tab256, allOne, V.one, hm]
  | true =>
  by_cases h0 : a0 = x.src
  · subst h0
    by_cases hs : x.src = me
    · subst hs; simp [DT.sat, logAdd, logFind, clashAdd, mayXid_eta, len_tab256, allOne, V.one, hm]
    · by_cases hn : b0 = x.nick
      · subst hn
        by_cases hl : s0 = x.slot
        · subst hl; simp [DT.sat, logAdd, logFind, clashAdd, mayXid_eta, len_tab256, allOne, V.one, hm, hs]
        · have hl' : (s0 == x.slot) = false := by simpa using hl
          simp [DT.sat, logAdd, logFind, clashAdd, mayXid_eta, len_tab256, allOne, V.one, hm, hs, hl, hl']
      · have hn' : (b0 == x.nick) = false := by simpa using hn
        simp [DT.sat, logAdd, logFind, clashAdd, mayXid_eta, len_tab256, allOne, V.one, hm, hs, hn, hn']
  by_cases h1 : a1 = x.src
  · subst h1
    by_cases hs : x.src = me
    · subst hs; simp [DT.sat, logAdd, logFind, clashAdd, mayXid_eta, len_tab256, allOne, V.one, hm, h0]
    · by_cases hn : b1 = x.nick
      · subst hn
        by_cases hl : s1 = x.slot
        · subst hl; simp [DT.sat, logAdd, logFind, clashAdd, mayXid_eta, len_tab256, allOne, V.one, hm, hs, h0]
        · have hl' : (s1 == x.slot) = false := by simpa using hl
          simp [DT.sat, logAdd, logFind, clashAdd, mayXid_eta, len_tab256, allOne, V.one, hm, hs, hl, hl', h0]
      · have hn' : (b1 == x.nick) = false := by simpa using hn
        simp [DT.sat, logAdd, logFind, clashAdd, mayXid_eta, len_tab256, allOne, V.one, hm, hs, hn, hn', h0]
  by_cases h2 : a2 = x.src
  · subst h2
    by_cases hs : x.src = me
    · subst hs; simp [DT.sat, logAdd, logFind, clashAdd, mayXid_eta, len_tab256, allOne, V.one, hm, h0, h1]
    · by_cases hn : b2 = x.nick
      · subst hn
        by_cases hl : s2 = x.slot
        · subst hl; simp [DT.sat, logAdd, logFind, clashAdd, mayXid_eta, len_tab256, allOne, V.one, hm, hs, h0, h1]
        · have hl' : (s2 == x.slot) = false := by simpa using hl
          simp [DT.sat, logAdd, logFind, clashAdd, mayXid_eta, len_tab256, allOne, V.one, hm, hs, hl, hl', h0, h1]
      · have hn' : (b2 == x.nick) = false := by simpa using hn
        simp [DT.sat, logAdd, logFind, clashAdd, mayXid_eta, len_tab256, allOne, V.one, hm, hs, hn, hn', h0, h1]
  by_cases h3 : a3 = x.src
  · subst h3
    by_cases hs : x.src = me
    · subst hs; simp [DT.sat, logAdd, logFind, clashAdd, mayXid_eta, len_tab256, allOne, V.one, hm, h0, h1, h2]
    · by_cases hn : b3 = x.nick
      · subst hn
        by_cases hl : s3 = x.slot
        · subst hl; simp [DT.sat, logAdd, logFind, clashAdd, mayXid_eta, len_tab256, allOne, V.one, hm, hs, h0, h1, h2]
        · have hl' : (s3 == x.slot) = false := by simpa using hl
          simp [DT.sat, logAdd, logFind, clashAdd, mayXid_eta, len_tab256, allOne, V.one, hm, hs, hl, hl', h0, h1, h2]
      · have hn' : (b3 == x.nick) = false := by simpa using hn
        simp [DT.sat, logAdd, logFind, clashAdd, mayXid_eta, len_tab256, allOne, V.one, hm, hs, hn, hn', h0, h1, h2]
  by_cases h4 : a4 = x.src
  · subst h4
    by_cases hs : x.src = me
    · subst hs; simp [DT.sat, logAdd, logFind, clashAdd, mayXid_eta, len_tab256, allOne, V.one, hm, h0, h1, h2, h3]
    · by_cases hn : b4 = x.nick
      · subst hn
        by_cases hl : s4 = x.slot
        · subst hl; simp [DT.sat, logAdd, logFind, clashAdd, mayXid_eta, len_tab256, allOne, V.one, hm, hs, h0, h1, h2, h3]
        · have hl' : (s4 == x.slot) = false := by simpa using hl
          simp [DT.sat, logAdd, logFind, clashAdd, mayXid_eta, len_tab256, allOne, V.one, hm, hs, hl, hl', h0, h1, h2, h3]
      · have hn' : (b4 == x.nick) = false := by simpa using hn
        simp [DT.sat, logAdd, logFind, clashAdd, mayXid_eta, len_tab256, allOne, V.one, hm, hs, hn, hn', h0, h1, h2, h3]
  by_cases hs : x.src = me
  · subst hs; simp [DT.sat, logAdd, logFind, clashAdd, mayXid_eta, len_tab256, allOne, V.one, hm, h0, h1, h2, h3, h4]
  · simp [DT.sat, logAdd, logFind, clashAdd, mayXid_eta, len_tab256, allOne, V.one, hm, hs, h0, h1, h2, h3, h4]
theorem runAdd5_0 (me : Int) (d0 d1 d2 d3 d4 : Gw.Device) (s0 s1 s2 s3 s4 : Int) (x : Gw.Xid) : Run Tryz.prog 37 [.ptr 3 0, .agg x.vs] (((openAt (smallH [.o 0 (.log ⟨me, some [d0, d1, d2, d3, d4], some [s0, s1, s2, s3, s4], none⟩)]) 3 (.log ⟨me, some [d0, d1, d2, d3, d4], some [s0, s1, s2, s3, s4], none⟩)).put 4 (some (.cells false ([d0, d1, d2, d3, d4].flatMap Gw.Device.vs)))).put 5 (some (.cells false ([s0, s1, s2, s3, s4].map (V.int .i64))))) fun r h => Gw.Ends [.o 0 (.log ⟨me, some [d0, d1, d2, d3, d4], some [s0, s1, s2, s3, s4], none⟩)] [.log (logAdd ⟨me, some [d0, d1, d2, d3, d4], some [s0, s1, s2, s3, s4], none⟩ x).2] [] [.f (.bool (logAdd ⟨me, some [d0, d1, d2, d3, d4], some [s0, s1, s2, s3, s4], none⟩ x).1)] r h :=
  runMono (run_plainU mixed tabM tabD (dIs (by kernel_rfl)) (treeAdd5_0_eq me d0 d1 d2 d3 d4 s0 s1 s2 s3 s4 x) (satAdd5_0 me d0 d1 d2 d3 d4 s0 s1 s2 s3 s4 x)) fun r h hq => by
    simp only [Prod.mk.injEq] at hq
    obtain ⟨rfl, hr⟩ := hq
    obtain ⟨ws, ids, h1, h2, h3, h4⟩ := readLog_ok hr
    exact ends_o h1 h2 h3 h4
def treeAdd6_0 (me : Int) (d0 d1 d2 d3 d4 d5 : Gw.Device) (s0 s1 s2 s3 s4 s5 : Int) (x : Gw.Xid) : DT (V × Option Gw.Log) :=
  .node (!(mayXid ⟨x.src, x.dst, x.slot, x.slots, x.anew, x.nick⟩)) (
    .leaf (.bool false, some (⟨me, some [⟨d0.id, d0.nick⟩, ⟨d1.id, d1.nick⟩, ⟨d2.id, d2.nick⟩, ⟨d3.id, d3.nick⟩, ⟨d4.id, d4.nick⟩, ⟨d5.id, d5.nick⟩], some [s0, s1, s2, s3, s4, s5], none⟩ : Gw.Log))) (
    .ob (2 = 2 ∧ 0 ≤ (0 : Int) ∧ (0 : Int) < ((6 : Nat) : Int)) (
    .node ((d0.id : Int) == x.src) (
      .node ((x.src : Int) == me) (
        .ob ((1 = 1 ∧ ([.int .u32 x.src] : List V).length = 1 * 1) ∧ allOne [.int .u32 x.src] = true ∧ 1 * 4 ≤ 70368744177664) (
        .ob (0 ≤ (1 : Int) ∧ (1 : Int) < (((tab256 : Str).length : Nat) : Int)) (
        .leaf (.bool false, some (⟨me, some [⟨d0.id, d0.nick⟩, ⟨d1.id, d1.nick⟩, ⟨d2.id, d2.nick⟩, ⟨d3.id, d3.nick⟩, ⟨d4.id, d4.nick⟩, ⟨d5.id, d5.nick⟩], some [s0, s1, s2, s3, s4, s5], some [x.src]⟩ : Gw.Log))))) (
        .ob (2 = 2 ∧ 0 ≤ (0 : Int) ∧ (0 : Int) < ((6 : Nat) : Int)) (
        .node ((!((d0.nick : Str) == x.nick)) == false) (
          .ob (1 = 1 ∧ 0 ≤ (0 : Int) ∧ (0 : Int) < ((6 : Nat) : Int)) (
          .node ((s0 : Int) != x.slot) (
            .ob ((1 = 1 ∧ ([.int .u32 x.src] : List V).length = 1 * 1) ∧ allOne [.int .u32 x.src] = true ∧ 1 * 4 ≤ 70368744177664) (
            .ob (0 ≤ (1 : Int) ∧ (1 : Int) < (((tab256 : Str).length : Nat) : Int)) (
            .leaf (.bool false, some (⟨me, some [⟨d0.id, d0.nick⟩, ⟨d1.id, d1.nick⟩, ⟨d2.id, d2.nick⟩, ⟨d3.id, d3.nick⟩, ⟨d4.id, d4.nick⟩, ⟨d5.id, d5.nick⟩], some [s0, s1, s2, s3, s4, s5], some [x.src]⟩ : Gw.Log))))) (
            .leaf (.bool true, some (⟨me, some [⟨d0.id, d0.nick⟩, ⟨d1.id, d1.nick⟩, ⟨d2.id, d2.nick⟩, ⟨d3.id, d3.nick⟩, ⟨d4.id, d4.nick⟩, ⟨d5.id, d5.nick⟩], some [s0, s1, s2, s3, s4, s5], none⟩ : Gw.Log))))) (
          .ob ((1 = 1 ∧ ([.int .u32 x.src] : List V).length = 1 * 1) ∧ allOne [.int .u32 x.src] = true ∧ 1 * 4 ≤ 70368744177664) (
          .ob (0 ≤ (1 : Int) ∧ (1 : Int) < (((tab256 : Str).length : Nat) : Int)) (
          .leaf (.bool false, some (⟨me, some [⟨d0.id, d0.nick⟩, ⟨d1.id, d1.nick⟩, ⟨d2.id, d2.nick⟩, ⟨d3.id, d3.nick⟩, ⟨d4.id, d4.nick⟩, ⟨d5.id, d5.nick⟩], some [s0, s1, s2, s3, s4, s5], some [x.src]⟩ : Gw.Log)))))))) (
      .ob (2 = 2 ∧ 0 ≤ (1 : Int) ∧ (1 : Int) < ((6 : Nat) : Int)) (
      .node ((d1.id : Int) == x.src) (
        .node ((x.src : Int) == me) (
          .ob ((1 = 1 ∧ ([.int .u32 x.src] : List V).length = 1 * 1) ∧ allOne [.int .u32 x.src] = true ∧ 1 * 4 ≤ 70368744177664) (
          .ob (0 ≤ (1 : Int) ∧ (1 : Int) < (((tab256 : Str).length : Nat) : Int)) (
          .leaf (.bool false, some (⟨me, some [⟨d0.id, d0.nick⟩, ⟨d1.id, d1.nick⟩, ⟨d2.id, d2.nick⟩, ⟨d3.id, d3.nick⟩, ⟨d4.id, d4.nick⟩, ⟨d5.id, d5.nick⟩], some [s0, s1, s2, s3, s4, s5], some [x.src]⟩ : Gw.Log))))) (
          .ob (2 = 2 ∧ 0 ≤ (1 : Int) ∧ (1 : Int) < ((6 : Nat) : Int)) (
          .node ((!((d1.nick : Str) == x.nick)) == false) (
            .ob (1 = 1 ∧ 0 ≤ (1 : Int) ∧ (1 : Int) < ((6 : Nat) : Int)) (
            .node ((s1 : Int) != x.slot) (
              .ob ((1 = 1 ∧ ([.int .u32 x.src] : List V).length = 1 * 1) ∧ allOne [.int .u32 x.src] = true ∧ 1 * 4 ≤ 70368744177664) (
              .ob (0 ≤ (1 : Int) ∧ (1 : Int) < (((tab256 : Str).length : Nat) : Int)) (
              .leaf (.bool false, some (⟨me, some [⟨d0.id, d0.nick⟩, ⟨d1.id, d1.nick⟩, ⟨d2.id, d2.nick⟩, ⟨d3.id, d3.nick⟩, ⟨d4.id, d4.nick⟩, ⟨d5.id, d5.nick⟩], some [s0, s1, s2, s3, s4, s5], some [x.src]⟩ : Gw.Log))))) (
              .leaf (.bool true, some (⟨me, some [⟨d0.id, d0.nick⟩, ⟨d1.id, d1.nick⟩, ⟨d2.id, d2.nick⟩, ⟨d3.id, d3.nick⟩, ⟨d4.id, d4.nick⟩, ⟨d5.id, d5.nick⟩], some [s0, s1, s2, s3, s4, s5], none⟩ : Gw.Log))))) (
            .ob ((1 = 1 ∧ ([.int .u32 x.src] : List V).length = 1 * 1) ∧ allOne [.int .u32 x.src] = true ∧ 1 * 4 ≤ 70368744177664) (
            .ob (0 ≤ (1 : Int) ∧ (1 : Int) < (((tab256 : Str).length : Nat) : Int)) (
            .leaf (.bool false, some (⟨me, some [⟨d0.id, d0.nick⟩, ⟨d1.id, d1.nick⟩, ⟨d2.id, d2.nick⟩, ⟨d3.id, d3.nick⟩, ⟨d4.id, d4.nick⟩, ⟨d5.id, d5.nick⟩], some [s0, s1, s2, s3, s4, s5], some [x.src]⟩ : Gw.Log)))))))) (
        .ob (2 = 2 ∧ 0 ≤ (2 : Int) ∧ (2 : Int) < ((6 : Nat) : Int)) (
        .node ((d2.id : Int) == x.src) (
          .node ((x.src : Int) == me) (
            .ob ((1 = 1 ∧ ([.int .u32 x.src] : List V).length = 1 * 1) ∧ allOne [.int .u32 x.src] = true ∧ 1 * 4 ≤ 70368744177664) (
            .ob (0 ≤ (1 : Int) ∧ (1 : Int) < (((tab256 : Str).length : Nat) : Int)) (
            .leaf (.bool false, some (⟨me, some [⟨d0.id, d0.nick⟩, ⟨d1.id, d1.nick⟩, ⟨d2.id, d2.nick⟩, ⟨d3.id, d3.nick⟩, ⟨d4.id, d4.nick⟩, ⟨d5.id, d5.nick⟩], some [s0, s1, s2, s3, s4, s5], some [x.src]⟩ : Gw.Log))))) (
            .ob (2 = 2 ∧ 0 ≤ (2 : Int) ∧ (2 : Int) < ((6 : Nat) : Int)) (
            .node ((!((d2.nick : Str) == x.nick)) == false) (
              .ob (1 = 1 ∧ 0 ≤ (2 : Int) ∧ (2 : Int) < ((6 : Nat) : Int)) (
              .node ((s2 : Int) != x.slot) (
                .ob ((1 = 1 ∧ ([.int .u32 x.src] : List V).length = 1 * 1) ∧ allOne [.int .u32 x.src] = true ∧ 1 * 4 ≤ 70368744177664) (
                .ob (0 ≤ (1 : Int) ∧ (1 : Int) < (((tab256 : Str).length : Nat) : Int)) (
                .leaf (.bool false, some (⟨me, some [⟨d0.id, d0.nick⟩, ⟨d1.id, d1.nick⟩, ⟨d2.id, d2.nick⟩, ⟨d3.id, d3.nick⟩, ⟨d4.id, d4.nick⟩, ⟨d5.id, d5.nick⟩], some [s0, s1, s2, s3, s4, s5], some [x.src]⟩ : Gw.Log))))) (
                .leaf (.bool true, some (⟨me, some [⟨d0.id, d0.nick⟩, ⟨d1.id, d1.nick⟩, ⟨d2.id, d2.nick⟩, ⟨d3.id, d3.nick⟩, ⟨d4.id, d4.nick⟩, ⟨d5.id, d5.nick⟩], some [s0, s1, s2, s3, s4, s5], none⟩ : Gw.Log))))) (
              .ob ((1 = 1 ∧ ([.int .u32 x.src] : List V).length = 1 * 1) ∧ allOne [.int .u32 x.src] = true ∧ 1 * 4 ≤ 70368744177664) (
              .ob (0 ≤ (1 : Int) ∧ (1 : Int) < (((tab256 : Str).length : Nat) : Int)) (
              .leaf (.bool false, some (⟨me, some [⟨d0.id, d0.nick⟩, ⟨d1.id, d1.nick⟩, ⟨d2.id, d2.nick⟩, ⟨d3.id, d3.nick⟩, ⟨d4.id, d4.nick⟩, ⟨d5.id, d5.nick⟩], some [s0, s1, s2, s3, s4, s5], some [x.src]⟩ : Gw.Log)))))))) (
          .ob (2 = 2 ∧ 0 ≤ (3 : Int) ∧ (3 : Int) < ((6 : Nat) : Int)) (
          .node ((d3.id : Int) == x.src) (
            .node ((x.src : Int) == me) (
              .ob ((1 = 1 ∧ ([.int .u32 x.src] : List V).length = 1 * 1) ∧ allOne [.int .u32 x.src] = true ∧ 1 * 4 ≤ 70368744177664) (
              .ob (0 ≤ (1 : Int) ∧ (1 : Int) < (((tab256 : Str).length : Nat) : Int)) (
              .leaf (.bool false, some (⟨me, some [⟨d0.id, d0.nick⟩, ⟨d1.id, d1.nick⟩, ⟨d2.id, d2.nick⟩, ⟨d3.id, d3.nick⟩, ⟨d4.id, d4.nick⟩, ⟨d5.id, d5.nick⟩], some [s0, s1, s2, s3, s4, s5], some [x.src]⟩ : Gw.Log))))) (
              .ob (2 = 2 ∧ 0 ≤ (3 : Int) ∧ (3 : Int) < ((6 : Nat) : Int)) (
              .node ((!((d3.nick : Str) == x.nick)) == false) (
                .ob (1 = 1 ∧ 0 ≤ (3 : Int) ∧ (3 : Int) < ((6 : Nat) : Int)) (
                .node ((s3 : Int) != x.slot) (
                  .ob ((1 = 1 ∧ ([.int .u32 x.src] : List V).length = 1 * 1) ∧ allOne [.int .u32 x.src] = true ∧ 1 * 4 ≤ 70368744177664) (
                  .ob (0 ≤ (1 : Int) ∧ (1 : Int) < (((tab256 : Str).length : Nat) : Int)) (
                  .leaf (.bool false, some (⟨me, some [⟨d0.id, d0.nick⟩, ⟨d1.id, d1.nick⟩, ⟨d2.id, d2.nick⟩, ⟨d3.id, d3.nick⟩, ⟨d4.id, d4.nick⟩, ⟨d5.id, d5.nick⟩], some [s0, s1, s2, s3, s4, s5], some [x.src]⟩ : Gw.Log))))) (
                  .leaf (.bool true, some (⟨me, some [⟨d0.id, d0.nick⟩, ⟨d1.id, d1.nick⟩, ⟨d2.id, d2.nick⟩, ⟨d3.id, d3.nick⟩, ⟨d4.id, d4.nick⟩, ⟨d5.id, d5.nick⟩], some [s0, s1, s2, s3, s4, s5], none⟩ : Gw.Log))))) (
                .ob ((1 = 1 ∧ ([.int .u32 x.src] : List V).length = 1 * 1) ∧ allOne [.int .u32 x.src] = true ∧ 1 * 4 ≤ 70368744177664) (
                .ob (0 ≤ (1 : Int) ∧ (1 : Int) < (((tab256 : Str).length : Nat) : Int)) (
                .leaf (.bool false, some (⟨me, some [⟨d0.id, d0.nick⟩, ⟨d1.id, d1.nick⟩, ⟨d2.id, d2.nick⟩, ⟨d3.id, d3.nick⟩, ⟨d4.id, d4.nick⟩, ⟨d5.id, d5.nick⟩], some [s0, s1, s2, s3, s4, s5], some [x.src]⟩ : Gw.Log)))))))) (
            .ob (2 = 2 ∧ 0 ≤ (4 : Int) ∧ (4 : Int) < ((6 : Nat) : Int)) (
            .node ((d4.id : Int) == x.src) (
              .node ((x.src : Int) == me) (
                .ob ((1 = 1 ∧ ([.int .u32 x.src] : List V).length = 1 * 1) ∧ allOne [.int .u32 x.src] = true ∧ 1 * 4 ≤ 70368744177664) (
                .ob (0 ≤ (1 : Int) ∧ (1 : Int) < (((tab256 : Str).length : Nat) : Int)) (
                .leaf (.bool false, some (⟨me, some [⟨d0.id, d0.nick⟩, ⟨d1.id, d1.nick⟩, ⟨d2.id, d2.nick⟩, ⟨d3.id, d3.nick⟩, ⟨d4.id, d4.nick⟩, ⟨d5.id, d5.nick⟩], some [s0, s1, s2, s3, s4, s5], some [x.src]⟩ : Gw.Log))))) (
                .ob (2 = 2 ∧ 0 ≤ (4 : Int) ∧ (4 : Int) < ((6 : Nat) : Int)) (
                .node ((!((d4.nick : Str) == x.nick)) == false) (
                  .ob (1 = 1 ∧ 0 ≤ (4 : Int) ∧ (4 : Int) < ((6 : Nat) : Int)) (
                  .node ((s4 : Int) != x.slot) (
                    .ob ((1 = 1 ∧ ([.int .u32 x.src] : List V).length = 1 * 1) ∧ allOne [.int .u32 x.src] = true ∧ 1 * 4 ≤ 70368744177664) (
                    .ob (0 ≤ (1 : Int) ∧ (1 : Int) < (((tab256 : Str).length : Nat) : Int)) (
                    .leaf (.bool false, some (⟨me, some [⟨d0.id, d0.nick⟩, ⟨d1.id, d1.nick⟩, ⟨d2.id, d2.nick⟩, ⟨d3.id, d3.nick⟩, ⟨d4.id, d4.nick⟩, ⟨d5.id, d5.nick⟩], some [s0, s1, s2, s3, s4, s5], some [x.src]⟩ : Gw.Log))))) (
                    .leaf (.bool true, some (⟨me, some [⟨d0.id, d0.nick⟩, ⟨d1.id, d1.nick⟩, ⟨d2.id, d2.nick⟩, ⟨d3.id, d3.nick⟩, ⟨d4.id, d4.nick⟩, ⟨d5.id, d5.nick⟩], some [s0, s1, s2, s3, s4, s5], none⟩ : Gw.Log))))) (
                  .ob ((1 = 1 ∧ ([.int .u32 x.src] : List V).length = 1 * 1) ∧ allOne [.int .u32 x.src] = true ∧ 1 * 4 ≤ 70368744177664) (
                  .ob (0 ≤ (1 : Int) ∧ (1 : Int) < (((tab256 : Str).length : Nat) : Int)) (
                  .leaf (.bool false, some (⟨me, some [⟨d0.id, d0.nick⟩, ⟨d1.id, d1.nick⟩, ⟨d2.id, d2.nick⟩, ⟨d3.id, d3.nick⟩, ⟨d4.id, d4.nick⟩, ⟨d5.id, d5.nick⟩], some [s0, s1, s2, s3, s4, s5], some [x.src]⟩ : Gw.Log)))))))) (
              .ob (2 = 2 ∧ 0 ≤ (5 : Int) ∧ (5 : Int) < ((6 : Nat) : Int)) (
              .node ((d5.id : Int) == x.src) (
                .node ((x.src : Int) == me) (
                  .ob ((1 = 1 ∧ ([.int .u32 x.src] : List V).length = 1 * 1) ∧ allOne [.int .u32 x.src] = true ∧ 1 * 4 ≤ 70368744177664) (
                  .ob (0 ≤ (1 : Int) ∧ (1 : Int) < (((tab256 : Str).length : Nat) : Int)) (
                  .leaf (.bool false, some (⟨me, some [⟨d0.id, d0.nick⟩, ⟨d1.id, d1.nick⟩, ⟨d2.id, d2.nick⟩, ⟨d3.id, d3.nick⟩, ⟨d4.id, d4.nick⟩, ⟨d5.id, d5.nick⟩], some [s0, s1, s2, s3, s4, s5], some [x.src]⟩ : Gw.Log))))) (
                  .ob (2 = 2 ∧ 0 ≤ (5 : Int) ∧ (5 : Int) < ((6 : Nat) : Int)) (
                  .node ((!((d5.nick : Str) == x.nick)) == false) (
                    .ob (1 = 1 ∧ 0 ≤ (5 : Int) ∧ (5 : Int) < ((6 : Nat) : Int)) (
                    .node ((s5 : Int) != x.slot) (
                      .ob ((1 = 1 ∧ ([.int .u32 x.src] : List V).length = 1 * 1) ∧ allOne [.int .u32 x.src] = true ∧ 1 * 4 ≤ 70368744177664) (
                      .ob (0 ≤ (1 : Int) ∧ (1 : Int) < (((tab256 : Str).length : Nat) : Int)) (
                      .leaf (.bool false, some (⟨me, some [⟨d0.id, d0.nick⟩, ⟨d1.id, d1.nick⟩, ⟨d2.id, d2.nick⟩, ⟨d3.id, d3.nick⟩, ⟨d4.id, d4.nick⟩, ⟨d5.id, d5.nick⟩], some [s0, s1, s2, s3, s4, s5], some [x.src]⟩ : Gw.Log))))) (
                      .leaf (.bool true, some (⟨me, some [⟨d0.id, d0.nick⟩, ⟨d1.id, d1.nick⟩, ⟨d2.id, d2.nick⟩, ⟨d3.id, d3.nick⟩, ⟨d4.id, d4.nick⟩, ⟨d5.id, d5.nick⟩], some [s0, s1, s2, s3, s4, s5], none⟩ : Gw.Log))))) (
                    .ob ((1 = 1 ∧ ([.int .u32 x.src] : List V).length = 1 * 1) ∧ allOne [.int .u32 x.src] = true ∧ 1 * 4 ≤ 70368744177664) (
                    .ob (0 ≤ (1 : Int) ∧ (1 : Int) < (((tab256 : Str).length : Nat) : Int)) (
                    .leaf (.bool false, some (⟨me, some [⟨d0.id, d0.nick⟩, ⟨d1.id, d1.nick⟩, ⟨d2.id, d2.nick⟩, ⟨d3.id, d3.nick⟩, ⟨d4.id, d4.nick⟩, ⟨d5.id, d5.nick⟩], some [s0, s1, s2, s3, s4, s5], some [x.src]⟩ : Gw.Log)))))))) (
                .node ((x.src : Int) == me) (
                  .ob ((1 = 1 ∧ ([.int .u32 x.src] : List V).length = 1 * 1) ∧ allOne [.int .u32 x.src] = true ∧ 1 * 4 ≤ 70368744177664) (
                  .ob (0 ≤ (1 : Int) ∧ (1 : Int) < (((tab256 : Str).length : Nat) : Int)) (
                  .leaf (.bool false, some (⟨me, some [⟨d0.id, d0.nick⟩, ⟨d1.id, d1.nick⟩, ⟨d2.id, d2.nick⟩, ⟨d3.id, d3.nick⟩, ⟨d4.id, d4.nick⟩, ⟨d5.id, d5.nick⟩], some [s0, s1, s2, s3, s4, s5], some [x.src]⟩ : Gw.Log))))) (
                  .ob ((2 = 2 ∧ ([.int .u32 x.src, .str x.nick] : List V).length = 1 * 2) ∧ allOne [.int .u32 x.src, .str x.nick] = true ∧ 2 = 2 ∧ 7 * 24 ≤ 70368744177664 ∧ ([.int .u32 d0.id, .str d0.nick, .int .u32 d1.id, .str d1.nick, .int .u32 d2.id, .str d2.nick, .int .u32 d3.id, .str d3.nick, .int .u32 d4.id, .str d4.nick, .int .u32 d5.id, .str d5.nick] : List V).length = 6 * 2) (
                  .ob ((1 = 1 ∧ ([.int .i64 x.slot] : List V).length = 1 * 1) ∧ allOne [.int .i64 x.slot] = true ∧ 1 = 1 ∧ 7 * 8 ≤ 70368744177664 ∧ ([.int .i64 s0, .int .i64 s1, .int .i64 s2, .int .i64 s3, .int .i64 s4, .int .i64 s5] : List V).length = 6 * 1) (
                  .leaf (.bool true, some (⟨me, some [⟨d0.id, d0.nick⟩, ⟨d1.id, d1.nick⟩, ⟨d2.id, d2.nick⟩, ⟨d3.id, d3.nick⟩, ⟨d4.id, d4.nick⟩, ⟨d5.id, d5.nick⟩, ⟨x.src, x.nick⟩], some [s0, s1, s2, s3, s4, s5, x.slot], none⟩ : Gw.Log))))))))))))))))))
set_option maxRecDepth 1000000 in
theorem treeAdd6_0_eq (me : Int) (d0 d1 d2 d3 d4 d5 : Gw.Device) (s0 s1 s2 s3 s4 s5 : Int) (x : Gw.Xid) : funT (mkXT pxM noOX) (mkXP pxM) (mkX pxM noOX) D (fun _ => noOrc) (fun k => match k with | 37 => [28, 57, 60, 67] | 62 => [9] | 76 => [8] | 91 => [23] | 108 => [12] | 118 => [4, 8, 14] | _ => []) 12 noOrc [28, 57, 60, 67] noLt (dOf 37) [.ptr 3 0, .agg x.vs] (((openAt (smallH [.o 0 (.log ⟨me, some [d0, d1, d2, d3, d4, d5], some [s0, s1, s2, s3, s4, s5], none⟩)]) 3 (.log ⟨me, some [d0, d1, d2, d3, d4, d5], some [s0, s1, s2, s3, s4, s5], none⟩)).put 4 (some (.cells false ([d0, d1, d2, d3, d4, d5].flatMap Gw.Device.vs)))).put 5 (some (.cells false ([s0, s1, s2, s3, s4, s5].map (V.int .i64))))) (fun v h => (v, readLog h 3)) = treeAdd6_0 me d0 d1 d2 d3 d4 d5 s0 s1 s2 s3 s4 s5 x := by kernel_rfl
set_option maxHeartbeats 4000000 in
theorem satAdd6_0 (me : Int) (d0 d1 d2 d3 d4 d5 : Gw.Device) (s0 s1 s2 s3 s4 s5 : Int) (x : Gw.Xid) : (treeAdd6_0 me d0 d1 d2 d3 d4 d5 s0 s1 s2 s3 s4 s5 x).sat fun p => p = (.bool (logAdd ⟨me, some [d0, d1, d2, d3, d4, d5], some [s0, s1, s2, s3, s4, s5], none⟩ x).1, some (logAdd ⟨me, some [d0, d1, d2, d3, d4, d5], some [s0, s1, s2, s3, s4, s5], none⟩ x).2) := by
  obtain ⟨a0, b0⟩ := d0
  obtain ⟨a1, b1⟩ := d1
  obtain ⟨a2, b2⟩ := d2
  obtain ⟨a3, b3⟩ := d3
  obtain ⟨a4, b4⟩ := d4
  obtain ⟨a5, b5⟩ := d5
  unfold treeAdd6_0
  cases hm : mayXid x with
  | false => simp [DT.sat, logAdd, logFind, clashAdd, mayXid_eta, len_tab256, allOne, V.one, hm]
  | true =>
  by_cases h0 : a0 = x.src
  · subst h0
    by_cases hs : x.src = me
    · subst hs; simp [DT.sat, logAdd, logFind, clashAdd, mayXid_eta, len_tab256, allOne, V.one, hm]
    · by_cases hn : b0 = x.nick
      · subst hn
        by_cases hl : s0 = x.slot
        · subst hl; simp [DT.sat, logAdd, logFind, clashAdd, mayXid_eta, len_tab256, allOne, V.one, hm, hs]
        · have hl' : (s0 == x.slot) = false := by simpa using hl
          simp [DT.sat, logAdd, logFind, clashAdd, mayXid_eta, len_tab256, allOne, V.one, hm, hs, hl, hl']
      · have hn' : (b0 == x.nick) = false := by simpa using hn
        simp [DT.sat, logAdd, logFind, clashAdd, mayXid_eta, len_tab256, allOne, V.one, hm, hs, hn, hn']
  by_cases h1 : a1 = x.src
  · subst h1
    by_cases hs : x.src = me
    · subst hs; simp [DT.sat, logAdd, logFind, clashAdd, mayXid_eta, len_tab256, allOne, V.one, hm, h0]
    · by_cases hn : b1 = x.nick
      · subst hn
        by_cases hl : s1 = x.slot
        · subst hl; simp [DT.sat, logAdd, logFind, clashAdd, mayXid_eta, len_tab256, allOne, V.one, hm, hs, h0]
        · have hl' : (s1 == x.slot) = false := by simpa using hl
          simp [DT.sat, logAdd, logFind, clashAdd, mayXid_eta, len_tab256, allOne, V.one, hm, hs, hl, hl', h0]
      · have hn' : (b1 == x.nick) = false := by simpa using hn
        simp [DT.sat, logAdd, logFind, clashAdd, mayXid_eta, len_tab256, allOne, V.one, hm, hs, hn, hn', h0]
  by_cases h2 : a2 = x.src
  · subst h2
    by_cases hs : x.src = me
    · subst hs; simp [DT.sat, logAdd, logFind, clashAdd, mayXid_eta, len_tab256, allOne, V.one, hm, h0, h1]
    · by_cases hn : b2 = x.nick
      · subst hn
        by_cases hl : s2 = x.slot
        · subst hl; simp [DT.sat, logAdd, logFind, clashAdd, mayXid_eta, len_tab256, allOne, V.one, hm, hs, h0, h1]
        · have hl' : (s2 == x.slot) = false := by simpa using hl
          simp [DT.sat, logAdd, logFind, clashAdd, mayXid_eta, len_tab256, allOne, V.one, hm, hs, hl, hl', h0, h1]
      · have hn' : (b2 == x.nick) = false := by simpa using hn
        simp [DT.sat, logAdd, logFind, clashAdd, mayXid_eta, len_tab256, allOne, V.one, hm, hs, hn, hn', h0, h1]
  by_cases h3 : a3 = x.src
  · subst h3
    by_cases hs : x.src = me
    · subst hs; simp [DT.sat, logAdd, logFind, clashAdd, mayXid_eta, len_tab256, allOne, V.one, hm, h0, h1, h2]
    · by_cases hn : b3 = x.nick
      · subst hn
        by_cases hl : s3 = x.slot
        · subst hl; simp [DT.sat, logAdd, logFind, clashAdd, mayXid_eta, len_tab256, allOne, V.one, hm, hs, h0, h1, h2]
        · have hl' : (s3 == x.slot) = false := by simpa using hl
          simp [DT.sat, logAdd, logFind, clashAdd, mayXid_eta, len_tab256, allOne, V.one, hm, hs, hl, hl', h0, h1, h2]
      · have hn' : (b3 == x.nick) = false := by simpa using hn
        simp [DT.sat, logAdd, logFind, clashAdd, mayXid_eta, len_tab256, allOne, V.one, hm, hs, hn, hn', h0, h1, h2]
  by_cases h4 : a4 = x.src
  · subst h4
    by_cases hs : x.src = me
    · subst hs; simp [DT.sat, logAdd, logFind, clashAdd, mayXid_eta, len_tab256, allOne, V.one, hm, h0, h1, h2, h3]
    · by_cases hn : b4 = x.nick
      · subst hn
        by_cases hl : s4 = x.slot
        · subst hl; simp [DT.sat, logAdd, logFind, clashAdd, mayXid_eta, len_tab256, allOne, V.one, hm, hs, h0, h1, h2, h3]
        · have hl' : (s4 == x.slot) = false := by simpa using hl
          simp [DT.sat, logAdd, logFind, clashAdd, mayXid_eta, len_tab256, allOne, V.one, hm, hs, hl, hl', h0, h1, h2, h3]
      · have hn' : (b4 == x.nick) = false := by simpa using hn
        simp [DT.sat, logAdd, logFind, clashAdd, mayXid_eta, len_tab256, allOne, V.one, hm, hs, hn, hn', h0, h1, h2, h3]
  by_cases h5 : a5 = x.src
  · subst h5
    by_cases hs : x.src = me
    · subst hs; simp [DT.sat, logAdd, logFind, clashAdd, mayXid_eta, len_tab256, allOne, V.one, hm, h0, h1, h2, h3, h4]
    · by_cases hn : b5 = x.nick
      · subst hn
        by_cases hl : s5 = x.slot
        · subst hl; simp [DT.sat, logAdd, logFind, clashAdd, mayXid_eta, len_tab256, allOne, V.one, hm, hs, h0, h1, h2, h3, h4]
        · have hl' : (s5 == x.slot) = false := by simpa using hl
          simp [DT.sat, logAdd, logFind, clashAdd, mayXid_eta, len_tab256, allOne, V.one, hm, hs, hl, hl', h0, h1, h2, h3, h4]
      · have hn' : (b5 == x.nick) = false := by simpa using hn
        simp [DT.sat, logAdd, logFind, clashAdd, mayXid_eta, len_tab256, allOne, V.one, hm, hs, hn, hn', h0, h1, h2, h3, h4]
  by_cases hs : x.src = me
  · subst hs; simp [DT.sat, logAdd, logFind, clashAdd, mayXid_eta, len_tab256, allOne, V.one, hm, h0, h1, h2, h3, h4, h5]
  · simp [DT.sat, logAdd, logFind, clashAdd, mayXid_eta, len_tab256, allOne, V.one, hm, hs, h0, h1, h2, h3, h4, h5]
theorem runAdd6_0 (me : Int) (d0 d1 d2 d3 d4 d5 : Gw.Device) (s0 s1 s2 s3 s4 s5 : Int) (x : Gw.Xid) : Run Tryz.prog 37 [.ptr 3 0, .agg x.vs] (((openAt (smallH [.o 0 (.log ⟨me, some [d0, d1, d2, d3, d4, d5], some [s0, s1, s2, s3, s4, s5], none⟩)]) 3 (.log ⟨me, some [d0, d1, d2, d3, d4, d5], some [s0, s1, s2, s3, s4, s5], none⟩)).put 4 (some (.cells false ([d0, d1, d2, d3, d4, d5].flatMap Gw.Device.vs)))).put 5 (some (.cells false ([s0, s1, s2, s3, s4, s5].map (V.int .i64))))) fun r h => Gw.Ends [.o 0 (.log ⟨me, some [d0, d1, d2, d3, d4, d5], some [s0, s1, s2, s3, s4, s5], none⟩)] [.log (logAdd ⟨me, some [d0, d1, d2, d3, d4, d5], some [s0, s1, s2, s3, s4, s5], none⟩ x).2] [] [.f (.bool (logAdd ⟨me, some [d0, d1, d2, d3, d4, d5], some [s0, s1, s2, s3, s4, s5], none⟩ x).1)] r h :=
  runMono (run_plainU mixed tabM tabD (dIs (by kernel_rfl)) (treeAdd6_0_eq me d0 d1 d2 d3 d4 d5 s0 s1 s2 s3 s4 s5 x) (satAdd6_0 me d0 d1 d2 d3 d4 d5 s0 s1 s2 s3 s4 s5 x)) fun r h hq => by
    simp only [Prod.mk.injEq] at hq
    obtain ⟨rfl, hr⟩ := hq
    obtain ⟨ws, ids, h1, h2, h3, h4⟩ := readLog_ok hr
    exact ends_o h1 h2 h3 h4
def treeAdd7_0 (me : Int) (d0 d1 d2 d3 d4 d5 d6 : Gw.Device) (s0 s1 s2 s3 s4 s5 s6 : Int) (x : Gw.Xid) : DT (V × Option Gw.Log) :=
  .node (!(mayXid ⟨x.src, x.dst, x.slot, x.slots, x.anew, x.nick⟩)) (
    .leaf (.bool false, some (⟨me, some [⟨d0.id, d0.nick⟩, ⟨d1.id, d1.nick⟩, ⟨d2.id, d2.nick⟩, ⟨d3.id, d3.nick⟩, ⟨d4.id, d4.nick⟩, ⟨d5.id, d5.nick⟩, ⟨d6.id, d6.nick⟩], some [s0, s1, s2, s3, s4, s5, s6], none⟩ : Gw.Log))) (
    .ob (2 = 2 ∧ 0 ≤ (0 : Int) ∧ (0 : Int) < ((7 : Nat) : Int)) (
    .node ((d0.id : Int) == x.src) (
      .node ((x.src : Int) == me) (
        .ob ((1 = 1 ∧ ([.int .u32 x.src] : List V).length = 1 * 1) ∧ allOne [.int .u32 x.src] = true ∧ 1 * 4 ≤ 70368744177664) (
        .ob (0 ≤ (1 : Int) ∧ (1 : Int) < (((tab256 : Str).length : Nat) : Int)) (
        .leaf (.bool false, some (⟨me, some [⟨d0.id, d0.nick⟩, ⟨d1.id, d1.nick⟩, ⟨d2.id, d2.nick⟩, ⟨d3.id, d3.nick⟩, ⟨d4.id, d4.nick⟩, ⟨d5.id, d5.nick⟩, ⟨d6.id, d6.nick⟩], some [s0, s1, s2, s3, s4, s5, s6], some [x.src]⟩ : Gw.Log))))) (
        .ob (2 = 2 ∧ 0 ≤ (0 : Int) ∧ (0 : Int) < ((7 : Nat) : Int)) (
        .node ((!((d0.nick : Str) == x.nick)) == false) (
          .ob (1 = 1 ∧ 0 ≤ (0 : Int) ∧ (0 : Int) < ((7 : Nat) : Int)) (
          .node ((s0 : Int) != x.slot) (
            .ob ((1 = 1 ∧ ([.int .u32 x.src] : List V).length = 1 * 1) ∧ allOne [.int .u32 x.src] = true ∧ 1 * 4 ≤ 70368744177664) (
            .ob (0 ≤ (1 : Int) ∧ (1 : Int) < (((tab256 : Str).length : Nat) : Int)) (
            .leaf (.bool false, some (⟨me, some [⟨d0.id, d0.nick⟩, ⟨d1.id, d1.nick⟩, ⟨d2.id, d2.nick⟩, ⟨d3.id, d3.nick⟩, ⟨d4.id, d4.nick⟩, ⟨d5.id, d5.nick⟩, ⟨d6.id, d6.nick⟩], some [s0, s1, s2, s3, s4, s5, s6], some [x.src]⟩ : Gw.Log))))) (
            .leaf (.bool true, some (⟨me, some [⟨d0.id, d0.nick⟩, ⟨d1.id, d1.nick⟩, ⟨d2.id, d2.nick⟩, ⟨d3.id, d3.nick⟩, ⟨d4.id, d4.nick⟩, ⟨d5.id, d5.nick⟩, ⟨d6.id, d6.nick⟩], some [s0, s1, s2, s3, s4, s5, s6], none⟩ : Gw.Log))))) (
          .ob ((1 = 1 ∧ ([.int .u32 x.src] : List V).length = 1 * 1) ∧ allOne [.int .u32 x.src] = true ∧ 1 * 4 ≤ 70368744177664) (
          .ob (0 ≤ (1 : Int) ∧ (1 : Int) < (((tab256 : Str).length : Nat) : Int)) (
          .leaf (.bool false, some (⟨me, some [⟨d0.id, d0.nick⟩, ⟨d1.id, d1.nick⟩, ⟨d2.id, d2.nick⟩, ⟨d3.id, d3.nick⟩, ⟨d4.id, d4.nick⟩, ⟨d5.id, d5.nick⟩, ⟨d6.id, d6.nick⟩], some [s0, s1, s2, s3, s4, s5, s6], some [x.src]⟩ : Gw.Log)))))))) (
      .ob (2 = 2 ∧ 0 ≤ (1 : Int) ∧ (1 : Int) < ((7 : Nat) : Int)) (
      .node ((d1.id : Int) == x.src) (
        .node ((x.src : Int) == me) (
          .ob ((1 = 1 ∧ ([.int .u32 x.src] : List V).length = 1 * 1) ∧ allOne [.int .u32 x.src] = true ∧ 1 * 4 ≤ 70368744177664) (
          .ob (0 ≤ (1 : Int) ∧ (1 : Int) < (((tab256 : Str).length : Nat) : Int)) (
          .leaf (.bool false, some (⟨me, some [⟨d0.id, d0.nick⟩, ⟨d1.id, d1.nick⟩, ⟨d2.id, d2.nick⟩, ⟨d3.id, d3.nick⟩, ⟨d4.id, d4.nick⟩, ⟨d5.id, d5.nick⟩, ⟨d6.id, d6.nick⟩], some [s0, s1, s2, s3, s4, s5, s6], some [x.src]⟩ : Gw.Log))))) (
          .ob (2 = 2 ∧ 0 ≤ (1 : Int) ∧ (1 : Int) < ((7 : Nat) : Int)) (
          .node ((!((d1.nick : Str) == x.nick)) == false) (
            .ob (1 = 1 ∧ 0 ≤ (1 : Int) ∧ (1 : Int) < ((7 : Nat) : Int)) (
            .node ((s1 : Int) != x.slot) (
              .ob ((1 = 1 ∧ ([.int .u32 x.src] : List V).length = 1 * 1) ∧ allOne [.int .u32 x.src] = true ∧ 1 * 4 ≤ 70368744177664) (
              .ob (0 ≤ (1 : Int) ∧ (1 : Int) < (((tab256 : Str).length : Nat) : Int)) (
              .leaf (.bool false, some (⟨me, some [⟨d0.id, d0.nick⟩, ⟨d1.id, d1.nick⟩, ⟨d2.id, d2.nick⟩, ⟨d3.id, d3.nick⟩, ⟨d4.id, d4.nick⟩, ⟨d5.id, d5.nick⟩, ⟨d6.id, d6.nick⟩], some [s0, s1, s2, s3, s4, s5, s6], some [x.src]⟩ : Gw.Log))))) (
              .leaf (.bool true, some (⟨me, some [⟨d0.id, d0.nick⟩, ⟨d1.id, d1.nick⟩, ⟨d2.id, d2.nick⟩, ⟨d3.id, d3.nick⟩, ⟨d4.id, d4.nick⟩, ⟨d5.id, d5.nick⟩, ⟨d6.id, d6.nick⟩], some [s0, s1, s2, s3, s4, s5, s6], none⟩ : Gw.Log))))) (
            .ob ((1 = 1 ∧ ([.int .u32 x.src] : List V).length = 1 * 1) ∧ allOne [.int .u32 x.src] = true ∧ 1 * 4 ≤ 70368744177664) (
            .ob (0 ≤ (1 : Int) ∧ (1 : Int) < (((tab256 : Str).length : Nat) : Int)) (
            .leaf (.bool false, some (⟨me, some [⟨d0.id, d0.nick⟩, ⟨d1.id, d1.nick⟩, ⟨d2.id, d2.nick⟩, ⟨d3.id, d3.nick⟩, ⟨d4.id, d4.nick⟩, ⟨d5.id, d5.nick⟩, ⟨d6.id, d6.nick⟩], some [s0, s1, s2, s3, s4, s5, s6], some [x.src]⟩ : Gw.Log)))))))) (
        .ob (2 = 2 ∧ 0 ≤ (2 : Int) ∧ (2 : Int) < ((7 : Nat) : Int)) (
        .node ((d2.id : Int) == x.src) (
          .node ((x.src : Int) == me) (
            .ob ((1 = 1 ∧ ([.int .u32 x.src] : List V).length = 1 * 1) ∧ allOne [.int .u32 x.src] = true ∧ 1 * 4 ≤ 70368744177664) (
            .ob (0 ≤ (1 : Int) ∧ (1 : Int) < (((tab256 : Str).length : Nat) : Int)) (
            .leaf (.bool false, some (⟨me, some [⟨d0.id, d0.nick⟩, ⟨d1.id, d1.nick⟩, ⟨d2.id, d2.nick⟩, ⟨d3.id, d3.nick⟩, ⟨d4.id, d4.nick⟩, ⟨d5.id, d5.nick⟩, ⟨d6.id, d6.nick⟩], some [s0, s1, s2, s3, s4, s5, s6], some [x.src]⟩ : Gw.Log))))) (
            .ob (2 = 2 ∧ 0 ≤ (2 : Int) ∧ (2 : Int) < ((7 : Nat) : Int)) (
            .node ((!((d2.nick : Str) == x.nick)) == false) (
              .ob (1 = 1 ∧ 0 ≤ (2 : Int) ∧ (2 : Int) < ((7 : Nat) : Int)) (
              .node ((s2 : Int) != x.slot) (
                .ob ((1 = 1 ∧ ([.int .u32 x.src] : List V).length = 1 * 1) ∧ allOne [.int .u32 x.src] = true ∧ 1 * 4 ≤ 70368744177664) (
                .ob (0 ≤ (1 : Int) ∧ (1 : Int) < (((tab256 : Str).length : Nat) : Int)) (
                .leaf (.bool false, some (⟨me, some [⟨d0.id, d0.nick⟩, ⟨d1.id, d1.nick⟩, ⟨d2.id, d2.nick⟩, ⟨d3.id, d3.nick⟩, ⟨d4.id, d4.nick⟩, ⟨d5.id, d5.nick⟩, ⟨d6.id, d6.nick⟩], some [s0, s1, s2, s3, s4, s5, s6], some [x.src]⟩ : Gw.Log))))) (
                .leaf (.bool true, some (⟨me, some [⟨d0.id, d0.nick⟩, ⟨d1.id, d1.nick⟩, ⟨d2.id, d2.nick⟩, ⟨d3.id, d3.nick⟩, ⟨d4.id, d4.nick⟩, ⟨d5.id, d5.nick⟩, ⟨d6.id, d6.nick⟩], some [s0, s1, s2, s3, s4, s5, s6], none⟩ : Gw.Log))))) (
              .ob ((1 = 1 ∧ ([.int .u32 x.src] : List V).length = 1 * 1) ∧ allOne [.int .u32 x.src] = true ∧ 1 * 4 ≤ 70368744177664) (
              .ob (0 ≤ (1 : Int) ∧ (1 : Int) < (((tab256 : Str).length : Nat) : Int)) (
              .leaf (.bool false, some (⟨me, some [⟨d0.id, d0.nick⟩, ⟨d1.id, d1.nick⟩, ⟨d2.id, d2.nick⟩, ⟨d3.id, d3.nick⟩, ⟨d4.id, d4.nick⟩, ⟨d5.id, d5.nick⟩, ⟨d6.id, d6.nick⟩], some [s0, s1, s2, s3, s4, s5, s6], some [x.src]⟩ : Gw.Log)))))))) (
          .ob (2 = 2 ∧ 0 ≤ (3 : Int) ∧ (3 : Int) < ((7 : Nat) : Int)) (
          .node ((d3.id : Int) == x.src) (
            .node ((x.src : Int) == me) (
              .ob ((1 = 1 ∧ ([.int .u32 x.src] : List V).length = 1 * 1) ∧ allOne [.int .u32 x.src] = true ∧ 1 * 4 ≤ 70368744177664) (
              .ob (0 ≤ (1 : Int) ∧ (1 : Int) < (((tab256 : Str).length : Nat) : Int)) (
              .leaf (.bool false, some (⟨me, some [⟨d0.id, d0.nick⟩, ⟨d1.id, d1.nick⟩, ⟨d2.id, d2.nick⟩, ⟨d3.id, d3.nick⟩, ⟨d4.id, d4.nick⟩, ⟨d5.id, d5.nick⟩, ⟨d6.id, d6.nick⟩], some [s0, s1, s2, s3, s4, s5, s6], some [x.src]⟩ : Gw.Log))))) (
              .ob (2 = 2 ∧ 0 ≤ (3 : Int) ∧ (3 : Int) < ((7 : Nat) : Int)) (
              .node ((!((d3.nick : Str) == x.nick)) == false) (
                .ob (1 = 1 ∧ 0 ≤ (3 : Int) ∧ (3 : Int) < ((7 : Nat) : Int)) (
                .node ((s3 : Int) != x.slot) (
                  .ob ((1 = 1 ∧ ([.int .u32 x.src] : List V).length = 1 * 1) ∧ allOne [.int .u32 x.src] = true ∧ 1 * 4 ≤ 70368744177664) (
                  .ob (0 ≤ (1 : Int) ∧ (1 : Int) < (((tab256 : Str).length : Nat) : Int)) (
                  .leaf (.bool false, some (⟨me, some [⟨d0.id, d0.nick⟩, ⟨d1.id, d1.nick⟩, ⟨d2.id, d2.nick⟩, ⟨d3.id, d3.nick⟩, ⟨d4.id, d4.nick⟩, ⟨d5.id, d5.nick⟩, ⟨d6.id, d6.nick⟩], some [s0, s1, s2, s3, s4, s5, s6], some [x.src]⟩ : Gw.Log))))) (
                  .leaf (.bool true, some (⟨me, some [⟨d0.id, d0.nick⟩, ⟨d1.id, d1.nick⟩, ⟨d2.id, d2.nick⟩, ⟨d3.id, d3.nick⟩, ⟨d4.id, d4.nick⟩, ⟨d5.id, d5.nick⟩, ⟨d6.id, d6.nick⟩], some [s0, s1, s2, s3, s4, s5, s6], none⟩ : Gw.Log))))) (
                .ob ((1 = 1 ∧ ([.int .u32 x.src] : List V).length = 1 * 1) ∧ allOne [.int .u32 x.src] = true ∧ 1 * 4 ≤ 70368744177664) (
                .ob (0 ≤ (1 : Int) ∧ (1 : Int) < (((tab256 : Str).length : Nat) : Int)) (
                .leaf (.bool false, some (⟨me, some [⟨d0.id, d0.nick⟩, ⟨d1.id, d1.nick⟩, ⟨d2.id, d2.nick⟩, ⟨d3.id, d3.nick⟩, ⟨d4.id, d4.nick⟩, ⟨d5.id, d5.nick⟩, ⟨d6.id, d6.nick⟩], some [s0, s1, s2, s3, s4, s5, s6], some [x.src]⟩ : Gw.Log)))))))) (
            .ob (2 = 2 ∧ 0 ≤ (4 : Int) ∧ (4 : Int) < ((7 : Nat) : Int)) (
            .node ((d4.id : Int) == x.src) (
              .node ((x.src : Int) == me) (
                .ob ((1 = 1 ∧ ([.int .u32 x.src] : List V).length = 1 * 1) ∧ allOne [.int .u32 x.src] = true ∧ 1 * 4 ≤ 70368744177664) (
                .ob (0 ≤ (1 : Int) ∧ (1 : Int) < (((tab256 : Str).length : Nat) : Int)) (
                .leaf (.bool false, some (⟨me, some [⟨d0.id, d0.nick⟩, ⟨d1.id, d1.nick⟩, ⟨d2.id, d2.nick⟩, ⟨d3.id, d3.nick⟩, ⟨d4.id, d4.nick⟩, ⟨d5.id, d5.nick⟩, ⟨d6.id, d6.nick⟩], some [s0, s1, s2, s3, s4, s5, s6], some [x.src]⟩ : Gw.Log))))) (
                .ob (2 = 2 ∧ 0 ≤ (4 : Int) ∧ (4 : Int) < ((7 : Nat) : Int)) (
                .node ((!((d4.nick : Str) == x.nick)) == false) (
                  .ob (1 = 1 ∧ 0 ≤ (4 : Int) ∧ (4 : Int) < ((7 : Nat) : Int)) (
                  .node ((s4 : Int) != x.slot) (
                    .ob ((1 = 1 ∧ ([.int .u32 x.src] : List V).length = 1 * 1) ∧ allOne [.int .u32 x.src] = true ∧ 1 * 4 ≤ 70368744177664) (
                    .ob (0 ≤ (1 : Int) ∧ (1 : Int) < (((tab256 : Str).length : Nat) : Int)) (
                    .leaf (.bool false, some (⟨me, some [⟨d0.id, d0.nick⟩, ⟨d1.id, d1.nick⟩, ⟨d2.id, d2.nick⟩, ⟨d3.id, d3.nick⟩, ⟨d4.id, d4.nick⟩, ⟨d5.id, d5.nick⟩, ⟨d6.id, d6.nick⟩], some [s0, s1, s2, s3, s4, s5, s6], some [x.src]⟩ : Gw.Log))))) (
                    .leaf (.bool true, some (⟨me, some [⟨d0.id, d0.nick⟩, ⟨d1.id, d1.nick⟩, ⟨d2.id, d2.nick⟩, ⟨d3.id, d3.nick⟩, ⟨d4.id, d4.nick⟩, ⟨d5.id, d5.nick⟩, ⟨d6.id, d6.nick⟩], some [s0, s1, s2, s3, s4, s5, s6], none⟩ : Gw.Log))))) (
                  .ob ((1 = 1 ∧ ([.int .u32 x.src] : List V).length = 1 * 1) ∧ allOne [.int .u32 x.src] = true ∧ 1 * 4 ≤ 70368744177664) (
                  .ob (0 ≤ (1 : Int) ∧ (1 : Int) < (((tab256 : Str).length : Nat) : Int)) (
                  .leaf (.bool false, some (⟨me, some [⟨d0.id, d0.nick⟩, ⟨d1.id, d1.nick⟩, ⟨d2.id, d2.nick⟩, ⟨d3.id, d3.nick⟩, ⟨d4.id, d4.nick⟩, ⟨d5.id, d5.nick⟩, ⟨d6.id, d6.nick⟩], some [s0, s1, s2, s3, s4, s5, s6], some [x.src]⟩ : Gw.Log)))))))) (
              .ob (2 = 2 ∧ 0 ≤ (5 : Int) ∧ (5 : Int) < ((7 : Nat) : Int)) (
              .node ((d5.id : Int) == x.src) (
                .node ((x.src : Int) == me) (
                  .ob ((1 = 1 ∧ ([.int .u32 x.src] : List V).length = 1 * 1) ∧ allOne [.int .u32 x.src] = true ∧ 1 * 4 ≤ 70368744177664) (
                  .ob (0 ≤ (1 : Int) ∧ (1 : Int) < (((tab256 : Str).length : Nat) : Int)) (
                  .leaf (.bool false, some (⟨me, some [⟨d0.id, d0.nick⟩, ⟨d1.id, d1.nick⟩, ⟨d2.id, d2.nick⟩, ⟨d3.id, d3.nick⟩, ⟨d4.id, d4.nick⟩, ⟨d5.id, d5.nick⟩, ⟨d6.id, d6.nick⟩], some [s0, s1, s2, s3, s4, s5, s6], some [x.src]⟩ : Gw.Log))))) (
                  .ob (2 = 2 ∧ 0 ≤ (5 : Int) ∧ (5 : Int) < ((7 : Nat) : Int)) (
                  .node ((!((d5.nick : Str) == x.nick)) == false) (
                    .ob (1 = 1 ∧ 0 ≤ (5 : Int) ∧ (5 : Int) < ((7 : Nat) : Int)) (
                    .node ((s5 : Int) != x.slot) (
                      .ob ((1 = 1 ∧ ([.int .u32 x.src] : List V).length = 1 * 1) ∧ allOne [.int .u32 x.src] = true ∧ 1 * 4 ≤ 70368744177664) (
                      .ob (0 ≤ (1 : Int) ∧ (1 : Int) < (((tab256 : Str).length : Nat) : Int)) (
                      .leaf (.bool false, some (⟨me, some [⟨d0.id, d0.nick⟩, ⟨d1.id, d1.nick⟩, ⟨d2.id, d2.nick⟩, ⟨d3.id, d3.nick⟩, ⟨d4.id, d4.nick⟩, ⟨d5.id, d5.nick⟩, ⟨d6.id, d6.nick⟩], some [s0, s1, s2, s3, s4, s5, s6], some [x.src]⟩ : Gw.Log))))) (
                      .leaf (.bool true, some (⟨me, some [⟨d0.id, d0.nick⟩, ⟨d1.id, d1.nick⟩, ⟨d2.id, d2.nick⟩, ⟨d3.id, d3.nick⟩, ⟨d4.id, d4.nick⟩, ⟨d5.id, d5.nick⟩, ⟨d6.id, d6.nick⟩], some [s0, s1, s2, s3, s4, s5, s6], none⟩ : Gw.Log))))) (
                    .ob ((1 = 1 ∧ ([.int .u32 x.src] : List V).length = 1 * 1) ∧ allOne [.int .u32 x.src] = true ∧ 1 * 4 ≤ 70368744177664) (
                    .ob (0 ≤ (1 : Int) ∧ (1 : Int) < (((tab256 : Str).length : Nat) : Int)) (
                    .leaf (.bool false, some (⟨me, some [⟨d0.id, d0.nick⟩, ⟨d1.id, d1.nick⟩, ⟨d2.id, d2.nick⟩, ⟨d3.id, d3.nick⟩, ⟨d4.id, d4.nick⟩, ⟨d5.id, d5.nick⟩, ⟨d6.id, d6.nick⟩], some [s0, s1, s2, s3, s4, s5, s6], some [x.src]⟩ : Gw.Log)))))))) (
                .ob (2 = 2 ∧ 0 ≤ (6 : Int) ∧ (6 : Int) < ((7 : Nat) : Int)) (
                .node ((d6.id : Int) == x.src) (
                  .node ((x.src : Int) == me) (
                    .ob ((1 = 1 ∧ ([.int .u32 x.src] : List V).length = 1 * 1) ∧ allOne [.int .u32 x.src] = true ∧ 1 * 4 ≤ 70368744177664) (
                    .ob (0 ≤ (1 : Int) ∧ (1 : Int) < (((tab256 : Str).length : Nat) : Int)) (
                    .leaf (.bool false, some (⟨me, some [⟨d0.id, d0.nick⟩, ⟨d1.id, d1.nick⟩, ⟨d2.id, d2.nick⟩, ⟨d3.id, d3.nick⟩, ⟨d4.id, d4.nick⟩, ⟨d5.id, d5.nick⟩, ⟨d6.id, d6.nick⟩], some [s0, s1, s2, s3, s4, s5, s6], some [x.src]⟩ : Gw.Log))))) (
                    .ob (2 = 2 ∧ 0 ≤ (6 : Int) ∧ (6 : Int) < ((7 : Nat) : Int)) (
                    .node ((!((d6.nick : Str) == x.nick)) == false) (
                      .ob (1 = 1 ∧ 0 ≤ (6 : Int) ∧ (6 : Int) < ((7 : Nat) : Int)) (
                      .node ((s6 : Int) != x.slot) (
                        .ob ((1 = 1 ∧ ([.int .u32 x.src] : List V).length = 1 * 1) ∧ allOne [.int .u32 x.src] = true ∧ 1 * 4 ≤ 70368744177664) (
                        .ob (0 ≤ (1 : Int) ∧ (1 : Int) < (((tab256 : Str).length : Nat) : Int)) (
                        .leaf (.bool false, some (⟨me, some [⟨d0.id, d0.nick⟩, ⟨d1.id, d1.nick⟩, ⟨d2.id, d2.nick⟩, ⟨d3.id, d3.nick⟩, ⟨d4.id, d4.nick⟩, ⟨d5.id, d5.nick⟩, ⟨d6.id, d6.nick⟩], some [s0, s1, s2, s3, s4, s5, s6], some [x.src]⟩ : Gw.Log))))) (
                        .leaf (.bool true, some (⟨me, some [⟨d0.id, d0.nick⟩, ⟨d1.id, d1.nick⟩, ⟨d2.id, d2.nick⟩, ⟨d3.id, d3.nick⟩, ⟨d4.id, d4.nick⟩, ⟨d5.id, d5.nick⟩, ⟨d6.id, d6.nick⟩], some [s0, s1, s2, s3, s4, s5, s6], none⟩ : Gw.Log))))) (
                      .ob ((1 = 1 ∧ ([.int .u32 x.src] : List V).length = 1 * 1) ∧ allOne [.int .u32 x.src] = true ∧ 1 * 4 ≤ 70368744177664) (
                      .ob (0 ≤ (1 : Int) ∧ (1 : Int) < (((tab256 : Str).length : Nat) : Int)) (
                      .leaf (.bool false, some (⟨me, some [⟨d0.id, d0.nick⟩, ⟨d1.id, d1.nick⟩, ⟨d2.id, d2.nick⟩, ⟨d3.id, d3.nick⟩, ⟨d4.id, d4.nick⟩, ⟨d5.id, d5.nick⟩, ⟨d6.id, d6.nick⟩], some [s0, s1, s2, s3, s4, s5, s6], some [x.src]⟩ : Gw.Log)))))))) (
                  .node ((x.src : Int) == me) (
                    .ob ((1 = 1 ∧ ([.int .u32 x.src] : List V).length = 1 * 1) ∧ allOne [.int .u32 x.src] = true ∧ 1 * 4 ≤ 70368744177664) (
                    .ob (0 ≤ (1 : Int) ∧ (1 : Int) < (((tab256 : Str).length : Nat) : Int)) (
                    .leaf (.bool false, some (⟨me, some [⟨d0.id, d0.nick⟩, ⟨d1.id, d1.nick⟩, ⟨d2.id, d2.nick⟩, ⟨d3.id, d3.nick⟩, ⟨d4.id, d4.nick⟩, ⟨d5.id, d5.nick⟩, ⟨d6.id, d6.nick⟩], some [s0, s1, s2, s3, s4, s5, s6], some [x.src]⟩ : Gw.Log))))) (
                    .ob ((2 = 2 ∧ ([.int .u32 x.src, .str x.nick] : List V).length = 1 * 2) ∧ allOne [.int .u32 x.src, .str x.nick] = true ∧ 2 = 2 ∧ 8 * 24 ≤ 70368744177664 ∧ ([.int .u32 d0.id, .str d0.nick, .int .u32 d1.id, .str d1.nick, .int .u32 d2.id, .str d2.nick, .int .u32 d3.id, .str d3.nick, .int .u32 d4.id, .str d4.nick, .int .u32 d5.id, .str d5.nick, .int .u32 d6.id, .str d6.nick] : List V).length = 7 * 2) (
                    .ob ((1 = 1 ∧ ([.int .i64 x.slot] : List V).length = 1 * 1) ∧ allOne [.int .i64 x.slot] = true ∧ 1 = 1 ∧ 8 * 8 ≤ 70368744177664 ∧ ([.int .i64 s0, .int .i64 s1, .int .i64 s2, .int .i64 s3, .int .i64 s4, .int .i64 s5, .int .i64 s6] : List V).length = 7 * 1) (
                    .leaf (.bool true, some (⟨me, some [⟨d0.id, d0.nick⟩, ⟨d1.id, d1.nick⟩, ⟨d2.id, d2.nick⟩, ⟨d3.id, d3.nick⟩, ⟨d4.id, d4.nick⟩, ⟨d5.id, d5.nick⟩, ⟨d6.id, d6.nick⟩, ⟨x.src, x.nick⟩], some [s0, s1, s2, s3, s4, s5, s6, x.slot], none⟩ : Gw.Log))))))))))))))))))))
set_option maxRecDepth 1000000 in
theorem treeAdd7_0_eq (me : Int) (d0 d1 d2 d3 d4 d5 d6 : Gw.Device) (s0 s1 s2 s3 s4 s5 s6 : Int) (x : Gw.Xid) : funT (mkXT pxM noOX) (mkXP pxM) (mkX pxM noOX) D (fun _ => noOrc) (fun k => match k with | 37 => [28, 57, 60, 67] | 62 => [9] | 76 => [8] | 91 => [23] | 108 => [12] | 118 => [4, 8, 14] | _ => []) 12 noOrc [28, 57, 60, 67] noLt (dOf 37) [.ptr 3 0, .agg x.vs] (((openAt (smallH [.o 0 (.log ⟨me, some [d0, d1, d2, d3, d4, d5, d6], some [s0, s1, s2, s3, s4, s5, s6], none⟩)]) 3 (.log ⟨me, some [d0, d1, d2, d3, d4, d5, d6], some [s0, s1, s2, s3, s4, s5, s6], none⟩)).put 4 (some (.cells false ([d0, d1, d2, d3, d4, d5, d6].flatMap Gw.Device.vs)))).put 5 (some (.cells false ([s0, s1, s2, s3, s4, s5, s6].map (V.int .i64))))) (fun v h => (v, readLog h 3)) = treeAdd7_0 me d0 d1 d2 d3 d4 d5 d6 s0 s1 s2 s3 s4 s5 s6 x := by kernel_rfl
set_option maxHeartbeats 4000000 in
theorem satAdd7_0 (me : Int) (d0 d1 d2 d3 d4 d5 d6 : Gw.Device) (s0 s1 s2 s3 s4 s5 s6 : Int) (x : Gw.Xid) : (treeAdd7_0 me d0 d1 d2 d3 d4 d5 d6 s0 s1 s2 s3 s4 s5 s6 x).sat fun p => p = (.bool (logAdd ⟨me, some [d0, d1, d2, d3, d4, d5, d6], some [s0, s1, s2, s3, s4, s5, s6], none⟩ x).1, some (logAdd ⟨me, some [d0, d1, d2, d3, d4, d5, d6], some [s0, s1, s2, s3, s4, s5, s6], none⟩ x).2) := by
  obtain ⟨a0, b0⟩ := d0
  obtain ⟨a1, b1⟩ := d1
  obtain ⟨a2, b2⟩ := d2
  obtain ⟨a3, b3⟩ := d3
  obtain ⟨a4, b4⟩ := d4
  obtain ⟨a5, b5⟩ := d5
  obtain ⟨a6, b6⟩ := d6
  unfold treeAdd7_0
  cases hm : mayXid x with
  | false => simp [DT.sat, logAdd, logFind, clashAdd, mayXid_eta, len_tab256, allOne, V.one, hm]
  | true =>
  by_cases h0 : a0 = x.src
  · subst h0
    by_cases hs : x.src = me
    · subst hs; simp [DT.sat, logAdd, logFind, clashAdd, mayXid_eta, len_tab256, allOne, V.one, hm]
    · by_cases hn : b0 = x.nick
      · subst hn
        by_cases hl : s0 = x.slot
        · subst hl; simp [DT.sat, logAdd, logFind, clashAdd, mayXid_eta, len_tab256, allOne, V.one, hm, hs]
        · have hl' : (s0 == x.slot) = false := by simpa using hl
          simp [DT.sat, logAdd, logFind, clashAdd, mayXid_eta, len_tab256, allOne, V.one, hm, hs, hl, hl']
      · have hn' : (b0 == x.nick) = false := by simpa using hn
        simp [DT.sat, logAdd, logFind, clashAdd, mayXid_eta, len_tab256, allOne, V.one, hm, hs, hn, hn']
  by_cases h1 : a1 = x.src
  · subst h1
    by_cases hs : x.src = me
    · subst hs; simp [DT.sat, logAdd, logFind, clashAdd, mayXid_eta, len_tab256, allOne, V.one, hm, h0]
    · by_cases hn : b1 = x.nick
      · subst hn
        by_cases hl : s1 = x.slot
        · subst hl; simp [DT.sat, logAdd, logFind, clashAdd, mayXid_eta, len_tab256, allOne, V.one, hm, hs, h0]
        · have hl' : (s1 == x.slot) = false := by simpa using hl
          simp [DT.sat, logAdd, logFind, clashAdd, mayXid_eta, len_tab256, allOne, V.one, hm, hs, hl, hl', h0]
      · have hn' : (b1 == x.nick) = false := by simpa using hn
        simp [DT.sat, logAdd, logFind, clashAdd, mayXid_eta, len_tab256, allOne, V.one, hm, hs, hn, hn', h0]
  by_cases h2 : a2 = x.src
  · subst h2
    by_cases hs : x.src = me
    · subst hs; simp [DT.sat, logAdd, logFind, clashAdd, mayXid_eta, len_tab256, allOne, V.one, hm, h0, h1]
    · by_cases hn : b2 = x.nick
      · subst hn
        by_cases hl : s2 = x.slot
        · subst hl; simp [DT.sat, logAdd, logFind, clashAdd, mayXid_eta, len_tab256, allOne, V.one, hm, hs, h0, h1]
        · have hl' : (s2 == x.slot) = false := by simpa using hl
          simp [DT.sat, logAdd, logFind, clashAdd, mayXid_eta, len_tab256, allOne, V.one, hm, hs, hl, hl', h0, h1]
      · have hn' : (b2 == x.nick) = false := by simpa using hn
        simp [DT.sat, logAdd, logFind, clashAdd, mayXid_eta, len_tab256, allOne, V.one, hm, hs, hn, hn', h0, h1]
  by_cases h3 : a3 = x.src
  · subst h3
    by_cases hs : x.src = me
    · subst hs; simp [DT.sat, logAdd, logFind, clashAdd, mayXid_eta, len_tab256, allOne, V.one, hm, h0, h1, h2]
    · by_cases hn : b3 = x.nick
      · subst hn
        by_cases hl : s3 = x.slot
        · subst hl; simp [DT.sat, logAdd, logFind, clashAdd, mayXid_eta, len_tab256, allOne, V.one, hm, hs, h0, h1, h2]
        · have hl' : (s3 == x.slot) = false := by simpa using hl
          simp [DT.sat, logAdd, logFind, clashAdd, mayXid_eta, len_tab256, allOne, V.one, hm, hs, hl, hl', h0, h1, h2]
      · have hn' : (b3 == x.nick) = false := by simpa using hn
        simp [DT.sat, logAdd, logFind, clashAdd, mayXid_eta, len_tab256, allOne, V.one, hm, hs, hn, hn', h0, h1, h2]
  by_cases h4 : a4 = x.src
  · subst h4
    by_cases hs : x.src = me
    · subst hs; simp [DT.sat, logAdd, logFind, clashAdd, mayXid_eta, len_tab256, allOne, V.one, hm, h0, h1, h2, h3]
    · by_cases hn : b4 = x.nick
      · subst hn
        by_cases hl : s4 = x.slot
        · subst hl; simp [DT.sat, logAdd, logFind, clashAdd, mayXid_eta, len_tab256, allOne, V.one, hm, hs, h0, h1, h2, h3]
        · have hl' : (s4 == x.slot) = false := by simpa using hl
          simp [DT.sat, logAdd, logFind, clashAdd, mayXid_eta, len_tab256, allOne, V.one, hm, hs, hl, hl', h0, h1, h2, h3]
      · have hn' : (b4 == x.nick) = false := by simpa using hn
        simp [DT.sat, logAdd, logFind, clashAdd, mayXid_eta, len_tab256, allOne, V.one, hm, hs, hn, hn', h0, h1, h2, h3]
  by_cases h5 : a5 = x.src
  · subst h5
    by_cases hs : x.src = me
    · subst hs; simp [DT.sat, logAdd, logFind, clashAdd, mayXid_eta, len_tab256, allOne, V.one, hm, h0, h1, h2, h3, h4]
    · by_cases hn : b5 = x.nick
      · subst hn
        by_cases hl : s5 = x.slot
        · subst hl; simp [DT.sat, logAdd, logFind, clashAdd, mayXid_eta, len_tab256, allOne, V.one, hm, hs, h0, h1, h2, h3, h4]
        · have hl' : (s5 == x.slot) = false := by simpa using hl
          simp [DT.sat, logAdd, logFind, clashAdd, mayXid_eta, len_tab256, allOne, V.one, hm, hs, hl, hl', h0, h1, h2, h3, h4]
      · have hn' : (b5 == x.nick) = false := by simpa using hn
        simp [DT.sat, logAdd, logFind, clashAdd, mayXid_eta, len_tab256, allOne, V.one, hm, hs, hn, hn', h0, h1, h2, h3, h4]
  by_cases h6 : a6 = x.src
  · subst h6
    by_cases hs : x.src = me
    · subst hs; simp [DT.sat, logAdd, logFind, clashAdd, mayXid_eta, len_tab256, allOne, V.one, hm, h0, h1, h2, h3, h4, h5]
    · by_cases hn : b6 = x.nick
      · subst hn
        by_cases hl : s6 = x.slot
        · subst hl; simp [DT.sat, logAdd, logFind, clashAdd, mayXid_eta, len_tab256, allOne, V.one, hm, hs, h0, h1, h2, h3, h4, h5]
        · have hl' : (s6 == x.slot) = false := by simpa using hl
          simp [DT.sat, logAdd, logFind, clashAdd, mayXid_eta, len_tab256, allOne, V.one, hm, hs, hl, hl', h0, h1, h2, h3, h4, h5]
      · have hn' : (b6 == x.nick) = false := by simpa using hn
        simp [DT.sat, logAdd, logFind, clashAdd, mayXid_eta, len_tab256, allOne, V.one, hm, hs, hn, hn', h0, h1, h2, h3, h4, h5]
  by_cases hs : x.src = me
  · subst hs; simp [DT.sat, logAdd, logFind, clashAdd, mayXid_eta, len_tab256, allOne, V.one, hm, h0, h1, h2, h3, h4, h5, h6]
  · simp [DT.sat, logAdd, logFind, clashAdd, mayXid_eta, len_tab256, allOne, V.one, hm, hs, h0, h1, h2, h3, h4, h5, h6]
theorem runAdd7_0 (me : Int) (d0 d1 d2 d3 d4 d5 d6 : Gw.Device) (s0 s1 s2 s3 s4 s5 s6 : Int) (x : Gw.Xid) : Run Tryz.prog 37 [.ptr 3 0, .agg x.vs] (((openAt (smallH [.o 0 (.log ⟨me, some [d0, d1, d2, d3, d4, d5, d6], some [s0, s1, s2, s3, s4, s5, s6], none⟩)]) 3 (.log ⟨me, some [d0, d1, d2, d3, d4, d5, d6], some [s0, s1, s2, s3, s4, s5, s6], none⟩)).put 4 (some (.cells false ([d0, d1, d2, d3, d4, d5, d6].flatMap Gw.Device.vs)))).put 5 (some (.cells false ([s0, s1, s2, s3, s4, s5, s6].map (V.int .i64))))) fun r h => Gw.Ends [.o 0 (.log ⟨me, some [d0, d1, d2, d3, d4, d5, d6], some [s0, s1, s2, s3, s4, s5, s6], none⟩)] [.log (logAdd ⟨me, some [d0, d1, d2, d3, d4, d5, d6], some [s0, s1, s2, s3, s4, s5, s6], none⟩ x).2] [] [.f (.bool (logAdd ⟨me, some [d0, d1, d2, d3, d4, d5, d6], some [s0, s1, s2, s3, s4, s5, s6], none⟩ x).1)] r h :=
  runMono (run_plainU mixed tabM tabD (dIs (by kernel_rfl)) (treeAdd7_0_eq me d0 d1 d2 d3 d4 d5 d6 s0 s1 s2 s3 s4 s5 s6 x) (satAdd7_0 me d0 d1 d2 d3 d4 d5 d6 s0 s1 s2 s3 s4 s5 s6 x)) fun r h hq => by
    simp only [Prod.mk.injEq] at hq
    obtain ⟨rfl, hr⟩ := hq
    obtain ⟨ws, ids, h1, h2, h3, h4⟩ := readLog_ok hr
    exact ends_o h1 h2 h3 h4
def treeAdd8_0 (me : Int) (d0 d1 d2 d3 d4 d5 d6 d7 : Gw.Device) (s0 s1 s2 s3 s4 s5 s6 s7 : Int) (x : Gw.Xid) : DT (V × Option Gw.Log) :=
  .node (!(mayXid ⟨x.src, x.dst, x.slot, x.slots, x.anew, x.nick⟩)) (
    .leaf (.bool false, some (⟨me, some [⟨d0.id, d0.nick⟩, ⟨d1.id, d1.nick⟩, ⟨d2.id, d2.nick⟩, ⟨d3.id, d3.nick⟩, ⟨d4.id, d4.nick⟩, ⟨d5.id, d5.nick⟩, ⟨d6.id, d6.nick⟩, ⟨d7.id, d7.nick⟩], some [s0, s1, s2, s3, s4, s5, s6, s7], none⟩ : Gw.Log))) (
    .ob (2 = 2 ∧ 0 ≤ (0 : Int) ∧ (0 : Int) < ((8 : Nat) : Int)) (
    .node ((d0.id : Int) == x.src) (
      .node ((x.src : Int) == me) (
        .ob ((1 = 1 ∧ ([.int .u32 x.src] : List V).length = 1 * 1) ∧ allOne [.int .u32 x.src] = true ∧ 1 * 4 ≤ 70368744177664) (
        .ob (0 ≤ (1 : Int) ∧ (1 : Int) < (((tab256 : Str).length : Nat) : Int)) (
        .leaf (.bool false, some (⟨me, some [⟨d0.id, d0.nick⟩, ⟨d1.id, d1.nick⟩, ⟨d2.id, d2.nick⟩, ⟨d3.id, d3.nick⟩, ⟨d4.id, d4.nick⟩, ⟨d5.id, d5.nick⟩, ⟨d6.id, d6.nick⟩, ⟨d7.id, d7.nick⟩], some [s0, s1, s2, s3, s4, s5, s6, s7], some [x.src]⟩ : Gw.Log))))) (
        .ob (2 = 2 ∧ 0 ≤ (0 : Int) ∧ (0 : Int) < ((8 : Nat) : Int)) (
        .node ((!((d0.nick : Str) == x.nick)) == false) (
          .ob (1 = 1 ∧ 0 ≤ (0 : Int) ∧ (0 : Int) < ((8 : Nat) : Int)) (
          .node ((s0 : Int) != x.slot) (
            .ob ((1 = 1 ∧ ([.int .u32 x.src] : List V).length = 1 * 1) ∧ allOne [.int .u32 x.src] = true ∧ 1 * 4 ≤ 70368744177664) (
            .ob (0 ≤ (1 : Int) ∧ (1 : Int) < (((tab256 : Str).length : Nat) : Int)) (
            .leaf (.bool false, some (⟨me, some [⟨d0.id, d0.nick⟩, ⟨d1.id, d1.nick⟩, ⟨d2.id, d2.nick⟩, ⟨d3.id, d3.nick⟩, ⟨d4.id, d4.nick⟩, ⟨d5.id, d5.nick⟩, ⟨d6.id, d6.nick⟩, ⟨d7.id, d7.nick⟩], some [s0, s1, s2, s3, s4, s5, s6, s7], some [x.src]⟩ : Gw.Log))))) (
            .leaf (.bool true, some (⟨me, some [⟨d0.id, d0.nick⟩, ⟨d1.id, d1.nick⟩, ⟨d2.id, d2.nick⟩, ⟨d3.id, d3.nick⟩, ⟨d4.id, d4.nick⟩, ⟨d5.id, d5.nick⟩, ⟨d6.id, d6.nick⟩, ⟨d7.id, d7.nick⟩], some [s0, s1, s2, s3, s4, s5, s6, s7], none⟩ : Gw.Log))))) (
          .ob ((1 = 1 ∧ ([.int .u32 x.src] : List V).length = 1 * 1) ∧ allOne [.int .u32 x.src] = true ∧ 1 * 4 ≤ 70368744177664) (
          .ob (0 ≤ (1 : Int) ∧ (1 : Int) < (((tab256 : Str).length : Nat) : Int)) (
          .leaf (.bool false, some (⟨me, some [⟨d0.id, d0.nick⟩, ⟨d1.id, d1.nick⟩, ⟨d2.id, d2.nick⟩, ⟨d3.id, d3.nick⟩, ⟨d4.id, d4.nick⟩, ⟨d5.id, d5.nick⟩, ⟨d6.id, d6.nick⟩, ⟨d7.id, d7.nick⟩], some [s0, s1, s2, s3, s4, s5, s6, s7], some [x.src]⟩ : Gw.Log)))))))) (
      .ob (2 = 2 ∧ 0 ≤ (1 : Int) ∧ (1 : Int) < ((8 : Nat) : Int)) (
      .node ((d1.id : Int) == x.src) (
        .node ((x.src : Int) == me) (
          .ob ((1 = 1 ∧ ([.int .u32 x.src] : List V).length = 1 * 1) ∧ allOne [.int .u32 x.src] = true ∧ 1 * 4 ≤ 70368744177664) (
          .ob (0 ≤ (1 : Int) ∧ (1 : Int) < (((tab256 : Str).length : Nat) : Int)) (
          .leaf (.bool false, some (⟨me, some [⟨d0.id, d0.nick⟩, ⟨d1.id, d1.nick⟩, ⟨d2.id, d2.nick⟩, ⟨d3.id, d3.nick⟩, ⟨d4.id, d4.nick⟩, ⟨d5.id, d5.nick⟩, ⟨d6.id, d6.nick⟩, ⟨d7.id, d7.nick⟩], some [s0, s1, s2, s3, s4, s5, s6, s7], some [x.src]⟩ : Gw.Log))))) (
          .ob (2 = 2 ∧ 0 ≤ (1 : Int) ∧ (1 : Int) < ((8 : Nat) : Int)) (
          .node ((!((d1.nick : Str) == x.nick)) == false) (
            .ob (1 = 1 ∧ 0 ≤ (1 : Int) ∧ (1 : Int) < ((8 : Nat) : Int)) (
            .node ((s1 : Int) != x.slot) (
              .ob ((1 = 1 ∧ ([.int .u32 x.src] : List V).length = 1 * 1) ∧ allOne [.int .u32 x.src] = true ∧ 1 * 4 ≤ 70368744177664) (
              .ob (0 ≤ (1 : Int) ∧ (1 : Int) < (((tab256 : Str).length : Nat) : Int)) (
              .leaf (.bool false, some (⟨me, some [⟨d0.id, d0.nick⟩, ⟨d1.id, d1.nick⟩, ⟨d2.id, d2.nick⟩, ⟨d3.id, d3.nick⟩, ⟨d4.id, d4.nick⟩, ⟨d5.id, d5.nick⟩, ⟨d6.id, d6.nick⟩, ⟨d7.id, d7.nick⟩], some [s0, s1, s2, s3, s4, s5, s6, s7], some [x.src]⟩ : Gw.Log))))) (
              .leaf (.bool true, some (⟨me, some [⟨d0.id, d0.nick⟩, ⟨d1.id, d1.nick⟩, ⟨d2.id, d2.nick⟩, ⟨d3.id, d3.nick⟩, ⟨d4.id, d4.nick⟩, ⟨d5.id, d5.nick⟩, ⟨d6.id, d6.nick⟩, ⟨d7.id, d7.nick⟩], some [s0, s1, s2, s3, s4, s5, s6, s7], none⟩ : Gw.Log))))) (
            .ob ((1 = 1 ∧ ([.int .u32 x.src] : List V).length = 1 * 1) ∧ allOne [.int .u32 x.src] = true ∧ 1 * 4 ≤ 70368744177664) (
            .ob (0 ≤ (1 : Int) ∧ (1 : Int) < (((tab256 : Str).length : Nat) : Int)) (
            .leaf (.bool false, some (⟨me, some [⟨d0.id, d0.nick⟩, ⟨d1.id, d1.nick⟩, ⟨d2.id, d2.nick⟩, ⟨d3.id, d3.nick⟩, ⟨d4.id, d4.nick⟩, ⟨d5.id, d5.nick⟩, ⟨d6.id, d6.nick⟩, ⟨d7.id, d7.nick⟩], some [s0, s1, s2, s3, s4, s5, s6, s7], some [x.src]⟩ : Gw.Log)))))))) (
        .ob (2 = 2 ∧ 0 ≤ (2 : Int) ∧ (2 : Int) < ((8 : Nat) : Int)) (
        .node ((d2.id : Int) == x.src) (
          .node ((x.src : Int) == me) (
            .ob ((1 = 1 ∧ ([.int .u32 x.src] : List V).length = 1 * 1) ∧ allOne [.int .u32 x.src] = true ∧ 1 * 4 ≤ 70368744177664) (
            .ob (0 ≤ (1 : Int) ∧ (1 : Int) < (((tab256 : Str).length : Nat) : Int)) (
            .leaf (.bool false, some (⟨me, some [⟨d0.id, d0.nick⟩, ⟨d1.id, d1.nick⟩, ⟨d2.id, d2.nick⟩, ⟨d3.id, d3.nick⟩, ⟨d4.id, d4.nick⟩, ⟨d5.id, d5.nick⟩, ⟨d6.id, d6.nick⟩, ⟨d7.id, d7.nick⟩], some [s0, s1, s2, s3, s4, s5, s6, s7], some [x.src]⟩ : Gw.Log))))) (
            .ob (2 = 2 ∧ 0 ≤ (2 : Int) ∧ (2 : Int) < ((8 : Nat) : Int)) (
            .node ((!((d2.nick : Str) == x.nick)) == false) (
              .ob (1 = 1 ∧ 0 ≤ (2 : Int) ∧ (2 : Int) < ((8 : Nat) : Int)) (
              .node ((s2 : Int) != x.slot) (
                .ob ((1 = 1 ∧ ([.int .u32 x.src] : List V).length = 1 * 1) ∧ allOne [.int .u32 x.src] = true ∧ 1 * 4 ≤ 70368744177664) (
                .ob (0 ≤ (1 : Int) ∧ (1 : Int) < (((tab256 : Str).length : Nat) : Int)) (
                .leaf (.bool false, some (⟨me, some [⟨d0.id, d0.nick⟩, ⟨d1.id, d1.nick⟩, ⟨d2.id, d2.nick⟩, ⟨d3.id, d3.nick⟩, ⟨d4.id, d4.nick⟩, ⟨d5.id, d5.nick⟩, ⟨d6.id, d6.nick⟩, ⟨d7.id, d7.nick⟩], some [s0, s1, s2, s3, s4, s5, s6, s7], some [x.src]⟩ : Gw.Log))))) (
                .leaf (.bool true, some (⟨me, some [⟨d0.id, d0.nick⟩, ⟨d1.id, d1.nick⟩, ⟨d2.id, d2.nick⟩, ⟨d3.id, d3.nick⟩, ⟨d4.id, d4.nick⟩, ⟨d5.id, d5.nick⟩, ⟨d6.id, d6.nick⟩, ⟨d7.id, d7.nick⟩], some [s0, s1, s2, s3, s4, s5, s6, s7], none⟩ : Gw.Log))))) (
              .ob ((1 = 1 ∧ ([.int .u32 x.src] : List V).length = 1 * 1) ∧ allOne [.int .u32 x.src] = true ∧ 1 * 4 ≤ 70368744177664) (
              .ob (0 ≤ (1 : Int) ∧ (1 : Int) < (((tab256 : Str).length : Nat) : Int)) (
              .leaf (.bool false, some (⟨me, some [⟨d0.id, d0.nick⟩, ⟨d1.id, d1.nick⟩, ⟨d2.id, d2.nick⟩, ⟨d3.id, d3.nick⟩, ⟨d4.id, d4.nick⟩, ⟨d5.id, d5.nick⟩, ⟨d6.id, d6.nick⟩, ⟨d7.id, d7.nick⟩], some [s0, s1, s2, s3, s4, s5, s6, s7], some [x.src]⟩ : Gw.Log)))))))) (
          .ob (2 = 2 ∧ 0 ≤ (3 : Int) ∧ (3 : Int) < ((8 : Nat) : Int)) (
          .node ((d3.id : Int) == x.src) (
            .node ((x.src : Int) == me) (
              .ob ((1 = 1 ∧ ([.int .u32 x.src] : List V).length = 1 * 1) ∧ allOne [.int .u32 x.src] = true ∧ 1 * 4 ≤ 70368744177664) (
              .ob (0 ≤ (1 : Int) ∧ (1 : Int) < (((tab256 : Str).length : Nat) : Int)) (
              .leaf (.bool false, some (⟨me, some [⟨d0.id, d0.nick⟩, ⟨d1.id, d1.nick⟩, ⟨d2.id, d2.nick⟩, ⟨d3.id, d3.nick⟩, ⟨d4.id, d4.nick⟩, ⟨d5.id, d5.nick⟩, ⟨d6.id, d6.nick⟩, ⟨d7.id, d7.nick⟩], some [s0, s1, s2, s3, s4, s5, s6, s7], some [x.src]⟩ : Gw.Log))))) (
              .ob (2 = 2 ∧ 0 ≤ (3 : Int) ∧ (3 : Int) < ((8 : Nat) : Int)) (
              .node ((!((d3.nick : Str) == x.nick)) == false) (
                .ob (1 = 1 ∧ 0 ≤ (3 : Int) ∧ (3 : Int) < ((8 : Nat) : Int)) (
                .node ((s3 : Int) != x.slot) (
                  .ob ((1 = 1 ∧ ([.int .u32 x.src] : List V).length = 1 * 1) ∧ allOne [.int .u32 x.src] = true ∧ 1 * 4 ≤ 70368744177664) (
                  .ob (0 ≤ (1 : Int) ∧ (1 : Int) < (((tab256 : Str).length : Nat) : Int)) (
                  .leaf (.bool false, some (⟨me, some [⟨d0.id, d0.nick⟩, ⟨d1.id, d1.nick⟩, ⟨d2.id, d2.nick⟩, ⟨d3.id, d3.nick⟩, ⟨d4.id, d4.nick⟩, ⟨d5.id, d5.nick⟩, ⟨d6.id, d6.nick⟩, ⟨d7.id, d7.nick⟩], some [s0, s1, s2, s3, s4, s5, s6, s7], some [x.src]⟩ : Gw.Log))))) (
                  .leaf (.bool true, some (⟨me, some [⟨d0.id, d0.nick⟩, ⟨d1.id, d1.nick⟩, ⟨d2.id, d2.nick⟩, ⟨d3.id, d3.nick⟩, ⟨d4.id, d4.nick⟩, ⟨d5.id, d5.nick⟩, ⟨d6.id, d6.nick⟩, ⟨d7.id, d7.nick⟩], some [s0, s1, s2, s3, s4, s5, s6, s7], none⟩ : Gw.Log))))) (
                .ob ((1 = 1 ∧ ([.int .u32 x.src] : List V).length = 1 * 1) ∧ allOne [.int .u32 x.src] = true ∧ 1 * 4 ≤ 70368744177664) (
                .ob (0 ≤ (1 : Int) ∧ (1 : Int) < (((tab256 : Str).length : Nat) : Int)) (
                .leaf (.bool false, some (⟨me, some [⟨d0.id, d0.nick⟩, ⟨d1.id, d1.nick⟩, ⟨d2.id, d2.nick⟩, ⟨d3.id, d3.nick⟩, ⟨d4.id, d4.nick⟩, ⟨d5.id, d5.nick⟩, ⟨d6.id, d6.nick⟩, ⟨d7.id, d7.nick⟩], some [s0, s1, s2, s3, s4, s5, s6, s7], some [x.src]⟩ : Gw.Log)))))))) (
            .ob (2 = 2 ∧ 0 ≤ (4 : Int) ∧ (4 : Int) < ((8 : Nat) : Int)) (
            .node ((d4.id : Int) == x.src) (
              .node ((x.src : Int) == me) (
                .ob ((1 = 1 ∧ ([.int .u32 x.src] : List V).length = 1 * 1) ∧ allOne [.int .u32 x.src] = true ∧ 1 * 4 ≤ 70368744177664) (
                .ob (0 ≤ (1 : Int) ∧ (1 : Int) < (((tab256 : Str).length : Nat) : Int)) (
                .leaf (.bool false, some (⟨me, some [⟨d0.id, d0.nick⟩, ⟨d1.id, d1.nick⟩, ⟨d2.id, d2.nick⟩, ⟨d3.id, d3.nick⟩, ⟨d4.id, d4.nick⟩, ⟨d5.id, d5.nick⟩, ⟨d6.id, d6.nick⟩, ⟨d7.id, d7.nick⟩], some [s0, s1, s2, s3, s4, s5, s6, s7], some [x.src]⟩ : Gw.Log))))) (
                .ob (2 = 2 ∧ 0 ≤ (4 : Int) ∧ (4 : Int) < ((8 : Nat) : Int)) (
                .node ((!((d4.nick : Str) == x.nick)) == false) (
                  .ob (1 = 1 ∧ 0 ≤ (4 : Int) ∧ (4 : Int) < ((8 : Nat) : Int)) (
                  .node ((s4 : Int) != x.slot) (
                    .ob ((1 = 1 ∧ ([.int .u32 x.src] : List V).length = 1 * 1) ∧ allOne [.int .u32 x.src] = true ∧ 1 * 4 ≤ 70368744177664) (
                    .ob (0 ≤ (1 : Int) ∧ (1 : Int) < (((tab256 : Str).length : Nat) : Int)) (
                    .leaf (.bool false, some (⟨me, some [⟨d0.id, d0.nick⟩, ⟨d1.id, d1.nick⟩, ⟨d2.id, d2.nick⟩, ⟨d3.id, d3.nick⟩, ⟨d4.id, d4.nick⟩, ⟨d5.id, d5.nick⟩, ⟨d6.id, d6.nick⟩, ⟨d7.id, d7.nick⟩], some [s0, s1, s2, s3, s4, s5, s6, s7], some [x.src]⟩ : Gw.Log))))) (
                    .leaf (.bool true, some (⟨me, some [⟨d0.id, d0.nick⟩, ⟨d1.id, d1.nick⟩, ⟨d2.id, d2.nick⟩, ⟨d3.id, d3.nick⟩, ⟨d4.id, d4.nick⟩, ⟨d5.id, d5.nick⟩, ⟨d6.id, d6.nick⟩, ⟨d7.id, d7.nick⟩], some [s0, s1, s2, s3, s4, s5, s6, s7], none⟩ : Gw.Log))))) (
                  .ob ((1 = 1 ∧ ([.int .u32 x.src] : List V).length = 1 * 1) ∧ allOne [.int .u32 x.src] = true ∧ 1 * 4 ≤ 70368744177664) (
                  .ob (0 ≤ (1 : Int) ∧ (1 : Int) < (((tab256 : Str).length : Nat) : Int)) (
                  .leaf (.bool false, some (⟨me, some [⟨d0.id, d0.nick⟩, ⟨d1.id, d1.nick⟩, ⟨d2.id, d2.nick⟩, ⟨d3.id, d3.nick⟩, ⟨d4.id, d4.nick⟩, ⟨d5.id, d5.nick⟩, ⟨d6.id, d6.nick⟩, ⟨d7.id, d7.nick⟩], some [s0, s1, s2, s3, s4, s5, s6, s7], some [x.src]⟩ : Gw.Log)))))))) (
              .ob (2 = 2 ∧ 0 ≤ (5 : Int) ∧ (5 : Int) < ((8 : Nat) : Int)) (
              .node ((d5.id : Int) == x.src) (
                .node ((x.src : Int) == me) (
                  .ob ((1 = 1 ∧ ([.int .u32 x.src] : List V).length = 1 * 1) ∧ allOne [.int .u32 x.src] = true ∧ 1 * 4 ≤ 70368744177664) (
                  .ob (0 ≤ (1 : Int) ∧ (1 : Int) < (((tab256 : Str).length : Nat) : Int)) (
                  .leaf (.bool false, some (⟨me, some [⟨d0.id, d0.nick⟩, ⟨d1.id, d1.nick⟩, ⟨d2.id, d2.nick⟩, ⟨d3.id, d3.nick⟩, ⟨d4.id, d4.nick⟩, ⟨d5.id, d5.nick⟩, ⟨d6.id, d6.nick⟩, ⟨d7.id, d7.nick⟩], some [s0, s1, s2, s3, s4, s5, s6, s7], some [x.src]⟩ : Gw.Log))))) (
                  .ob (2 = 2 ∧ 0 ≤ (5 : Int) ∧ (5 : Int) < ((8 : Nat) : Int)) (
                  .node ((!((d5.nick : Str) == x.nick)) == false) (
                    .ob (1 = 1 ∧ 0 ≤ (5 : Int) ∧ (5 : Int) < ((8 : Nat) : Int)) (
                    .node ((s5 : Int) != x.slot) (
                      .ob ((1 = 1 ∧ ([.int .u32 x.src] : List V).length = 1 * 1) ∧ allOne [.int .u32 x.src] = true ∧ 1 * 4 ≤ 70368744177664) (
                      .ob (0 ≤ (1 : Int) ∧ (1 : Int) < (((tab256 : Str).length : Nat) : Int)) (
                      .leaf (.bool false, some (⟨me, some [⟨d0.id, d0.nick⟩, ⟨d1.id, d1.nick⟩, ⟨d2.id, d2.nick⟩, ⟨d3.id, d3.nick⟩, ⟨d4.id, d4.nick⟩, ⟨d5.id, d5.nick⟩, ⟨d6.id, d6.nick⟩, ⟨d7.id, d7.nick⟩], some [s0, s1, s2, s3, s4, s5, s6, s7], some [x.src]⟩ : Gw.Log))))) (
                      .leaf (.bool true, some (⟨me, some [⟨d0.id, d0.nick⟩, ⟨d1.id, d1.nick⟩, ⟨d2.id, d2.nick⟩, ⟨d3.id, d3.nick⟩, ⟨d4.id, d4.nick⟩, ⟨d5.id, d5.nick⟩, ⟨d6.id, d6.nick⟩, ⟨d7.id, d7.nick⟩], some [s0, s1, s2, s3, s4, s5, s6, s7], none⟩ : Gw.Log))))) (
                    .ob ((1 = 1 ∧ ([.int .u32 x.src] : List V).length = 1 * 1) ∧ allOne [.int .u32 x.src] = true ∧ 1 * 4 ≤ 70368744177664) (
                    .ob (0 ≤ (1 : Int) ∧ (1 : Int) < (((tab256 : Str).length : Nat) : Int)) (
                    .leaf (.bool false, some (⟨me, some [⟨d0.id, d0.nick⟩, ⟨d1.id, d1.nick⟩, ⟨d2.id, d2.nick⟩, ⟨d3.id, d3.nick⟩, ⟨d4.id, d4.nick⟩, ⟨d5.id, d5.nick⟩, ⟨d6.id, d6.nick⟩, ⟨d7.id, d7.nick⟩], some [s0, s1, s2, s3, s4, s5, s6, s7], some [x.src]⟩ : Gw.Log)))))))) (
                .ob (2 = 2 ∧ 0 ≤ (6 : Int) ∧ (6 : Int) < ((8 : Nat) : Int)) (
                .node ((d6.id : Int) == x.src) (
                  .node ((x.src : Int) == me) (
                    .ob ((1 = 1 ∧ ([.int .u32 x.src] : List V).length = 1 * 1) ∧ allOne [.int .u32 x.src] = true ∧ 1 * 4 ≤ 70368744177664) (
                    .ob (0 ≤ (1 : Int) ∧ (1 : Int) < (((tab256 : Str).length : Nat) : Int)) (
                    .leaf (.bool false, some (⟨me, some [⟨d0.id, d0.nick⟩, ⟨d1.id, d1.nick⟩, ⟨d2.id, d2.nick⟩, ⟨d3.id, d3.nick⟩, ⟨d4.id, d4.nick⟩, ⟨d5.id, d5.nick⟩, ⟨d6.id, d6.nick⟩, ⟨d7.id, d7.nick⟩], some [s0, s1, s2, s3, s4, s5, s6, s7], some [x.src]⟩ : Gw.Log))))) (
                    .ob (2 = 2 ∧ 0 ≤ (6 : Int) ∧ (6 : Int) < ((8 : Nat) : Int)) (
                    .node ((!((d6.nick : Str) == x.nick)) == false) (
                      .ob (1 = 1 ∧ 0 ≤ (6 : Int) ∧ (6 : Int) < ((8 : Nat) : Int)) (
                      .node ((s6 : Int) != x.slot) (
                        .ob ((1 = 1 ∧ ([.int .u32 x.src] : List V).length = 1 * 1) ∧ allOne [.int .u32 x.src] = true ∧ 1 * 4 ≤ 70368744177664) (
                        .ob (0 ≤ (1 : Int) ∧ (1 : Int) < (((tab256 : Str).length : Nat) : Int)) (
                        .leaf (.bool false, some (⟨me, some [⟨d0.id, d0.nick⟩, ⟨d1.id, d1.nick⟩, ⟨d2.id, d2.nick⟩, ⟨d3.id, d3.nick⟩, ⟨d4.id, d4.nick⟩, ⟨d5.id, d5.nick⟩, ⟨d6.id, d6.nick⟩, ⟨d7.id, d7.nick⟩], some [s0, s1, s2, s3, s4, s5, s6, s7], some [x.src]⟩ : Gw.Log))))) (
                        .leaf (.bool true, some (⟨me, some [⟨d0.id, d0.nick⟩, ⟨d1.id, d1.nick⟩, ⟨d2.id, d2.nick⟩, ⟨d3.id, d3.nick⟩, ⟨d4.id, d4.nick⟩, ⟨d5.id, d5.nick⟩, ⟨d6.id, d6.nick⟩, ⟨d7.id, d7.nick⟩], some [s0, s1, s2, s3, s4, s5, s6, s7], none⟩ : Gw.Log))))) (
                      .ob ((1 = 1 ∧ ([.int .u32 x.src] : List V).length = 1 * 1) ∧ allOne [.int .u32 x.src] = true ∧ 1 * 4 ≤ 70368744177664) (
                      .ob (0 ≤ (1 : Int) ∧ (1 : Int) < (((tab256 : Str).length : Nat) : Int)) (
                      .leaf (.bool false, some (⟨me, some [⟨d0.id, d0.nick⟩, ⟨d1.id, d1.nick⟩, ⟨d2.id, d2.nick⟩, ⟨d3.id, d3.nick⟩, ⟨d4.id, d4.nick⟩, ⟨d5.id, d5.nick⟩, ⟨d6.id, d6.nick⟩, ⟨d7.id, d7.nick⟩], some [s0, s1, s2, s3, s4, s5, s6, s7], some [x.src]⟩ : Gw.Log)))))))) (
                  .ob (2 = 2 ∧ 0 ≤ (7 : Int) ∧ (7 : Int) < ((8 : Nat) : Int)) (
                  .node ((d7.id : Int) == x.src) (
                    .node ((x.src : Int) == me) (
                      .ob ((1 = 1 ∧ ([.int .u32 x.src] : List V).length = 1 * 1) ∧ allOne [.int .u32 x.src] = true ∧ 1 * 4 ≤ 70368744177664) (
                      .ob (0 ≤ (1 : Int) ∧ (1 : Int) < (((tab256 : Str).length : Nat) : Int)) (
                      .leaf (.bool false, some (⟨me, some [⟨d0.id, d0.nick⟩, ⟨d1.id, d1.nick⟩, ⟨d2.id, d2.nick⟩, ⟨d3.id, d3.nick⟩, ⟨d4.id, d4.nick⟩, ⟨d5.id, d5.nick⟩, ⟨d6.id, d6.nick⟩, ⟨d7.id, d7.nick⟩], some [s0, s1, s2, s3, s4, s5, s6, s7], some [x.src]⟩ : Gw.Log))))) (
                      .ob (2 = 2 ∧ 0 ≤ (7 : Int) ∧ (7 : Int) < ((8 : Nat) : Int)) (
                      .node ((!((d7.nick : Str) == x.nick)) == false) (
                        .ob (1 = 1 ∧ 0 ≤ (7 : Int) ∧ (7 : Int) < ((8 : Nat) : Int)) (
                        .node ((s7 : Int) != x.slot) (
                          .ob ((1 = 1 ∧ ([.int .u32 x.src] : List V).length = 1 * 1) ∧ allOne [.int .u32 x.src] = true ∧ 1 * 4 ≤ 70368744177664) (
                          .ob (0 ≤ (1 : Int) ∧ (1 : Int) < (((tab256 : Str).length : Nat) : Int)) (
                          .leaf (.bool false, some (⟨me, some [⟨d0.id, d0.nick⟩, ⟨d1.id, d1.nick⟩, ⟨d2.id, d2.nick⟩, ⟨d3.id, d3.nick⟩, ⟨d4.id, d4.nick⟩, ⟨d5.id, d5.nick⟩, ⟨d6.id, d6.nick⟩, ⟨d7.id, d7.nick⟩], some [s0, s1, s2, s3, s4, s5, s6, s7], some [x.src]⟩ : Gw.Log))))) (
                          .leaf (.bool true, some (⟨me, some [⟨d0.id, d0.nick⟩, ⟨d1.id, d1.nick⟩, ⟨d2.id, d2.nick⟩, ⟨d3.id, d3.nick⟩, ⟨d4.id, d4.nick⟩, ⟨d5.id, d5.nick⟩, ⟨d6.id, d6.nick⟩, ⟨d7.id, d7.nick⟩], some [s0, s1, s2, s3, s4, s5, s6, s7], none⟩ : Gw.Log))))) (
                        .ob ((1 = 1 ∧ ([.int .u32 x.src] : List V).length = 1 * 1) ∧ allOne [.int .u32 x.src] = true ∧ 1 * 4 ≤ 70368744177664) (
                        .ob (0 ≤ (1 : Int) ∧ (1 : Int) < (((tab256 : Str).length : Nat) : Int)) (
                        .leaf (.bool false, some (⟨me, some [⟨d0.id, d0.nick⟩, ⟨d1.id, d1.nick⟩, ⟨d2.id, d2.nick⟩, ⟨d3.id, d3.nick⟩, ⟨d4.id, d4.nick⟩, ⟨d5.id, d5.nick⟩, ⟨d6.id, d6.nick⟩, ⟨d7.id, d7.nick⟩], some [s0, s1, s2, s3, s4, s5, s6, s7], some [x.src]⟩ : Gw.Log)))))))) (
                    .node ((x.src : Int) == me) (
                      .ob ((1 = 1 ∧ ([.int .u32 x.src] : List V).length = 1 * 1) ∧ allOne [.int .u32 x.src] = true ∧ 1 * 4 ≤ 70368744177664) (
                      .ob (0 ≤ (1 : Int) ∧ (1 : Int) < (((tab256 : Str).length : Nat) : Int)) (
                      .leaf (.bool false, some (⟨me, some [⟨d0.id, d0.nick⟩, ⟨d1.id, d1.nick⟩, ⟨d2.id, d2.nick⟩, ⟨d3.id, d3.nick⟩, ⟨d4.id, d4.nick⟩, ⟨d5.id, d5.nick⟩, ⟨d6.id, d6.nick⟩, ⟨d7.id, d7.nick⟩], some [s0, s1, s2, s3, s4, s5, s6, s7], some [x.src]⟩ : Gw.Log))))) (
                      .ob ((2 = 2 ∧ ([.int .u32 x.src, .str x.nick] : List V).length = 1 * 2) ∧ allOne [.int .u32 x.src, .str x.nick] = true ∧ 2 = 2 ∧ 9 * 24 ≤ 70368744177664 ∧ ([.int .u32 d0.id, .str d0.nick, .int .u32 d1.id, .str d1.nick, .int .u32 d2.id, .str d2.nick, .int .u32 d3.id, .str d3.nick, .int .u32 d4.id, .str d4.nick, .int .u32 d5.id, .str d5.nick, .int .u32 d6.id, .str d6.nick, .int .u32 d7.id, .str d7.nick] : List V).length = 8 * 2) (
                      .ob ((1 = 1 ∧ ([.int .i64 x.slot] : List V).length = 1 * 1) ∧ allOne [.int .i64 x.slot] = true ∧ 1 = 1 ∧ 9 * 8 ≤ 70368744177664 ∧ ([.int .i64 s0, .int .i64 s1, .int .i64 s2, .int .i64 s3, .int .i64 s4, .int .i64 s5, .int .i64 s6, .int .i64 s7] : List V).length = 8 * 1) (
                      .leaf (.bool true, some (⟨me, some [⟨d0.id, d0.nick⟩, ⟨d1.id, d1.nick⟩, ⟨d2.id, d2.nick⟩, ⟨d3.id, d3.nick⟩, ⟨d4.id, d4.nick⟩, ⟨d5.id, d5.nick⟩, ⟨d6.id, d6.nick⟩, ⟨d7.id, d7.nick⟩, ⟨x.src, x.nick⟩], some [s0, s1, s2, s3, s4, s5, s6, s7, x.slot], none⟩ : Gw.Log))))))))))))))))))))))
set_option maxRecDepth 1000000 in
theorem treeAdd8_0_eq (me : Int) (d0 d1 d2 d3 d4 d5 d6 d7 : Gw.Device) (s0 s1 s2 s3 s4 s5 s6 s7 : Int) (x : Gw.Xid) : funT (mkXT pxM noOX) (mkXP pxM) (mkX pxM noOX) D (fun _ => noOrc) (fun k => match k with | 37 => [28, 57, 60, 67] | 62 => [9] | 76 => [8] | 91 => [23] | 108 => [12] | 118 => [4, 8, 14] | _ => []) 12 noOrc [28, 57, 60, 67] noLt (dOf 37) [.ptr 3 0, .agg x.vs] (((openAt (smallH [.o 0 (.log ⟨me, some [d0, d1, d2, d3, d4, d5, d6, d7], some [s0, s1, s2, s3, s4, s5, s6, s7], none⟩)]) 3 (.log ⟨me, some [d0, d1, d2, d3, d4, d5, d6, d7], some [s0, s1, s2, s3, s4, s5, s6, s7], none⟩)).put 4 (some (.cells false ([d0, d1, d2, d3, d4, d5, d6, d7].flatMap Gw.Device.vs)))).put 5 (some (.cells false ([s0, s1, s2, s3, s4, s5, s6, s7].map (V.int .i64))))) (fun v h => (v, readLog h 3)) = treeAdd8_0 me d0 d1 d2 d3 d4 d5 d6 d7 s0 s1 s2 s3 s4 s5 s6 s7 x := by kernel_rfl
set_option maxHeartbeats 4000000 in
theorem satAdd8_0 (me : Int) (d0 d1 d2 d3 d4 d5 d6 d7 : Gw.Device) (s0 s1 s2 s3 s4 s5 s6 s7 : Int) (x : Gw.Xid) : (treeAdd8_0 me d0 d1 d2 d3 d4 d5 d6 d7 s0 s1 s2 s3 s4 s5 s6 s7 x).sat fun p => p = (.bool (logAdd ⟨me, some [d0, d1, d2, d3, d4, d5, d6, d7], some [s0, s1, s2, s3, s4, s5, s6, s7], none⟩ x).1, some (logAdd ⟨me, some [d0, d1, d2, d3, d4, d5, d6, d7], some [s0, s1, s2, s3, s4, s5, s6, s7], none⟩ x).2) := by
  obtain ⟨a0, b0⟩ := d0
  obtain ⟨a1, b1⟩ := d1
  obtain ⟨a2, b2⟩ := d2
  obtain ⟨a3, b3⟩ := d3
  obtain ⟨a4, b4⟩ := d4
  obtain ⟨a5, b5⟩ := d5
  obtain ⟨a6, b6⟩ := d6
  obtain ⟨a7, b7⟩ := d7
  unfold treeAdd8_0
  cases hm : mayXid x with
  | false => simp [DT.sat, logAdd, logFind, clashAdd, mayXid_eta, len_tab256, allOne, V.one, hm]
  | true =>
  by_cases h0 : a0 = x.src
  · subst h0
    by_cases hs : x.src = me
    · subst hs; simp [DT.sat, logAdd, logFind, clashAdd, mayXid_eta, len_tab256, allOne, V.one, hm]
    · by_cases hn : b0 = x.nick
      · subst hn
        by_cases hl : s0 = x.slot
        · subst hl; simp [DT.sat, logAdd, logFind, clashAdd, mayXid_eta, len_tab256, allOne, V.one, hm, hs]
        · have hl' : (s0 == x.slot) = false := by simpa using hl
          simp [DT.sat, logAdd, logFind, clashAdd, mayXid_eta, len_tab256, allOne, V.one, hm, hs, hl, hl']
      · have hn' : (b0 == x.nick) = false := by simpa using hn
        simp [DT.sat, logAdd, logFind, clashAdd, mayXid_eta, len_tab256, allOne, V.one, hm, hs, hn, hn']
  by_cases h1 : a1 = x.src
  · subst h1
    by_cases hs : x.src = me
    · subst hs; simp [DT.sat, logAdd, logFind, clashAdd, mayXid_eta, len_tab256, allOne, V.one, hm, h0]
    · by_cases hn : b1 = x.nick
      · subst hn
        by_cases hl : s1 = x.slot
        · subst hl; simp [DT.sat, logAdd, logFind, clashAdd, mayXid_eta, len_tab256, allOne, V.one, hm, hs, h0]
        · have hl' : (s1 == x.slot) = false := by simpa using hl
          simp [DT.sat, logAdd, logFind, clashAdd, mayXid_eta, len_tab256, allOne, V.one, hm, hs, hl, hl', h0]
      · have hn' : (b1 == x.nick) = false := by simpa using hn
        simp [DT.sat, logAdd, logFind, clashAdd, mayXid_eta, len_tab256, allOne, V.one, hm, hs, hn, hn', h0]
  by_cases h2 : a2 = x.src
  · subst h2
    by_cases hs : x.src = me
    · subst hs; simp [DT.sat, logAdd, logFind, clashAdd, mayXid_eta, len_tab256, allOne, V.one, hm, h0, h1]
    · by_cases hn : b2 = x.nick
      · subst hn
        by_cases hl : s2 = x.slot
        · subst hl; simp [DT.sat, logAdd, logFind, clashAdd, mayXid_eta, len_tab256, allOne, V.one, hm, hs, h0, h1]
        · have hl' : (s2 == x.slot) = false := by simpa using hl
          simp [DT.sat, logAdd, logFind, clashAdd, mayXid_eta, len_tab256, allOne, V.one, hm, hs, hl, hl', h0, h1]
      · have hn' : (b2 == x.nick) = false := by simpa using hn
        simp [DT.sat, logAdd, logFind, clashAdd, mayXid_eta, len_tab256, allOne, V.one, hm, hs, hn, hn', h0, h1]
  by_cases h3 : a3 = x.src
  · subst h3
    by_cases hs : x.src = me
    · subst hs; simp [DT.sat, logAdd, logFind, clashAdd, mayXid_eta, len_tab256, allOne, V.one, hm, h0, h1, h2]
    · by_cases hn : b3 = x.nick
      · subst hn
        by_cases hl : s3 = x.slot
        · subst hl; simp [DT.sat, logAdd, logFind, clashAdd, mayXid_eta, len_tab256, allOne, V.one, hm, hs, h0, h1, h2]
        · have hl' : (s3 == x.slot) = false := by simpa using hl
          simp [DT.sat, logAdd, logFind, clashAdd, mayXid_eta, len_tab256, allOne, V.one, hm, hs, hl, hl', h0, h1, h2]
      · have hn' : (b3 == x.nick) = false := by simpa using hn
        simp [DT.sat, logAdd, logFind, clashAdd, mayXid_eta, len_tab256, allOne, V.one, hm, hs, hn, hn', h0, h1, h2]
  by_cases h4 : a4 = x.src
  · subst h4
    by_cases hs : x.src = me
    · subst hs; simp [DT.sat, logAdd, logFind, clashAdd, mayXid_eta, len_tab256, allOne, V.one, hm, h0, h1, h2, h3]
    · by_cases hn : b4 = x.nick
      · subst hn
        by_cases hl : s4 = x.slot
        · subst hl; simp [DT.sat, logAdd, logFind, clashAdd, mayXid_eta, len_tab256, allOne, V.one, hm, hs, h0, h1, h2, h3]
        · have hl' : (s4 == x.slot) = false := by simpa using hl
          simp [DT.sat, logAdd, logFind, clashAdd, mayXid_eta, len_tab256, allOne, V.one, hm, hs, hl, hl', h0, h1, h2, h3]
      · have hn' : (b4 == x.nick) = false := by simpa using hn
        simp [DT.sat, logAdd, logFind, clashAdd, mayXid_eta, len_tab256, allOne, V.one, hm, hs, hn, hn', h0, h1, h2, h3]
  by_cases h5 : a5 = x.src
  · subst h5
    by_cases hs : x.src = me
    · subst hs; simp [DT.sat, logAdd, logFind, clashAdd, mayXid_eta, len_tab256, allOne, V.one, hm, h0, h1, h2, h3, h4]
    · by_cases hn : b5 = x.nick
      · subst hn
        by_cases hl : s5 = x.slot
        · subst hl; simp [DT.sat, logAdd, logFind, clashAdd, mayXid_eta, len_tab256, allOne, V.one, hm, hs, h0, h1, h2, h3, h4]
        · have hl' : (s5 == x.slot) = false := by simpa using hl
          simp [DT.sat, logAdd, logFind, clashAdd, mayXid_eta, len_tab256, allOne, V.one, hm, hs, hl, hl', h0, h1, h2, h3, h4]
      · have hn' : (b5 == x.nick) = false := by simpa using hn
        simp [DT.sat, logAdd, logFind, clashAdd, mayXid_eta, len_tab256, allOne, V.one, hm, hs, hn, hn', h0, h1, h2, h3, h4]
  by_cases h6 : a6 = x.src
  · subst h6
    by_cases hs : x.src = me
    · subst hs; simp [DT.sat, logAdd, logFind, clashAdd, mayXid_eta, len_tab256, allOne, V.one, hm, h0, h1, h2, h3, h4, h5]
    · by_cases hn : b6 = x.nick
      · subst hn
        by_cases hl : s6 = x.slot
        · subst hl; simp [DT.sat, logAdd, logFind, clashAdd, mayXid_eta, len_tab256, allOne, V.one, hm, hs, h0, h1, h2, h3, h4, h5]
        · have hl' : (s6 == x.slot) = false := by simpa using hl
          simp [DT.sat, logAdd, logFind, clashAdd, mayXid_eta, len_tab256, allOne, V.one, hm, hs, hl, hl', h0, h1, h2, h3, h4, h5]
      · have hn' : (b6 == x.nick) = false := by simpa using hn
        simp [DT.sat, logAdd, logFind, clashAdd, mayXid_eta, len_tab256, allOne, V.one, hm, hs, hn, hn', h0, h1, h2, h3, h4, h5]
  by_cases h7 : a7 = x.src
  · subst h7
    by_cases hs : x.src = me
    · subst hs; simp [DT.sat, logAdd, logFind, clashAdd, mayXid_eta, len_tab256, allOne, V.one, hm, h0, h1, h2, h3, h4, h5, h6]
    · by_cases hn : b7 = x.nick
      · subst hn
        by_cases hl : s7 = x.slot
        · subst hl; simp [DT.sat, logAdd, logFind, clashAdd, mayXid_eta, len_tab256, allOne, V.one, hm, hs, h0, h1, h2, h3, h4, h5, h6]
        · have hl' : (s7 == x.slot) = false := by simpa using hl
          simp [DT.sat, logAdd, logFind, clashAdd, mayXid_eta, len_tab256, allOne, V.one, hm, hs, hl, hl', h0, h1, h2, h3, h4, h5, h6]
      · have hn' : (b7 == x.nick) = false := by simpa using hn
        simp [DT.sat, logAdd, logFind, clashAdd, mayXid_eta, len_tab256, allOne, V.one, hm, hs, hn, hn', h0, h1, h2, h3, h4, h5, h6]
  by_cases hs : x.src = me
  · subst hs; simp [DT.sat, logAdd, logFind, clashAdd, mayXid_eta, len_tab256, allOne, V.one, hm, h0, h1, h2, h3, h4, h5, h6, h7]
  · simp [DT.sat, logAdd, logFind, clashAdd, mayXid_eta, len_tab256, allOne, V.one, hm, hs, h0, h1, h2, h3, h4, h5, h6, h7]
theorem runAdd8_0 (me : Int) (d0 d1 d2 d3 d4 d5 d6 d7 : Gw.Device) (s0 s1 s2 s3 s4 s5 s6 s7 : Int) (x : Gw.Xid) : Run Tryz.prog 37 [.ptr 3 0, .agg x.vs] (((openAt (smallH [.o 0 (.log ⟨me, some [d0, d1, d2, d3, d4, d5, d6, d7], some [s0, s1, s2, s3, s4, s5, s6, s7], none⟩)]) 3 (.log ⟨me, some [d0, d1, d2, d3, d4, d5, d6, d7], some [s0, s1, s2, s3, s4, s5, s6, s7], none⟩)).put 4 (some (.cells false ([d0, d1, d2, d3, d4, d5, d6, d7].flatMap Gw.Device.vs)))).put 5 (some (.cells false ([s0, s1, s2, s3, s4, s5, s6, s7].map (V.int .i64))))) fun r h => Gw.Ends [.o 0 (.log ⟨me, some [d0, d1, d2, d3, d4, d5, d6, d7], some [s0, s1, s2, s3, s4, s5, s6, s7], none⟩)] [.log (logAdd ⟨me, some [d0, d1, d2, d3, d4, d5, d6, d7], some [s0, s1, s2, s3, s4, s5, s6, s7], none⟩ x).2] [] [.f (.bool (logAdd ⟨me, some [d0, d1, d2, d3, d4, d5, d6, d7], some [s0, s1, s2, s3, s4, s5, s6, s7], none⟩ x).1)] r h :=
  runMono (run_plainU mixed tabM tabD (dIs (by kernel_rfl)) (treeAdd8_0_eq me d0 d1 d2 d3 d4 d5 d6 d7 s0 s1 s2 s3 s4 s5 s6 s7 x) (satAdd8_0 me d0 d1 d2 d3 d4 d5 d6 d7 s0 s1 s2 s3 s4 s5 s6 s7 x)) fun r h hq => by
    simp only [Prod.mk.injEq] at hq
    obtain ⟨rfl, hr⟩ := hq
    obtain ⟨ws, ids, h1, h2, h3, h4⟩ := readLog_ok hr
    exact ends_o h1 h2 h3 h4
def treeAdd9_0 (me : Int) (d0 d1 d2 d3 d4 d5 d6 d7 d8 : Gw.Device) (s0 s1 s2 s3 s4 s5 s6 s7 s8 : Int) (x : Gw.Xid) : DT (V × Option Gw.Log) :=
  .node (!(mayXid ⟨x.src, x.dst, x.slot, x.slots, x.anew, x.nick⟩)) (
    .leaf (.bool false, some (⟨me, some [⟨d0.id, d0.nick⟩, ⟨d1.id, d1.nick⟩, ⟨d2.id, d2.nick⟩, ⟨d3.id, d3.nick⟩, ⟨d4.id, d4.nick⟩, ⟨d5.id, d5.nick⟩, ⟨d6.id, d6.nick⟩, ⟨d7.id, d7.nick⟩, ⟨d8.id, d8.nick⟩], some [s0, s1, s2, s3, s4, s5, s6, s7, s8], none⟩ : Gw.Log))) (
    .ob (2 = 2 ∧ 0 ≤ (0 : Int) ∧ (0 : Int) < ((9 : Nat) : Int)) (
    .node ((d0.id : Int) == x.src) (
      .node ((x.src : Int) == me) (
        .ob ((1 = 1 ∧ ([.int .u32 x.src] : List V).length = 1 * 1) ∧ allOne [.int .u32 x.src] = true ∧ 1 * 4 ≤ 70368744177664) (
        .ob (0 ≤ (1 : Int) ∧ (1 : Int) < (((tab256 : Str).length : Nat) : Int)) (
        .leaf (.bool false, some (⟨me, some [⟨d0.id, d0.nick⟩, ⟨d1.id, d1.nick⟩, ⟨d2.id, d2.nick⟩, ⟨d3.id, d3.nick⟩, ⟨d4.id, d4.nick⟩, ⟨d5.id, d5.nick⟩, ⟨d6.id, d6.nick⟩, ⟨d7.id, d7.nick⟩, ⟨d8.id, d8.nick⟩], some [s0, s1, s2, s3, s4, s5, s6, s7, s8], some [x.src]⟩ : Gw.Log))))) (
        .ob (2 = 2 ∧ 0 ≤ (0 : Int) ∧ (0 : Int) < ((9 : Nat) : Int)) (
        .node ((!((d0.nick : Str) == x.nick)) == false) (
          .ob (1 = 1 ∧ 0 ≤ (0 : Int) ∧ (0 : Int) < ((9 : Nat) : Int)) (
          .node ((s0 : Int) != x.slot) (
            .ob ((1 = 1 ∧ ([.int .u32 x.src] : List V).length = 1 * 1) ∧ allOne [.int .u32 x.src] = true ∧ 1 * 4 ≤ 70368744177664) (
            .ob (0 ≤ (1 : Int) ∧ (1 : Int) < (((tab256 : Str).length : Nat) : Int)) (
            .leaf (.bool false, some (⟨me, some [⟨d0.id, d0.nick⟩, ⟨d1.id, d1.nick⟩, ⟨d2.id, d2.nick⟩, ⟨d3.id, d3.nick⟩, ⟨d4.id, d4.nick⟩, ⟨d5.id, d5.nick⟩, ⟨d6.id, d6.nick⟩, ⟨d7.id, d7.nick⟩, ⟨d8.id, d8.nick⟩], some [s0, s1, s2, s3, s4, s5, s6, s7, s8], some [x.src]⟩ : Gw.Log))))) (
            .leaf (.bool true, some (⟨me, some [⟨d0.id, d0.nick⟩, ⟨d1.id, d1.nick⟩, ⟨d2.id, d2.nick⟩, ⟨d3.id, d3.nick⟩, ⟨d4.id, d4.nick⟩, ⟨d5.id, d5.nick⟩, ⟨d6.id, d6.nick⟩, ⟨d7.id, d7.nick⟩, ⟨d8.id, d8.nick⟩], some [s0, s1, s2, s3, s4, s5, s6, s7, s8], none⟩ : Gw.Log))))) (
          .ob ((1 = 1 ∧ ([.int .u32 x.src] : List V).length = 1 * 1) ∧ allOne [.int .u32 x.src] = true ∧ 1 * 4 ≤ 70368744177664) (
          .ob (0 ≤ (1 : Int) ∧ (1 : Int) < (((tab256 : Str).length : Nat) : Int)) (
          .leaf (.bool false, some (⟨me, some [⟨d0.id, d0.nick⟩, ⟨d1.id, d1.nick⟩, ⟨d2.id, d2.nick⟩, ⟨d3.id, d3.nick⟩, ⟨d4.id, d4.nick⟩, ⟨d5.id, d5.nick⟩, ⟨d6.id, d6.nick⟩, ⟨d7.id, d7.nick⟩, ⟨d8.id, d8.nick⟩], some [s0, s1, s2, s3, s4, s5, s6, s7, s8], some [x.src]⟩ : Gw.Log)))))))) (
      .ob (2 = 2 ∧ 0 ≤ (1 : Int) ∧ (1 : Int) < ((9 : Nat) : Int)) (
      .node ((d1.id : Int) == x.src) (
        .node ((x.src : Int) == me) (
          .ob ((1 = 1 ∧ ([.int .u32 x.src] : List V).length = 1 * 1) ∧ allOne [.int .u32 x.src] = true ∧ 1 * 4 ≤ 70368744177664) (
          .ob (0 ≤ (1 : Int) ∧ (1 : Int) < (((tab256 : Str).length : Nat) : Int)) (
          .leaf (.bool false, some (⟨me, some [⟨d0.id, d0.nick⟩, ⟨d1.id, d1.nick⟩, ⟨d2.id, d2.nick⟩, ⟨d3.id, d3.nick⟩, ⟨d4.id, d4.nick⟩, ⟨d5.id, d5.nick⟩, ⟨d6.id, d6.nick⟩, ⟨d7.id, d7.nick⟩, ⟨d8.id, d8.nick⟩], some [s0, s1, s2, s3, s4, s5, s6, s7, s8], some [x.src]⟩ : Gw.Log))))) (
          .ob (2 = 2 ∧ 0 ≤ (1 : Int) ∧ (1 : Int) < ((9 : Nat) : Int)) (
          .node ((!((d1.nick : Str) == x.nick)) == false) (
            .ob (1 = 1 ∧ 0 ≤ (1 : Int) ∧ (1 : Int) < ((9 : Nat) : Int)) (
            .node ((s1 : Int) != x.slot) (
              .ob ((1 = 1 ∧ ([.int .u32 x.src] : List V).length = 1 * 1) ∧ allOne [.int .u32 x.src] = true ∧ 1 * 4 ≤ 70368744177664) (
              .ob (0 ≤ (1 : Int) ∧ (1 : Int) < (((tab256 : Str).length : Nat) : Int)) (
              .leaf (.bool false, some (⟨me, some [⟨d0.id, d0.nick⟩, ⟨d1.id, d1.nick⟩, ⟨d2.id, d2.nick⟩, ⟨d3.id, d3.nick⟩, ⟨d4.id, d4.nick⟩, ⟨d5.id, d5.nick⟩, ⟨d6.id, d6.nick⟩, ⟨d7.id, d7.nick⟩, ⟨d8.id, d8.nick⟩], some [s0, s1, s2, s3, s4, s5, s6, s7, s8], some [x.src]⟩ : Gw.Log))))) (
              .leaf (.bool true, some (⟨me, some [⟨d0.id, d0.nick⟩, ⟨d1.id, d1.nick⟩, ⟨d2.id, d2.nick⟩, ⟨d3.id, d3.nick⟩, ⟨d4.id, d4.nick⟩, ⟨d5.id, d5.nick⟩, ⟨d6.id, d6.nick⟩, ⟨d7.id, d7.nick⟩, ⟨d8.id, d8.nick⟩], some [s0, s1, s2, s3, s4, s5, s6, s7, s8], none⟩ : Gw.Log))))) (
            .ob ((1 = 1 ∧ ([.int .u32 x.src] : List V).length = 1 * 1) ∧ allOne [.int .u32 x.src] = true ∧ 1 * 4 ≤ 70368744177664) (
            .ob (0 ≤ (1 : Int) ∧ (1 : Int) < (((tab256 : Str).length : Nat) : Int)) (
            .leaf (.bool false, some (⟨me, some [⟨d0.id, d0.nick⟩, ⟨d1.id, d1.nick⟩, ⟨d2.id, d2.nick⟩, ⟨d3.id, d3.nick⟩, ⟨d4.id, d4.nick⟩, ⟨d5.id, d5.nick⟩, ⟨d6.id, d6.nick⟩, ⟨d7.id, d7.nick⟩, ⟨d8.id, d8.nick⟩], some [s0, s1, s2, s3, s4, s5, s6, s7, s8], some [x.src]⟩ : Gw.Log)))))))) (
        .ob (2 = 2 ∧ 0 ≤ (2 : Int) ∧ (2 : Int) < ((9 : Nat) : Int)) (
        .node ((d2.id : Int) == x.src) (
          .node ((x.src : Int) == me) (
            .ob ((1 = 1 ∧ ([.int .u32 x.src] : List V).length = 1 * 1) ∧ allOne [.int .u32 x.src] = true ∧ 1 * 4 ≤ 70368744177664) (
            .ob (0 ≤ (1 : Int) ∧ (1 : Int) < (((tab256 : Str).length : Nat) : Int)) (
            .leaf (.bool false, some (⟨me, some [⟨d0.id, d0.nick⟩, ⟨d1.id, d1.nick⟩, ⟨d2.id, d2.nick⟩, ⟨d3.id, d3.nick⟩, ⟨d4.id, d4.nick⟩, ⟨d5.id, d5.nick⟩, ⟨d6.id, d6.nick⟩, ⟨d7.id, d7.nick⟩, ⟨d8.id, d8.nick⟩], some [s0, s1, s2, s3, s4, s5, s6, s7, s8], some [x.src]⟩ : Gw.Log))))) (
            .ob (2 = 2 ∧ 0 ≤ (2 : Int) ∧ (2 : Int) < ((9 : Nat) : Int)) (
            .node ((!((d2.nick : Str) == x.nick)) == false) (
              .ob (1 = 1 ∧ 0 ≤ (2 : Int) ∧ (2 : Int) < ((9 : Nat) : Int)) (
              .node ((s2 : Int) != x.slot) (
                .ob ((1 = 1 ∧ ([.int .u32 x.src] : List V).length = 1 * 1) ∧ allOne [.int .u32 x.src] = true ∧ 1 * 4 ≤ 70368744177664) (
                .ob (0 ≤ (1 : Int) ∧ (1 : Int) < (((tab256 : Str).length : Nat) : Int)) (
                .leaf (.bool false, some (⟨me, some [⟨d0.id, d0.nick⟩, ⟨d1.id, d1.nick⟩, ⟨d2.id, d2.nick⟩, ⟨d3.id, d3.nick⟩, ⟨d4.id, d4.nick⟩, ⟨d5.id, d5.nick⟩, ⟨d6.id, d6.nick⟩, ⟨d7.id, d7.nick⟩, ⟨d8.id, d8.nick⟩], some [s0, s1, s2, s3, s4, s5, s6, s7, s8], some [x.src]⟩ : Gw.Log))))) (
                .leaf (.bool true, some (⟨me, some [⟨d0.id, d0.nick⟩, ⟨d1.id, d1.nick⟩, ⟨d2.id, d2.nick⟩, ⟨d3.id, d3.nick⟩, ⟨d4.id, d4.nick⟩, ⟨d5.id, d5.nick⟩, ⟨d6.id, d6.nick⟩, ⟨d7.id, d7.nick⟩, ⟨d8.id, d8.nick⟩], some [s0, s1, s2, s3, s4, s5, s6, s7, s8], none⟩ : Gw.Log))))) (
              .ob ((1 = 1 ∧ ([.int .u32 x.src] : List V).length = 1 * 1) ∧ allOne [.int .u32 x.src] = true ∧ 1 * 4 ≤ 70368744177664) (
              .ob (0 ≤ (1 : Int) ∧ (1 : Int) < (((tab256 : Str).length : Nat) : Int)) (
              .leaf (.bool false, some (⟨me, some [⟨d0.id, d0.nick⟩, ⟨d1.id, d1.nick⟩, ⟨d2.id, d2.nick⟩, ⟨d3.id, d3.nick⟩, ⟨d4.id, d4.nick⟩, ⟨d5.id, d5.nick⟩, ⟨d6.id, d6.nick⟩, ⟨d7.id, d7.nick⟩, ⟨d8.id, d8.nick⟩], some [s0, s1, s2, s3, s4, s5, s6, s7, s8], some [x.src]⟩ : Gw.Log)))))))) (
          .ob (2 = 2 ∧ 0 ≤ (3 : Int) ∧ (3 : Int) < ((9 : Nat) : Int)) (
          .node ((d3.id : Int) == x.src) (
            .node ((x.src : Int) == me) (
              .ob ((1 = 1 ∧ ([.int .u32 x.src] : List V).length = 1 * 1) ∧ allOne [.int .u32 x.src] = true ∧ 1 * 4 ≤ 70368744177664) (
              .ob (0 ≤ (1 : Int) ∧ (1 : Int) < (((tab256 : Str).length : Nat) : Int)) (
              .leaf (.bool false, some (⟨me, some [⟨d0.id, d0.nick⟩, ⟨d1.id, d1.nick⟩, ⟨d2.id, d2.nick⟩, ⟨d3.id, d3.nick⟩, ⟨d4.id, d4.nick⟩, ⟨d5.id, d5.nick⟩, ⟨d6.id, d6.nick⟩, ⟨d7.id, d7.nick⟩, ⟨d8.id, d8.nick⟩], some [s0, s1, s2, s3, s4, s5, s6, s7, s8], some [x.src]⟩ : Gw.Log))))) (
              .ob (2 = 2 ∧ 0 ≤ (3 : Int) ∧ (3 : Int) < ((9 : Nat) : Int)) (
              .node ((!((d3.nick : Str) == x.nick)) == false) (
                .ob (1 = 1 ∧ 0 ≤ (3 : Int) ∧ (3 : Int) < ((9 : Nat) : Int)) (
                .node ((s3 : Int) != x.slot) (
                  .ob ((1 = 1 ∧ ([.int .u32 x.src] : List V).length = 1 * 1) ∧ allOne [.int .u32 x.src] = true ∧ 1 * 4 ≤ 70368744177664) (
                  .ob (0 ≤ (1 : Int) ∧ (1 : Int) < (((tab256 : Str).length : Nat) : Int)) (
                  .leaf (.bool false, some (⟨me, some [⟨d0.id, d0.nick⟩, ⟨d1.id, d1.nick⟩, ⟨d2.id, d2.nick⟩, ⟨d3.id, d3.nick⟩, ⟨d4.id, d4.nick⟩, ⟨d5.id, d5.nick⟩, ⟨d6.id, d6.nick⟩, ⟨d7.id, d7.nick⟩, ⟨d8.id, d8.nick⟩], some [s0, s1, s2, s3, s4, s5, s6, s7, s8], some [x.src]⟩ : Gw.Log))))) (
                  .leaf (.bool true, some (⟨me, some [⟨d0.id, d0.nick⟩, ⟨d1.id, d1.nick⟩, ⟨d2.id, d2.nick⟩, ⟨d3.id, d3.nick⟩, ⟨d4.id, d4.nick⟩, ⟨d5.id, d5.nick⟩, ⟨d6.id, d6.nick⟩, ⟨d7.id, d7.nick⟩, ⟨d8.id, d8.nick⟩], some [s0, s1, s2, s3, s4, s5, s6, s7, s8], none⟩ : Gw.Log))))) (
                .ob ((1 = 1 ∧ ([.int .u32 x.src] : List V).length = 1 * 1) ∧ allOne [.int .u32 x.src] = true ∧ 1 * 4 ≤ 70368744177664) (
                .ob (0 ≤ (1 : Int) ∧ (1 : Int) < (((tab256 : Str).length : Nat) : Int)) (
                .leaf (.bool false, some (⟨me, some [⟨d0.id, d0.nick⟩, ⟨d1.id, d1.nick⟩, ⟨d2.id, d2.nick⟩, ⟨d3.id, d3.nick⟩, ⟨d4.id, d4.nick⟩, ⟨d5.id, d5.nick⟩, ⟨d6.id, d6.nick⟩, ⟨d7.id, d7.nick⟩, ⟨d8.id, d8.nick⟩], some [s0, s1, s2, s3, s4, s5, s6, s7, s8], some [x.src]⟩ : Gw.Log)))))))) (
            .ob (2 = 2 ∧ 0 ≤ (4 : Int) ∧ (4 : Int) < ((9 : Nat) : Int)) (
            .node ((d4.id : Int) == x.src) (
              .node ((x.src : Int) == me) (
                .ob ((1 = 1 ∧ ([.int .u32 x.src] : List V).length = 1 * 1) ∧ allOne [.int .u32 x.src] = true ∧ 1 * 4 ≤ 70368744177664) (
                .ob (0 ≤ (1 : Int) ∧ (1 : Int) < (((tab256 : Str).length : Nat) : Int)) (
                .leaf (.bool false, some (⟨me, some [⟨d0.id, d0.nick⟩, ⟨d1.id, d1.nick⟩, ⟨d2.id, d2.nick⟩, ⟨d3.id, d3.nick⟩, ⟨d4.id, d4.nick⟩, ⟨d5.id, d5.nick⟩, ⟨d6.id, d6.nick⟩, ⟨d7.id, d7.nick⟩, ⟨d8.id, d8.nick⟩], some [s0, s1, s2, s3, s4, s5, s6, s7, s8], some [x.src]⟩ : Gw.Log))))) (
                .ob (2 = 2 ∧ 0 ≤ (4 : Int) ∧ (4 : Int) < ((9 : Nat) : Int)) (
                .node ((!((d4.nick : Str) == x.nick)) == false) (
                  .ob (1 = 1 ∧ 0 ≤ (4 : Int) ∧ (4 : Int) < ((9 : Nat) : Int)) (
                  .node ((s4 : Int) != x.slot) (
                    .ob ((1 = 1 ∧ ([.int .u32 x.src] : List V).length = 1 * 1) ∧ allOne [.int .u32 x.src] = true ∧ 1 * 4 ≤ 70368744177664) (
                    .ob (0 ≤ (1 : Int) ∧ (1 : Int) < (((tab256 : Str).length : Nat) : Int)) (
                    .leaf (.bool false, some (⟨me, some [⟨d0.id, d0.nick⟩, ⟨d1.id, d1.nick⟩, ⟨d2.id, d2.nick⟩, ⟨d3.id, d3.nick⟩, ⟨d4.id, d4.nick⟩, ⟨d5.id, d5.nick⟩, ⟨d6.id, d6.nick⟩, ⟨d7.id, d7.nick⟩, ⟨d8.id, d8.nick⟩], some [s0, s1, s2, s3, s4, s5, s6, s7, s8], some [x.src]⟩ : Gw.Log))))) (
                    .leaf (.bool true, some (⟨me, some [⟨d0.id, d0.nick⟩, ⟨d1.id, d1.nick⟩, ⟨d2.id, d2.nick⟩, ⟨d3.id, d3.nick⟩, ⟨d4.id, d4.nick⟩, ⟨d5.id, d5.nick⟩, ⟨d6.id, d6.nick⟩, ⟨d7.id, d7.nick⟩, ⟨d8.id, d8.nick⟩], some [s0, s1, s2, s3, s4, s5, s6, s7, s8], none⟩ : Gw.Log))))) (
                  .ob ((1 = 1 ∧ ([.int .u32 x.src] : List V).length = 1 * 1) ∧ allOne [.int .u32 x.src] = true ∧ 1 * 4 ≤ 70368744177664) (
                  .ob (0 ≤ (1 : Int) ∧ (1 : Int) < (((tab256 : Str).length : Nat) : Int)) (
                  .leaf (.bool false, some (⟨me, some [⟨d0.id, d0.nick⟩, ⟨d1.id, d1.nick⟩, ⟨d2.id, d2.nick⟩, ⟨d3.id, d3.nick⟩, ⟨d4.id, d4.nick⟩, ⟨d5.id, d5.nick⟩, ⟨d6.id, d6.nick⟩, ⟨d7.id, d7.nick⟩, ⟨d8.id, d8.nick⟩], some [s0, s1, s2, s3, s4, s5, s6, s7, s8], some [x.src]⟩ : Gw.Log)))))))) (
              .ob (2 = 2 ∧ 0 ≤ (5 : Int) ∧ (5 : Int) < ((9 : Nat) : Int)) (
              .node ((d5.id : Int) == x.src) (
                .node ((x.src : Int) == me) (
                  .ob ((1 = 1 ∧ ([.int .u32 x.src] : List V).length = 1 * 1) ∧ allOne [.int .u32 x.src] = true ∧ 1 * 4 ≤ 70368744177664) (
                  .ob (0 ≤ (1 : Int) ∧ (1 : Int) < (((tab256 : Str).length : Nat) : Int)) (
                  .leaf (.bool false, some (⟨me, some [⟨d0.id, d0.nick⟩, ⟨d1.id, d1.nick⟩, ⟨d2.id, d2.nick⟩, ⟨d3.id, d3.nick⟩, ⟨d4.id, d4.nick⟩, ⟨d5.id, d5.nick⟩, ⟨d6.id, d6.nick⟩, ⟨d7.id, d7.nick⟩, ⟨d8.id, d8.nick⟩], some [s0, s1, s2, s3, s4, s5, s6, s7, s8], some [x.src]⟩ : Gw.Log))))) (
                  .ob (2 = 2 ∧ 0 ≤ (5 : Int) ∧ (5 : Int) < ((9 : Nat) : Int)) (
                  .node ((!((d5.nick : Str) == x.nick)) == false) (
                    .ob (1 = 1 ∧ 0 ≤ (5 : Int) ∧ (5 : Int) < ((9 : Nat) : Int)) (
                    .node ((s5 : Int) != x.slot) (
                      .ob ((1 = 1 ∧ ([.int .u32 x.src] : List V).length = 1 * 1) ∧ allOne [.int .u32 x.src] = true ∧ 1 * 4 ≤ 70368744177664) (
                      .ob (0 ≤ (1 : Int) ∧ (1 : Int) < (((tab256 : Str).length : Nat) : Int)) (
                      .leaf (.bool false, some (⟨me, some [⟨d0.id, d0.nick⟩, ⟨d1.id, d1.nick⟩, ⟨d2.id, d2.nick⟩, ⟨d3.id, d3.nick⟩, ⟨d4.id, d4.nick⟩, ⟨d5.id, d5.nick⟩, ⟨d6.id, d6.nick⟩, ⟨d7.id, d7.nick⟩, ⟨d8.id, d8.nick⟩], some [s0, s1, s2, s3, s4, s5, s6, s7, s8], some [x.src]⟩ : Gw.Log))))) (
                      .leaf (.bool true, some (⟨me, some [⟨d0.id, d0.nick⟩, ⟨d1.id, d1.nick⟩, ⟨d2.id, d2.nick⟩, ⟨d3.id, d3.nick⟩, ⟨d4.id, d4.nick⟩, ⟨d5.id, d5.nick⟩, ⟨d6.id, d6.nick⟩, ⟨d7.id, d7.nick⟩, ⟨d8.id, d8.nick⟩], some [s0, s1, s2, s3, s4, s5, s6, s7, s8], none⟩ : Gw.Log))))) (
                    .ob ((1 = 1 ∧ ([.int .u32 x.src] : List V).length = 1 * 1) ∧ allOne [.int .u32 x.src] = true ∧ 1 * 4 ≤ 70368744177664) (
                    .ob (0 ≤ (1 : Int) ∧ (1 : Int) < (((tab256 : Str).length : Nat) : Int)) (
                    .leaf (.bool false, some (⟨me, some [⟨d0.id, d0.nick⟩, ⟨d1.id, d1.nick⟩, ⟨d2.id, d2.nick⟩, ⟨d3.id, d3.nick⟩, ⟨d4.id, d4.nick⟩, ⟨d5.id, d5.nick⟩, ⟨d6.id, d6.nick⟩, ⟨d7.id, d7.nick⟩, ⟨d8.id, d8.nick⟩], some [s0, s1, s2, s3, s4, s5, s6, s7, s8], some [x.src]⟩ : Gw.Log)))))))) (
                .ob (2 = 2 ∧ 0 ≤ (6 : Int) ∧ (6 : Int) < ((9 : Nat) : Int)) (
                .node ((d6.id : Int) == x.src) (
                  .node ((x.src : Int) == me) (
                    .ob ((1 = 1 ∧ ([.int .u32 x.src] : List V).length = 1 * 1) ∧ allOne [.int .u32 x.src] = true ∧ 1 * 4 ≤ 70368744177664) (
                    .ob (0 ≤ (1 : Int) ∧ (1 : Int) < (((tab256 : Str).length : Nat) : Int)) (
                    .leaf (.bool false, some (⟨me, some [⟨d0.id, d0.nick⟩, ⟨d1.id, d1.nick⟩, ⟨d2.id, d2.nick⟩, ⟨d3.id, d3.nick⟩, ⟨d4.id, d4.nick⟩, ⟨d5.id, d5.nick⟩, ⟨d6.id, d6.nick⟩, ⟨d7.id, d7.nick⟩, ⟨d8.id, d8.nick⟩], some [s0, s1, s2, s3, s4, s5, s6, s7, s8], some [x.src]⟩ : Gw.Log))))) (
                    .ob (2 = 2 ∧ 0 ≤ (6 : Int) ∧ (6 : Int) < ((9 : Nat) : Int)) (
                    .node ((!((d6.nick : Str) == x.nick)) == false) (
                      .ob (1 = 1 ∧ 0 ≤ (6 : Int) ∧ (6 : Int) < ((9 : Nat) : Int)) (
                      .node ((s6 : Int) != x.slot) (
                        .ob ((1 = 1 ∧ ([.int .u32 x.src] : List V).length = 1 * 1) ∧ allOne [.int .u32 x.src] = true ∧ 1 * 4 ≤ 70368744177664) (
                        .ob (0 ≤ (1 : Int) ∧ (1 : Int) < (((tab256 : Str).length : Nat) : Int)) (
                        .leaf (.bool false, some (⟨me, some [⟨d0.id, d0.nick⟩, ⟨d1.id, d1.nick⟩, ⟨d2.id, d2.nick⟩, ⟨d3.id, d3.nick⟩, ⟨d4.id, d4.nick⟩, ⟨d5.id, d5.nick⟩, ⟨d6.id, d6.nick⟩, ⟨d7.id, d7.nick⟩, ⟨d8.id, d8.nick⟩], some [s0, s1, s2, s3, s4, s5, s6, s7, s8], some [x.src]⟩ : Gw.Log))))) (
                        .leaf (.bool true, some (⟨me, some [⟨d0.id, d0.nick⟩, ⟨d1.id, d1.nick⟩, ⟨d2.id, d2.nick⟩, ⟨d3.id, d3.nick⟩, ⟨d4.id, d4.nick⟩, ⟨d5.id, d5.nick⟩, ⟨d6.id, d6.nick⟩, ⟨d7.id, d7.nick⟩, ⟨d8.id, d8.nick⟩], some [s0, s1, s2, s3, s4, s5, s6, s7, s8], none⟩ : Gw.Log))))) (
                      .ob ((1 = 1 ∧ ([.int .u32 x.src] : List V).length = 1 * 1) ∧ allOne [.int .u32 x.src] = true ∧ 1 * 4 ≤ 70368744177664) (
                      .ob (0 ≤ (1 : Int) ∧ (1 : Int) < (((tab256 : Str).length : Nat) : Int)) (
                      .leaf (.bool false, some (⟨me, some [⟨d0.id, d0.nick⟩, ⟨d1.id, d1.nick⟩, ⟨d2.id, d2.nick⟩, ⟨d3.id, d3.nick⟩, ⟨d4.id, d4.nick⟩, ⟨d5.id, d5.nick⟩, ⟨d6.id, d6.nick⟩, ⟨d7.id, d7.nick⟩, ⟨d8.id, d8.nick⟩], some [s0, s1, s2, s3, s4, s5, s6, s7, s8], some [x.src]⟩ : Gw.Log)))))))) (
                  .ob (2 = 2 ∧ 0 ≤ (7 : Int) ∧ (7 : Int) < ((9 : Nat) : Int)) (
                  .node ((d7.id : Int) == x.src) (
                    .node ((x.src : Int) == me) (
                      .ob ((1 = 1 ∧ ([.int .u32 x.src] : List V).length = 1 * 1) ∧ allOne [.int .u32 x.src] = true ∧ 1 * 4 ≤ 70368744177664) (
                      .ob (0 ≤ (1 : Int) ∧ (1 : Int) < (((tab256 : Str).length : Nat) : Int)) (
                      .leaf (.bool false, some (⟨me, some [⟨d0.id, d0.nick⟩, ⟨d1.id, d1.nick⟩, ⟨d2.id, d2.nick⟩, ⟨d3.id, d3.nick⟩, ⟨d4.id, d4.nick⟩, ⟨d5.id, d5.nick⟩, ⟨d6.id, d6.nick⟩, ⟨d7.id, d7.nick⟩, ⟨d8.id, d8.nick⟩], some [s0, s1, s2, s3, s4, s5, s6, s7, s8], some [x.src]⟩ : Gw.Log))))) (
                      .ob (2 = 2 ∧ 0 ≤ (7 : Int) ∧ (7 : Int) < ((9 : Nat) : Int)) (
                      .node ((!((d7.nick : Str) == x.nick)) == false) (
                        .ob (1 = 1 ∧ 0 ≤ (7 : Int) ∧ (7 : Int) < ((9 : Nat) : Int)) (
                        .node ((s7 : Int) != x.slot) (
                          .ob ((1 = 1 ∧ ([.int .u32 x.src] : List V).length = 1 * 1) ∧ allOne [.int .u32 x.src] = true ∧ 1 * 4 ≤ 70368744177664) (
                          .ob (0 ≤ (1 : Int) ∧ (1 : Int) < (((tab256 : Str).length : Nat) : Int)) (
                          .leaf (.bool false, some (⟨me, some [⟨d0.id, d0.nick⟩, ⟨d1.id, d1.nick⟩, ⟨d2.id, d2.nick⟩, ⟨d3.id, d3.nick⟩, ⟨d4.id, d4.nick⟩, ⟨d5.id, d5.nick⟩, ⟨d6.id, d6.nick⟩, ⟨d7.id, d7.nick⟩, ⟨d8.id, d8.nick⟩], some [s0, s1, s2, s3, s4, s5, s6, s7, s8], some [x.src]⟩ : Gw.Log))))) (
                          .leaf (.bool true, some (⟨me, some [⟨d0.id, d0.nick⟩, ⟨d1.id, d1.nick⟩, ⟨d2.id, d2.nick⟩, ⟨d3.id, d3.nick⟩, ⟨d4.id, d4.nick⟩, ⟨d5.id, d5.nick⟩, ⟨d6.id, d6.nick⟩, ⟨d7.id, d7.nick⟩, ⟨d8.id, d8.nick⟩], some [s0, s1, s2, s3, s4, s5, s6, s7, s8], none⟩ : Gw.Log))))) (
                        .ob ((1 = 1 ∧ ([.int .u32 x.src] : List V).length = 1 * 1) ∧ allOne [.int .u32 x.src] = true ∧ 1 * 4 ≤ 70368744177664) (
                        .ob (0 ≤ (1 : Int) ∧ (1 : Int) < (((tab256 : Str).length : Nat) : Int)) (
                        .leaf (.bool false, some (⟨me, some [⟨d0.id, d0.nick⟩, ⟨d1.id, d1.nick⟩, ⟨d2.id, d2.nick⟩, ⟨d3.id, d3.nick⟩, ⟨d4.id, d4.nick⟩, ⟨d5.id, d5.nick⟩, ⟨d6.id, d6.nick⟩, ⟨d7.id, d7.nick⟩, ⟨d8.id, d8.nick⟩], some [s0, s1, s2, s3, s4, s5, s6, s7, s8], some [x.src]⟩ : Gw.Log)))))))) (
                    .ob (2 = 2 ∧ 0 ≤ (8 : Int) ∧ (8 : Int) < ((9 : Nat) : Int)) (
                    .node ((d8.id : Int) == x.src) (
                      .node ((x.src : Int) == me) (
                        .ob ((1 = 1 ∧ ([.int .u32 x.src] : List V).length = 1 * 1) ∧ allOne [.int .u32 x.src] = true ∧ 1 * 4 ≤ 70368744177664) (
                        .ob (0 ≤ (1 : Int) ∧ (1 : Int) < (((tab256 : Str).length : Nat) : Int)) (
                        .leaf (.bool false, some (⟨me, some [⟨d0.id, d0.nick⟩, ⟨d1.id, d1.nick⟩, ⟨d2.id, d2.nick⟩, ⟨d3.id, d3.nick⟩, ⟨d4.id, d4.nick⟩, ⟨d5.id, d5.nick⟩, ⟨d6.id, d6.nick⟩, ⟨d7.id, d7.nick⟩, ⟨d8.id, d8.nick⟩], some [s0, s1, s2, s3, s4, s5, s6, s7, s8], some [x.src]⟩ : Gw.Log))))) (
                        .ob (2 = 2 ∧ 0 ≤ (8 : Int) ∧ (8 : Int) < ((9 : Nat) : Int)) (
                        .node ((!((d8.nick : Str) == x.nick)) == false) (
                          .ob (1 = 1 ∧ 0 ≤ (8 : Int) ∧ (8 : Int) < ((9 : Nat) : Int)) (
                          .node ((s8 : Int) != x.slot) (
                            .ob ((1 = 1 ∧ ([.int .u32 x.src] : List V).length = 1 * 1) ∧ allOne [.int .u32 x.src] = true ∧ 1 * 4 ≤ 70368744177664) (
                            .ob (0 ≤ (1 : Int) ∧ (1 : Int) < (((tab256 : Str).length : Nat) : Int)) (
                            .leaf (.bool false, some (⟨me, some [⟨d0.id, d0.nick⟩, ⟨d1.id, d1.nick⟩, ⟨d2.id, d2.nick⟩, ⟨d3.id, d3.nick⟩, ⟨d4.id, d4.nick⟩, ⟨d5.id, d5.nick⟩, ⟨d6.id, d6.nick⟩, ⟨d7.id, d7.nick⟩, ⟨d8.id, d8.nick⟩], some [s0, s1, s2, s3, s4, s5, s6, s7, s8], some [x.src]⟩ : Gw.Log))))) (
                            .leaf (.bool true, some (⟨me, some [⟨d0.id, d0.nick⟩, ⟨d1.id, d1.nick⟩, ⟨d2.id, d2.nick⟩, ⟨d3.id, d3.nick⟩, ⟨d4.id, d4.nick⟩, ⟨d5.id, d5.nick⟩, ⟨d6.id, d6.nick⟩, ⟨d7.id, d7.nick⟩, ⟨d8.id, d8.nick⟩], some [s0, s1, s2, s3, s4, s5, s6, s7, s8], none⟩ : Gw.Log))))) (
                          .ob ((1 = 1 ∧ ([.int .u32 x.src] : List V).length = 1 * 1) ∧ allOne [.int .u32 x.src] = true ∧ 1 * 4 ≤ 70368744177664) (
                          .ob (0 ≤ (1 : Int) ∧ (1 : Int) < (((tab256 : Str).length : Nat) : Int)) (
                          .leaf (.bool false, some (⟨me, some [⟨d0.id, d0.nick⟩, ⟨d1.id, d1.nick⟩, ⟨d2.id, d2.nick⟩, ⟨d3.id, d3.nick⟩, ⟨d4.id, d4.nick⟩, ⟨d5.id, d5.nick⟩, ⟨d6.id, d6.nick⟩, ⟨d7.id, d7.nick⟩, ⟨d8.id, d8.nick⟩], some [s0, s1, s2, s3, s4, s5, s6, s7, s8], some [x.src]⟩ : Gw.Log)))))))) (
                      .node ((x.src : Int) == me) (
                        .ob ((1 = 1 ∧ ([.int .u32 x.src] : List V).length = 1 * 1) ∧ allOne [.int .u32 x.src] = true ∧ 1 * 4 ≤ 70368744177664) (
                        .ob (0 ≤ (1 : Int) ∧ (1 : Int) < (((tab256 : Str).length : Nat) : Int)) (
                        .leaf (.bool false, some (⟨me, some [⟨d0.id, d0.nick⟩, ⟨d1.id, d1.nick⟩, ⟨d2.id, d2.nick⟩, ⟨d3.id, d3.nick⟩, ⟨d4.id, d4.nick⟩, ⟨d5.id, d5.nick⟩, ⟨d6.id, d6.nick⟩, ⟨d7.id, d7.nick⟩, ⟨d8.id, d8.nick⟩], some [s0, s1, s2, s3, s4, s5, s6, s7, s8], some [x.src]⟩ : Gw.Log))))) (
                        .ob ((2 = 2 ∧ ([.int .u32 x.src, .str x.nick] : List V).length = 1 * 2) ∧ allOne [.int .u32 x.src, .str x.nick] = true ∧ 2 = 2 ∧ 10 * 24 ≤ 70368744177664 ∧ ([.int .u32 d0.id, .str d0.nick, .int .u32 d1.id, .str d1.nick, .int .u32 d2.id, .str d2.nick, .int .u32 d3.id, .str d3.nick, .int .u32 d4.id, .str d4.nick, .int .u32 d5.id, .str d5.nick, .int .u32 d6.id, .str d6.nick, .int .u32 d7.id, .str d7.nick, .int .u32 d8.id, .str d8.nick] : List V).length = 9 * 2) (
                        .ob ((1 = 1 ∧ ([.int .i64 x.slot] : List V).length = 1 * 1) ∧ allOne [.int .i64 x.slot] = true ∧ 1 = 1 ∧ 10 * 8 ≤ 70368744177664 ∧ ([.int .i64 s0, .int .i64 s1, .int .i64 s2, .int .i64 s3, .int .i64 s4, .int .i64 s5, .int .i64 s6, .int .i64 s7, .int .i64 s8] : List V).length = 9 * 1) (
                        .leaf (.bool true, some (⟨me, some [⟨d0.id, d0.nick⟩, ⟨d1.id, d1.nick⟩, ⟨d2.id, d2.nick⟩, ⟨d3.id, d3.nick⟩, ⟨d4.id, d4.nick⟩, ⟨d5.id, d5.nick⟩, ⟨d6.id, d6.nick⟩, ⟨d7.id, d7.nick⟩, ⟨d8.id, d8.nick⟩, ⟨x.src, x.nick⟩], some [s0, s1, s2, s3, s4, s5, s6, s7, s8, x.slot], none⟩ : Gw.Log))))))))))))))))))))))))
set_option maxRecDepth 1000000 in
theorem treeAdd9_0_eq (me : Int) (d0 d1 d2 d3 d4 d5 d6 d7 d8 : Gw.Device) (s0 s1 s2 s3 s4 s5 s6 s7 s8 : Int) (x : Gw.Xid) : funT (mkXT pxM noOX) (mkXP pxM) (mkX pxM noOX) D (fun _ => noOrc) (fun k => match k with | 37 => [28, 57, 60, 67] | 62 => [9] | 76 => [8] | 91 => [23] | 108 => [12] | 118 => [4, 8, 14] | _ => []) 12 noOrc [28, 57, 60, 67] noLt (dOf 37) [.ptr 3 0, .agg x.vs] (((openAt (smallH [.o 0 (.log ⟨me, some [d0, d1, d2, d3, d4, d5, d6, d7, d8], some [s0, s1, s2, s3, s4, s5, s6, s7, s8], none⟩)]) 3 (.log ⟨me, some [d0, d1, d2, d3, d4, d5, d6, d7, d8], some [s0, s1, s2, s3, s4, s5, s6, s7, s8], none⟩)).put 4 (some (.cells false ([d0, d1, d2, d3, d4, d5, d6, d7, d8].flatMap Gw.Device.vs)))).put 5 (some (.cells false ([s0, s1, s2, s3, s4, s5, s6, s7, s8].map (V.int .i64))))) (fun v h => (v, readLog h 3)) = treeAdd9_0 me d0 d1 d2 d3 d4 d5 d6 d7 d8 s0 s1 s2 s3 s4 s5 s6 s7 s8 x := by kernel_rfl
set_option maxHeartbeats 4000000 in
theorem satAdd9_0 (me : Int) (d0 d1 d2 d3 d4 d5 d6 d7 d8 : Gw.Device) (s0 s1 s2 s3 s4 s5 s6 s7 s8 : Int) (x : Gw.Xid) : (treeAdd9_0 me d0 d1 d2 d3 d4 d5 d6 d7 d8 s0 s1 s2 s3 s4 s5 s6 s7 s8 x).sat fun p => p = (.bool (logAdd ⟨me, some [d0, d1, d2, d3, d4, d5, d6, d7, d8], some [s0, s1, s2, s3, s4, s5, s6, s7, s8], none⟩ x).1, some (logAdd ⟨me, some [d0, d1, d2, d3, d4, d5, d6, d7, d8], some [s0, s1, s2, s3, s4, s5, s6, s7, s8], none⟩ x).2) := by
  obtain ⟨a0, b0⟩ := d0
  obtain ⟨a1, b1⟩ := d1
  obtain ⟨a2, b2⟩ := d2
  obtain ⟨a3, b3⟩ := d3
  obtain ⟨a4, b4⟩ := d4
  obtain ⟨a5, b5⟩ := d5
  obtain ⟨a6, b6⟩ := d6
  obtain ⟨a7, b7⟩ := d7
  obtain ⟨a8, b8⟩ := d8
  unfold treeAdd9_0
  cases hm : mayXid x with
  | false => simp [DT.sat, logAdd, logFind, clashAdd, mayXid_eta, len_tab256, allOne, V.one, hm]
  | true =>
  by_cases h0 : a0 = x.src
  · subst h0
    by_cases hs : x.src = me
    · subst hs; simp [DT.sat, logAdd, logFind, clashAdd, mayXid_eta, len_tab256, allOne, V.one, hm]
    · by_cases hn : b0 = x.nick
      · subst hn
        by_cases hl : s0 = x.slot
        · subst hl; simp [DT.sat, logAdd, logFind, clashAdd, mayXid_eta, len_tab256, allOne, V.one, hm, hs]
        · have hl' : (s0 == x.slot) = false := by simpa using hl
          simp [DT.sat, logAdd, logFind, clashAdd, mayXid_eta, len_tab256, allOne, V.one, hm, hs, hl, hl']
      · have hn' : (b0 == x.nick) = false := by simpa using hn
        simp [DT.sat, logAdd, logFind, clashAdd, mayXid_eta, len_tab256, allOne, V.one, hm, hs, hn, hn']
  by_cases h1 : a1 = x.src
  · subst h1
    by_cases hs : x.src = me
    · subst hs; simp [DT.sat, logAdd, logFind, clashAdd, mayXid_eta, len_tab256, allOne, V.one, hm, h0]
    · by_cases hn : b1 = x.nick
      · subst hn
        by_cases hl : s1 = x.slot
        · subst hl; simp [DT.sat, logAdd, logFind, clashAdd, mayXid_eta, len_tab256, allOne, V.one, hm, hs, h0]
        · have hl' : (s1 == x.slot) = false := by simpa using hl
          simp [DT.sat, logAdd, logFind, clashAdd, mayXid_eta, len_tab256, allOne, V.one, hm, hs, hl, hl', h0]
      · have hn' : (b1 == x.nick) = false := by simpa using hn
        simp [DT.sat, logAdd, logFind, clashAdd, mayXid_eta, len_tab256, allOne, V.one, hm, hs, hn, hn', h0]
  by_cases h2 : a2 = x.src
  · subst h2
    by_cases hs : x.src = me
    · subst hs; simp [DT.sat, logAdd, logFind, clashAdd, mayXid_eta, len_tab256, allOne, V.one, hm, h0, h1]
    · by_cases hn : b2 = x.nick
      · subst hn
        by_cases hl : s2 = x.slot
        · subst hl; simp [DT.sat, logAdd, logFind, clashAdd, mayXid_eta, len_tab256, allOne, V.one, hm, hs, h0, h1]
        · have hl' : (s2 == x.slot) = false := by simpa using hl
          simp [DT.sat, logAdd, logFind, clashAdd, mayXid_eta, len_tab256, allOne, V.one, hm, hs, hl, hl', h0, h1]
      · have hn' : (b2 == x.nick) = false := by simpa using hn
        simp [DT.sat, logAdd, logFind, clashAdd, mayXid_eta, len_tab256, allOne, V.one, hm, hs, hn, hn', h0, h1]
  by_cases h3 : a3 = x.src
  · subst h3
    by_cases hs : x.src = me
    · subst hs; simp [DT.sat, logAdd, logFind, clashAdd, mayXid_eta, len_tab256, allOne, V.one, hm, h0, h1, h2]
    · by_cases hn : b3 = x.nick
      · subst hn
        by_cases hl : s3 = x.slot
        · subst hl; simp [DT.sat, logAdd, logFind, clashAdd, mayXid_eta, len_tab256, allOne, V.one, hm, hs, h0, h1, h2]
        · have hl' : (s3 == x.slot) = false := by simpa using hl
          simp [DT.sat, logAdd, logFind, clashAdd, mayXid_eta, len_tab256, allOne, V.one, hm, hs, hl, hl', h0, h1, h2]
      · have hn' : (b3 == x.nick) = false := by simpa using hn
        simp [DT.sat, logAdd, logFind, clashAdd, mayXid_eta, len_tab256, allOne, V.one, hm, hs, hn, hn', h0, h1, h2]
  by_cases h4 : a4 = x.src
  · subst h4
    by_cases hs : x.src = me
    · subst hs; simp [DT.sat, logAdd, logFind, clashAdd, mayXid_eta, len_tab256, allOne, V.one, hm, h0, h1, h2, h3]
    · by_cases hn : b4 = x.nick
      · subst hn
        by_cases hl : s4 = x.slot
        · subst hl; simp [DT.sat, logAdd, logFind, clashAdd, mayXid_eta, len_tab256, allOne, V.one, hm, hs, h0, h1, h2, h3]
        · have hl' : (s4 == x.slot) = false := by simpa using hl
          simp [DT.sat, logAdd, logFind, clashAdd, mayXid_eta, len_tab256, allOne, V.one, hm, hs, hl, hl', h0, h1, h2, h3]
      · have hn' : (b4 == x.nick) = false := by simpa using hn
        simp [DT.sat, logAdd, logFind, clashAdd, mayXid_eta, len_tab256, allOne, V.one, hm, hs, hn, hn', h0, h1, h2, h3]
  by_cases h5 : a5 = x.src
  · subst h5
    by_cases hs : x.src = me
    · subst hs; simp [DT.sat, logAdd, logFind, clashAdd, mayXid_eta, len_tab256, allOne, V.one, hm, h0, h1, h2, h3, h4]
    · by_cases hn : b5 = x.nick
      · subst hn
        by_cases hl : s5 = x.slot
        · subst hl; simp [DT.sat, logAdd, logFind, clashAdd, mayXid_eta, len_tab256, allOne, V.one, hm, hs, h0, h1, h2, h3, h4]
        · have hl' : (s5 == x.slot) = false := by simpa using hl
          simp [DT.sat, logAdd, logFind, clashAdd, mayXid_eta, len_tab256, allOne, V.one, hm, hs, hl, hl', h0, h1, h2, h3, h4]
      · have hn' : (b5 == x.nick) = false := by simpa using hn
        simp [DT.sat, logAdd, logFind, clashAdd, mayXid_eta, len_tab256, allOne, V.one, hm, hs, hn, hn', h0, h1, h2, h3, h4]
  by_cases h6 : a6 = x.src
  · subst h6
    by_cases hs : x.src = me
    · subst hs; simp [DT.sat, logAdd, logFind, clashAdd, mayXid_eta, len_tab256, allOne, V.one, hm, h0, h1, h2, h3, h4, h5]
    · by_cases hn : b6 = x.nick
      · subst hn
        by_cases hl : s6 = x.slot
        · subst hl; simp [DT.sat, logAdd, logFind, clashAdd, mayXid_eta, len_tab256, allOne, V.one, hm, hs, h0, h1, h2, h3, h4, h5]
        · have hl' : (s6 == x.slot) = false := by simpa using hl
          simp [DT.sat, logAdd, logFind, clashAdd, mayXid_eta, len_tab256, allOne, V.one, hm, hs, hl, hl', h0, h1, h2, h3, h4, h5]
      · have hn' : (b6 == x.nick) = false := by simpa using hn
        simp [DT.sat, logAdd, logFind, clashAdd, mayXid_eta, len_tab256, allOne, V.one, hm, hs, hn, hn', h0, h1, h2, h3, h4, h5]
  by_cases h7 : a7 = x.src
  · subst h7
    by_cases hs : x.src = me
    · subst hs; simp [DT.sat, logAdd, logFind, clashAdd, mayXid_eta, len_tab256, allOne, V.one, hm, h0, h1, h2, h3, h4, h5, h6]
    · by_cases hn : b7 = x.nick
      · subst hn
        by_cases hl : s7 = x.slot
        · subst hl; simp [DT.sat, logAdd, logFind, clashAdd, mayXid_eta, len_tab256, allOne, V.one, hm, hs, h0, h1, h2, h3, h4, h5, h6]
        · have hl' : (s7 == x.slot) = false := by simpa using hl
          simp [DT.sat, logAdd, logFind, clashAdd, mayXid_eta, len_tab256, allOne, V.one, hm, hs, hl, hl', h0, h1, h2, h3, h4, h5, h6]
      · have hn' : (b7 == x.nick) = false := by simpa using hn
        simp [DT.sat, logAdd, logFind, clashAdd, mayXid_eta, len_tab256, allOne, V.one, hm, hs, hn, hn', h0, h1, h2, h3, h4, h5, h6]
  by_cases h8 : a8 = x.src
  · subst h8
    by_cases hs : x.src = me
    · subst hs; simp [DT.sat, logAdd, logFind, clashAdd, mayXid_eta, len_tab256, allOne, V.one, hm, h0, h1, h2, h3, h4, h5, h6, h7]
    · by_cases hn : b8 = x.nick
      · subst hn
        by_cases hl : s8 = x.slot
        · subst hl; simp [DT.sat, logAdd, logFind, clashAdd, mayXid_eta, len_tab256, allOne, V.one, hm, hs, h0, h1, h2, h3, h4, h5, h6, h7]
        · have hl' : (s8 == x.slot) = false := by simpa using hl
          simp [DT.sat, logAdd, logFind, clashAdd, mayXid_eta, len_tab256, allOne, V.one, hm, hs, hl, hl', h0, h1, h2, h3, h4, h5, h6, h7]
      · have hn' : (b8 == x.nick) = false := by simpa using hn
        simp [DT.sat, logAdd, logFind, clashAdd, mayXid_eta, len_tab256, allOne, V.one, hm, hs, hn, hn', h0, h1, h2, h3, h4, h5, h6, h7]
  by_cases hs : x.src = me
  · subst hs; simp [DT.sat, logAdd, logFind, clashAdd, mayXid_eta, len_tab256, allOne, V.one, hm, h0, h1, h2, h3, h4, h5, h6, h7, h8]
  · simp [DT.sat, logAdd, logFind, clashAdd, mayXid_eta, len_tab256, allOne, V.one, hm, hs, h0, h1, h2, h3, h4, h5, h6, h7, h8]
theorem runAdd9_0 (me : Int) (d0 d1 d2 d3 d4 d5 d6 d7 d8 : Gw.Device) (s0 s1 s2 s3 s4 s5 s6 s7 s8 : Int) (x : Gw.Xid) : Run Tryz.prog 37 [.ptr 3 0, .agg x.vs] (((openAt (smallH [.o 0 (.log ⟨me, some [d0, d1, d2, d3, d4, d5, d6, d7, d8], some [s0, s1, s2, s3, s4, s5, s6, s7, s8], none⟩)]) 3 (.log ⟨me, some [d0, d1, d2, d3, d4, d5, d6, d7, d8], some [s0, s1, s2, s3, s4, s5, s6, s7, s8], none⟩)).put 4 (some (.cells false ([d0, d1, d2, d3, d4, d5, d6, d7, d8].flatMap Gw.Device.vs)))).put 5 (some (.cells false ([s0, s1, s2, s3, s4, s5, s6, s7, s8].map (V.int .i64))))) fun r h => Gw.Ends [.o 0 (.log ⟨me, some [d0, d1, d2, d3, d4, d5, d6, d7, d8], some [s0, s1, s2, s3, s4, s5, s6, s7, s8], none⟩)] [.log (logAdd ⟨me, some [d0, d1, d2, d3, d4, d5, d6, d7, d8], some [s0, s1, s2, s3, s4, s5, s6, s7, s8], none⟩ x).2] [] [.f (.bool (logAdd ⟨me, some [d0, d1, d2, d3, d4, d5, d6, d7, d8], some [s0, s1, s2, s3, s4, s5, s6, s7, s8], none⟩ x).1)] r h :=
  runMono (run_plainU mixed tabM tabD (dIs (by kernel_rfl)) (treeAdd9_0_eq me d0 d1 d2 d3 d4 d5 d6 d7 d8 s0 s1 s2 s3 s4 s5 s6 s7 s8 x) (satAdd9_0 me d0 d1 d2 d3 d4 d5 d6 d7 d8 s0 s1 s2 s3 s4 s5 s6 s7 s8 x)) fun r h hq => by
    simp only [Prod.mk.injEq] at hq
    obtain ⟨rfl, hr⟩ := hq
    obtain ⟨ws, ids, h1, h2, h3, h4⟩ := readLog_ok hr
    exact ends_o h1 h2 h3 h4
def treeAdd10_0 (me : Int) (d0 d1 d2 d3 d4 d5 d6 d7 d8 d9 : Gw.Device) (s0 s1 s2 s3 s4 s5 s6 s7 s8 s9 : Int) (x : Gw.Xid) : DT (V × Option Gw.Log) :=
  .node (!(mayXid ⟨x.src, x.dst, x.slot, x.slots, x.anew, x.nick⟩)) (
    .leaf (.bool false, some (⟨me, some [⟨d0.id, d0.nick⟩, ⟨d1.id, d1.nick⟩, ⟨d2.id, d2.nick⟩, ⟨d3.id, d3.nick⟩, ⟨d4.id, d4.nick⟩, ⟨d5.id, d5.nick⟩, ⟨d6.id, d6.nick⟩, ⟨d7.id, d7.nick⟩, ⟨d8.id, d8.nick⟩, ⟨d9.id, d9.nick⟩], some [s0, s1, s2, s3, s4, s5, s6, s7, s8, s9], none⟩ : Gw.Log))) (
    .ob (2 = 2 ∧ 0 ≤ (0 : Int) ∧ (0 : Int) < ((10 : Nat) : Int)) (
    .node ((d0.id : Int) == x.src) (
      .node ((x.src : Int) == me) (
        .ob ((1 = 1 ∧ ([.int .u32 x.src] : List V).length = 1 * 1) ∧ allOne [.int .u32 x.src] = true ∧ 1 * 4 ≤ 70368744177664) (
        .ob (0 ≤ (1 : Int) ∧ (1 : Int) < (((tab256 : Str).length : Nat) : Int)) (
        .leaf (.bool false, some (⟨me, some [⟨d0.id, d0.nick⟩, ⟨d1.id, d1.nick⟩, ⟨d2.id, d2.nick⟩, ⟨d3.id, d3.nick⟩, ⟨d4.id, d4.nick⟩, ⟨d5.id, d5.nick⟩, ⟨d6.id, d6.nick⟩, ⟨d7.id, d7.nick⟩, ⟨d8.id, d8.nick⟩, ⟨d9.id, d9.nick⟩], some [s0, s1, s2, s3, s4, s5, s6, s7, s8, s9], some [x.src]⟩ : Gw.Log))))) (
        .ob (2 = 2 ∧ 0 ≤ (0 : Int) ∧ (0 : Int) < ((10 : Nat) : Int)) (
        .node ((!((d0.nick : Str) == x.nick)) == false) (
          .ob (1 = 1 ∧ 0 ≤ (0 : Int) ∧ (0 : Int) < ((10 : Nat) : Int)) (
          .node ((s0 : Int) != x.slot) (
            .ob ((1 = 1 ∧ ([.int .u32 x.src] : List V).length = 1 * 1) ∧ allOne [.int .u32 x.src] = true ∧ 1 * 4 ≤ 70368744177664) (
            .ob (0 ≤ (1 : Int) ∧ (1 : Int) < (((tab256 : Str).length : Nat) : Int)) (
            .leaf (.bool false, some (⟨me, some [⟨d0.id, d0.nick⟩, ⟨d1.id, d1.nick⟩, ⟨d2.id, d2.nick⟩, ⟨d3.id, d3.nick⟩, ⟨d4.id, d4.nick⟩, ⟨d5.id, d5.nick⟩, ⟨d6.id, d6.nick⟩, ⟨d7.id, d7.nick⟩, ⟨d8.id, d8.nick⟩, ⟨d9.id, d9.nick⟩], some [s0, s1, s2, s3, s4, s5, s6, s7, s8, s9], some [x.src]⟩ : Gw.Log))))) (
            .leaf (.bool true, some (⟨me, some [⟨d0.id, d0.nick⟩, ⟨d1.id, d1.nick⟩, ⟨d2.id, d2.nick⟩, ⟨d3.id, d3.nick⟩, ⟨d4.id, d4.nick⟩, ⟨d5.id, d5.nick⟩, ⟨d6.id, d6.nick⟩, ⟨d7.id, d7.nick⟩, ⟨d8.id, d8.nick⟩, ⟨d9.id, d9.nick⟩], some [s0, s1, s2, s3, s4, s5, s6, s7, s8, s9], none⟩ : Gw.Log))))) (
          .ob ((1 = 1 ∧ ([.int .u32 x.src] : List V).length = 1 * 1) ∧ allOne [.int .u32 x.src] = true ∧ 1 * 4 ≤ 70368744177664) (
          .ob (0 ≤ (1 : Int) ∧ (1 : Int) < (((tab256 : Str).length : Nat) : Int)) (
          .leaf (.bool false, some (⟨me, some [⟨d0.id, d0.nick⟩, ⟨d1.id, d1.nick⟩, ⟨d2.id, d2.nick⟩, ⟨d3.id, d3.nick⟩, ⟨d4.id, d4.nick⟩, ⟨d5.id, d5.nick⟩, ⟨d6.id, d6.nick⟩, ⟨d7.id, d7.nick⟩, ⟨d8.id, d8.nick⟩, ⟨d9.id, d9.nick⟩], some [s0, s1, s2, s3, s4, s5, s6, s7, s8, s9], some [x.src]⟩ : Gw.Log)))))))) (
      .ob (2 = 2 ∧ 0 ≤ (1 : Int) ∧ (1 : Int) < ((10 : Nat) : Int)) (
      .node ((d1.id : Int) == x.src) (
        .node ((x.src : Int) == me) (
          .ob ((1 = 1 ∧ ([.int .u32 x.src] : List V).length = 1 * 1) ∧ allOne [.int .u32 x.src] = true ∧ 1 * 4 ≤ 70368744177664) (
          .ob (0 ≤ (1 : Int) ∧ (1 : Int) < (((tab256 : Str).length : Nat) : Int)) (
          .leaf (.bool false, some (⟨me, some [⟨d0.id, d0.nick⟩, ⟨d1.id, d1.nick⟩, ⟨d2.id, d2.nick⟩, ⟨d3.id, d3.nick⟩, ⟨d4.id, d4.nick⟩, ⟨d5.id, d5.nick⟩, ⟨d6.id, d6.nick⟩, ⟨d7.id, d7.nick⟩, ⟨d8.id, d8.nick⟩, ⟨d9.id, d9.nick⟩], some [s0, s1, s2, s3, s4, s5, s6, s7, s8, s9], some [x.src]⟩ : Gw.Log))))) (
          .ob (2 = 2 ∧ 0 ≤ (1 : Int) ∧ (1 : Int) < ((10 : Nat) : Int)) (
          .node ((!((d1.nick : Str) == x.nick)) == false) (
            .ob (1 = 1 ∧ 0 ≤ (1 : Int) ∧ (1 : Int) < ((10 : Nat) : Int)) (
            .node ((s1 : Int) != x.slot) (
              .ob ((1 = 1 ∧ ([.int .u32 x.src] : List V).length = 1 * 1) ∧ allOne [.int .u32 x.src] = true ∧ 1 * 4 ≤ 70368744177664) (
              .ob (0 ≤ (1 : Int) ∧ (1 : Int) < (((tab256 : Str).length : Nat) : Int)) (
              .leaf (.bool false, some (⟨me, some [⟨d0.id, d0.nick⟩, ⟨d1.id, d1.nick⟩, ⟨d2.id, d2.nick⟩, ⟨d3.id, d3.nick⟩, ⟨d4.id, d4.nick⟩, ⟨d5.id, d5.nick⟩, ⟨d6.id, d6.nick⟩, ⟨d7.id, d7.nick⟩, ⟨d8.id, d8.nick⟩, ⟨d9.id, d9.nick⟩], some [s0, s1, s2, s3, s4, s5, s6, s7, s8, s9], some [x.src]⟩ : Gw.Log))))) (
              .leaf (.bool true, some (⟨me, some [⟨d0.id, d0.nick⟩, ⟨d1.id, d1.nick⟩, ⟨d2.id, d2.nick⟩, ⟨d3.id, d3.nick⟩, ⟨d4.id, d4.nick⟩, ⟨d5.id, d5.nick⟩, ⟨d6.id, d6.nick⟩, ⟨d7.id, d7.nick⟩, ⟨d8.id, d8.nick⟩, ⟨d9.id, d9.nick⟩], some [s0, s1, s2, s3, s4, s5, s6, s7, s8, s9], none⟩ : Gw.Log))))) (
            .ob ((1 = 1 ∧ ([.int .u32 x.src] : List V).length = 1 * 1) ∧ allOne [.int .u32 x.src] = true ∧ 1 * 4 ≤ 70368744177664) (
            .ob (0 ≤ (1 : Int) ∧ (1 : Int) < (((tab256 : Str).length : Nat) : Int)) (
            .leaf (.bool false, some (⟨me, some [⟨d0.id, d0.nick⟩, ⟨d1.id, d1.nick⟩, ⟨d2.id, d2.nick⟩, ⟨d3.id, d3.nick⟩, ⟨d4.id, d4.nick⟩, ⟨d5.id, d5.nick⟩, ⟨d6.id, d6.nick⟩, ⟨d7.id, d7.nick⟩, ⟨d8.id, d8.nick⟩, ⟨d9.id, d9.nick⟩], some [s0, s1, s2, s3, s4, s5, s6, s7, s8, s9], some [x.src]⟩ : Gw.Log)))))))) (
        .ob (2 = 2 ∧ 0 ≤ (2 : Int) ∧ (2 : Int) < ((10 : Nat) : Int)) (
        .node ((d2.id : Int) == x.src) (
          .node ((x.src : Int) == me) (
            .ob ((1 = 1 ∧ ([.int .u32 x.src] : List V).length = 1 * 1) ∧ allOne [.int .u32 x.src] = true ∧ 1 * 4 ≤ 70368744177664) (
            .ob (0 ≤ (1 : Int) ∧ (1 : Int) < (((tab256 : Str).length : Nat) : Int)) (
            .leaf (.bool false, some (⟨me, some [⟨d0.id, d0.nick⟩, ⟨d1.id, d1.nick⟩, ⟨d2.id, d2.nick⟩, ⟨d3.id, d3.nick⟩, ⟨d4.id, d4.nick⟩, ⟨d5.id, d5.nick⟩, ⟨d6.id, d6.nick⟩, ⟨d7.id, d7.nick⟩, ⟨d8.id, d8.nick⟩, ⟨d9.id, d9.nick⟩], some [s0, s1, s2, s3, s4, s5, s6, s7, s8, s9], some [x.src]⟩ : Gw.Log))))) (
            .ob (2 = 2 ∧ 0 ≤ (2 : Int) ∧ (2 : Int) < ((10 : Nat) : Int)) (
            .node ((!((d2.nick : Str) == x.nick)) == false) (
              .ob (1 = 1 ∧ 0 ≤ (2 : Int) ∧ (2 : Int) < ((10 : Nat) : Int)) (
              .node ((s2 : Int) != x.slot) (
                .ob ((1 = 1 ∧ ([.int .u32 x.src] : List V).length = 1 * 1) ∧ allOne [.int .u32 x.src] = true ∧ 1 * 4 ≤ 70368744177664) (
                .ob (0 ≤ (1 : Int) ∧ (1 : Int) < (((tab256 : Str).length : Nat) : Int)) (
                .leaf (.bool false, some (⟨me, some [⟨d0.id, d0.nick⟩, ⟨d1.id, d1.nick⟩, ⟨d2.id, d2.nick⟩, ⟨d3.id, d3.nick⟩, ⟨d4.id, d4.nick⟩, ⟨d5.id, d5.nick⟩, ⟨d6.id, d6.nick⟩, ⟨d7.id, d7.nick⟩, ⟨d8.id, d8.nick⟩, ⟨d9.id, d9.nick⟩], some [s0, s1, s2, s3, s4, s5, s6, s7, s8, s9], some [x.src]⟩ : Gw.Log))))) (
                .leaf (.bool true, some (⟨me, some [⟨d0.id, d0.nick⟩, ⟨d1.id, d1.nick⟩, ⟨d2.id, d2.nick⟩, ⟨d3.id, d3.nick⟩, ⟨d4.id, d4.nick⟩, ⟨d5.id, d5.nick⟩, ⟨d6.id, d6.nick⟩, ⟨d7.id, d7.nick⟩, ⟨d8.id, d8.nick⟩, ⟨d9.id, d9.nick⟩], some [s0, s1, s2, s3, s4, s5, s6, s7, s8, s9], none⟩ : Gw.Log))))) (
              .ob ((1 = 1 ∧ ([.int .u32 x.src] : List V).length = 1 * 1) ∧ allOne [.int .u32 x.src] = true ∧ 1 * 4 ≤ 70368744177664) (
              .ob (0 ≤ (1 : Int) ∧ (1 : Int) < (((tab256 : Str).length : Nat) : Int)) (
              .leaf (.bool false, some (⟨me, some [⟨d0.id, d0.nick⟩, ⟨d1.id, d1.nick⟩, ⟨d2.id, d2.nick⟩, ⟨d3.id, d3.nick⟩, ⟨d4.id, d4.nick⟩, ⟨d5.id, d5.nick⟩, ⟨d6.id, d6.nick⟩, ⟨d7.id, d7.nick⟩, ⟨d8.id, d8.nick⟩, ⟨d9.id, d9.nick⟩], some [s0, s1, s2, s3, s4, s5, s6, s7, s8, s9], some [x.src]⟩ : Gw.Log)))))))) (
          .ob (2 = 2 ∧ 0 ≤ (3 : Int) ∧ (3 : Int) < ((10 : Nat) : Int)) (
          .node ((d3.id : Int) == x.src) (
            .node ((x.src : Int) == me) (
              .ob ((1 = 1 ∧ ([.int .u32 x.src] : List V).length = 1 * 1) ∧ allOne [.int .u32 x.src] = true ∧ 1 * 4 ≤ 70368744177664) (
              .ob (0 ≤ (1 : Int) ∧ (1 : Int) < (((tab256 : Str).length : Nat) : Int)) (
              .leaf (.bool false, some (⟨me, some [⟨d0.id, d0.nick⟩, ⟨d1.id, d1.nick⟩, ⟨d2.id, d2.nick⟩, ⟨d3.id, d3.nick⟩, ⟨d4.id, d4.nick⟩, ⟨d5.id, d5.nick⟩, ⟨d6.id, d6.nick⟩, ⟨d7.id, d7.nick⟩, ⟨d8.id, d8.nick⟩, ⟨d9.id, d9.nick⟩], some [s0, s1, s2, s3, s4, s5, s6, s7, s8, s9], some [x.src]⟩ : Gw.Log))))) (
              .ob (2 = 2 ∧ 0 ≤ (3 : Int) ∧ (3 : Int) < ((10 : Nat) : Int)) (
              .node ((!((d3.nick : Str) == x.nick)) == false) (
                .ob (1 = 1 ∧ 0 ≤ (3 : Int) ∧ (3 : Int) < ((10 : Nat) : Int)) (
                .node ((s3 : Int) != x.slot) (
                  .ob ((1 = 1 ∧ ([.int .u32 x.src] : List V).length = 1 * 1) ∧ allOne [.int .u32 x.src] = true ∧ 1 * 4 ≤ 70368744177664) (
                  .ob (0 ≤ (1 : Int) ∧ (1 : Int) < (((tab256 : Str).length : Nat) : Int)) (
                  .leaf (.bool false, some (⟨me, some [⟨d0.id, d0.nick⟩, ⟨d1.id, d1.nick⟩, ⟨d2.id, d2.nick⟩, ⟨d3.id, d3.nick⟩, ⟨d4.id, d4.nick⟩, ⟨d5.id, d5.nick⟩, ⟨d6.id, d6.nick⟩, ⟨d7.id, d7.nick⟩, ⟨d8.id, d8.nick⟩, ⟨d9.id, d9.nick⟩], some [s0, s1, s2, s3, s4, s5, s6, s7, s8, s9], some [x.src]⟩ : Gw.Log))))) (
                  .leaf (.bool true, some (⟨me, some [⟨d0.id, d0.nick⟩, ⟨d1.id, d1.nick⟩, ⟨d2.id, d2.nick⟩, ⟨d3.id, d3.nick⟩, ⟨d4.id, d4.nick⟩, ⟨d5.id, d5.nick⟩, ⟨d6.id, d6.nick⟩, ⟨d7.id, d7.nick⟩, ⟨d8.id, d8.nick⟩, ⟨d9.id, d9.nick⟩], some [s0, s1, s2, s3, s4, s5, s6, s7, s8, s9], none⟩ : Gw.Log))))) (
                .ob ((1 = 1 ∧ ([.int .u32 x.src] : List V).length = 1 * 1) ∧ allOne [.int .u32 x.src] = true ∧ 1 * 4 ≤ 70368744177664) (
                .ob (0 ≤ (1 : Int) ∧ (1 : Int) < (((tab256 : Str).length : Nat) : Int)) (
                .leaf (.bool false, some (⟨me, some [⟨d0.id, d0.nick⟩, ⟨d1.id, d1.nick⟩, ⟨d2.id, d2.nick⟩, ⟨d3.id, d3.nick⟩, ⟨d4.id, d4.nick⟩, ⟨d5.id, d5.nick⟩, ⟨d6.id, d6.nick⟩, ⟨d7.id, d7.nick⟩, ⟨d8.id, d8.nick⟩, ⟨d9.id, d9.nick⟩], some [s0, s1, s2, s3, s4, s5, s6, s7, s8, s9], some [x.src]⟩ : Gw.Log)))))))) (
            .ob (2 = 2 ∧ 0 ≤ (4 : Int) ∧ (4 : Int) < ((10 : Nat) : Int)) (
            .node ((d4.id : Int) == x.src) (
              .node ((x.src : Int) == me) (
                .ob ((1 = 1 ∧ ([.int .u32 x.src] : List V).length = 1 * 1) ∧ allOne [.int .u32 x.src] = true ∧ 1 * 4 ≤ 70368744177664) (
                .ob (0 ≤ (1 : Int) ∧ (1 : Int) < (((tab256 : Str).length : Nat) : Int)) (
                .leaf (.bool false, some (⟨me, some [⟨d0.id, d0.nick⟩, ⟨d1.id, d1.nick⟩, ⟨d2.id, d2.nick⟩, ⟨d3.id, d3.nick⟩, ⟨d4.id, d4.nick⟩, ⟨d5.id, d5.nick⟩, ⟨d6.id, d6.nick⟩, ⟨d7.id, d7.nick⟩, ⟨d8.id, d8.nick⟩, ⟨d9.id, d9.nick⟩], some [s0, s1, s2, s3, s4, s5, s6, s7, s8, s9], some [x.src]⟩ : Gw.Log))))) (
                .ob (2 = 2 ∧ 0 ≤ (4 : Int) ∧ (4 : Int) < ((10 : Nat) : Int)) (
                .node ((!((d4.nick : Str) == x.nick)) == false) (
                  .ob (1 = 1 ∧ 0 ≤ (4 : Int) ∧ (4 : Int) < ((10 : Nat) : Int)) (
                  .node ((s4 : Int) != x.slot) (
                    .ob ((1 = 1 ∧ ([.int .u32 x.src] : List V).length = 1 * 1) ∧ allOne [.int .u32 x.src] = true ∧ 1 * 4 ≤ 70368744177664) (
                    .ob (0 ≤ (1 : Int) ∧ (1 : Int) < (((tab256 : Str).length : Nat) : Int)) (
                    .leaf (.bool false, some (⟨me, some [⟨d0.id, d0.nick⟩, ⟨d1.id, d1.nick⟩, ⟨d2.id, d2.nick⟩, ⟨d3.id, d3.nick⟩, ⟨d4.id, d4.nick⟩, ⟨d5.id, d5.nick⟩, ⟨d6.id, d6.nick⟩, ⟨d7.id, d7.nick⟩, ⟨d8.id, d8.nick⟩, ⟨d9.id, d9.nick⟩], some [s0, s1, s2, s3, s4, s5, s6, s7, s8, s9], some [x.src]⟩ : Gw.Log))))) (
                    .leaf (.bool true, some (⟨me, some [⟨d0.id, d0.nick⟩, ⟨d1.id, d1.nick⟩, ⟨d2.id, d2.nick⟩, ⟨d3.id, d3.nick⟩, ⟨d4.id, d4.nick⟩, ⟨d5.id, d5.nick⟩, ⟨d6.id, d6.nick⟩, ⟨d7.id, d7.nick⟩, ⟨d8.id, d8.nick⟩, ⟨d9.id, d9.nick⟩], some [s0, s1, s2, s3, s4, s5, s6, s7, s8, s9], none⟩ : Gw.Log))))) (
                  .ob ((1 = 1 ∧ ([.int .u32 x.src] : List V).length = 1 * 1) ∧ allOne [.int .u32 x.src] = true ∧ 1 * 4 ≤ 70368744177664) (
                  .ob (0 ≤ (1 : Int) ∧ (1 : Int) < (((tab256 : Str).length : Nat) : Int)) (
                  .leaf (.bool false, some (⟨me, some [⟨d0.id, d0.nick⟩, ⟨d1.id, d1.nick⟩, ⟨d2.id, d2.nick⟩, ⟨d3.id, d3.nick⟩, ⟨d4.id, d4.nick⟩, ⟨d5.id, d5.nick⟩, ⟨d6.id, d6.nick⟩, ⟨d7.id, d7.nick⟩, ⟨d8.id, d8.nick⟩, ⟨d9.id, d9.nick⟩], some [s0, s1, s2, s3, s4, s5, s6, s7, s8, s9], some [x.src]⟩ : Gw.Log)))))))) (
              .ob (2 = 2 ∧ 0 ≤ (5 : Int) ∧ (5 : Int) < ((10 : Nat) : Int)) (
              .node ((d5.id : Int) == x.src) (
                .node ((x.src : Int) == me) (
                  .ob ((1 = 1 ∧ ([.int .u32 x.src] : List V).length = 1 * 1) ∧ allOne [.int .u32 x.src] = true ∧ 1 * 4 ≤ 70368744177664) (
                  .ob (0 ≤ (1 : Int) ∧ (1 : Int) < (((tab256 : Str).length : Nat) : Int)) (
                  .leaf (.bool false, some (⟨me, some [⟨d0.id, d0.nick⟩, ⟨d1.id, d1.nick⟩, ⟨d2.id, d2.nick⟩, ⟨d3.id, d3.nick⟩, ⟨d4.id, d4.nick⟩, ⟨d5.id, d5.nick⟩, ⟨d6.id, d6.nick⟩, ⟨d7.id, d7.nick⟩, ⟨d8.id, d8.nick⟩, ⟨d9.id, d9.nick⟩], some [s0, s1, s2, s3, s4, s5, s6, s7, s8, s9], some [x.src]⟩ : Gw.Log))))) (
                  .ob (2 = 2 ∧ 0 ≤ (5 : Int) ∧ (5 : Int) < ((10 : Nat) : Int)) (
                  .node ((!((d5.nick : Str) == x.nick)) == false) (
                    .ob (1 = 1 ∧ 0 ≤ (5 : Int) ∧ (5 : Int) < ((10 : Nat) : Int)) (
                    .node ((s5 : Int) != x.slot) (
                      .ob ((1 = 1 ∧ ([.int .u32 x.src] : List V).length = 1 * 1) ∧ allOne [.int .u32 x.src] = true ∧ 1 * 4 ≤ 70368744177664) (
                      .ob (0 ≤ (1 : Int) ∧ (1 : Int) < (((tab256 : Str).length : Nat) : Int)) (
                      .leaf (.bool false, some (⟨me, some [⟨d0.id, d0.nick⟩, ⟨d1.id, d1.nick⟩, ⟨d2.id, d2.nick⟩, ⟨d3.id, d3.nick⟩, ⟨d4.id, d4.nick⟩, ⟨d5.id, d5.nick⟩, ⟨d6.id, d6.nick⟩, ⟨d7.id, d7.nick⟩, ⟨d8.id, d8.nick⟩, ⟨d9.id, d9.nick⟩], some [s0, s1, s2, s3, s4, s5, s6, s7, s8, s9], some [x.src]⟩ : Gw.Log))))) (
                      .leaf (.bool true, some (⟨me, some [⟨d0.id, d0.nick⟩, ⟨d1.id, d1.nick⟩, ⟨d2.id, d2.nick⟩, ⟨d3.id, d3.nick⟩, ⟨d4.id, d4.nick⟩, ⟨d5.id, d5.nick⟩, ⟨d6.id, d6.nick⟩, ⟨d7.id, d7.nick⟩, ⟨d8.id, d8.nick⟩, ⟨d9.id, d9.nick⟩], some [s0, s1, s2, s3, s4, s5, s6, s7, s8, s9], none⟩ : Gw.Log))))) (
                    .ob ((1 = 1 ∧ ([.int .u32 x.src] : List V).length = 1 * 1) ∧ allOne [.int .u32 x.src] = true ∧ 1 * 4 ≤ 70368744177664) (
                    .ob (0 ≤ (1 : Int) ∧ (1 : Int) < (((tab256 : Str).length : Nat) : Int)) (
                    .leaf (.bool false, some (⟨me, some [⟨d0.id, d0.nick⟩, ⟨d1.id, d1.nick⟩, ⟨d2.id, d2.nick⟩, ⟨d3.id, d3.nick⟩, ⟨d4.id, d4.nick⟩, ⟨d5.id, d5.nick⟩, ⟨d6.id, d6.nick⟩, ⟨d7.id, d7.nick⟩, ⟨d8.id, d8.nick⟩, ⟨d9.id, d9.nick⟩], some [s0, s1, s2, s3, s4, s5, s6, s7, s8, s9], some [x.src]⟩ : Gw.Log)))))))) (
                .ob (2 = 2 ∧ 0 ≤ (6 : Int) ∧ (6 : Int) < ((10 : Nat) : Int)) (
                .node ((d6.id : Int) == x.src) (
                  .node ((x.src : Int) == me) (
                    .ob ((1 = 1 ∧ ([.int .u32 x.src] : List V).length = 1 * 1) ∧ allOne [.int .u32 x.src] = true ∧ 1 * 4 ≤ 70368744177664) (
                    .ob (0 ≤ (1 : Int) ∧ (1 : Int) < (((tab256 : Str).length : Nat) : Int)) (
                    .leaf (.bool false, some (⟨me, some [⟨d0.id, d0.nick⟩, ⟨d1.id, d1.nick⟩, ⟨d2.id, d2.nick⟩, ⟨d3.id, d3.nick⟩, ⟨d4.id, d4.nick⟩, ⟨d5.id, d5.nick⟩, ⟨d6.id, d6.nick⟩, ⟨d7.id, d7.nick⟩, ⟨d8.id, d8.nick⟩, ⟨d9.id, d9.nick⟩], some [s0, s1, s2, s3, s4, s5, s6, s7, s8, s9], some [x.src]⟩ : Gw.Log))))) (
                    .ob (2 = 2 ∧ 0 ≤ (6 : Int) ∧ (6 : Int) < ((10 : Nat) : Int)) (
                    .node ((!((d6.nick : Str) == x.nick)) == false) (
                      .ob (1 = 1 ∧ 0 ≤ (6 : Int) ∧ (6 : Int) < ((10 : Nat) : Int)) (
                      .node ((s6 : Int) != x.slot) (
                        .ob ((1 = 1 ∧ ([.int .u32 x.src] : List V).length = 1 * 1) ∧ allOne [.int .u32 x.src] = true ∧ 1 * 4 ≤ 70368744177664) (
                        .ob (0 ≤ (1 : Int) ∧ (1 : Int) < (((tab256 : Str).length : Nat) : Int)) (
                        .leaf (.bool false, some (⟨me, some [⟨d0.id, d0.nick⟩, ⟨d1.id, d1.nick⟩, ⟨d2.id, d2.nick⟩, ⟨d3.id, d3.nick⟩, ⟨d4.id, d4.nick⟩, ⟨d5.id, d5.nick⟩, ⟨d6.id, d6.nick⟩, ⟨d7.id, d7.nick⟩, ⟨d8.id, d8.nick⟩, ⟨d9.id, d9.nick⟩], some [s0, s1, s2, s3, s4, s5, s6, s7, s8, s9], some [x.src]⟩ : Gw.Log))))) (
                        .leaf (.bool true, some (⟨me, some [⟨d0.id, d0.nick⟩, ⟨d1.id, d1.nick⟩, ⟨d2.id, d2.nick⟩, ⟨d3.id, d3.nick⟩, ⟨d4.id, d4.nick⟩, ⟨d5.id, d5.nick⟩, ⟨d6.id, d6.nick⟩, ⟨d7.id, d7.nick⟩, ⟨d8.id, d8.nick⟩, ⟨d9.id, d9.nick⟩], some [s0, s1, s2, s3, s4, s5, s6, s7, s8, s9], none⟩ : Gw.Log))))) (
                      .ob ((1 = 1 ∧ ([.int .u32 x.src] : List V).length = 1 * 1) ∧ allOne [.int .u32 x.src] = true ∧ 1 * 4 ≤ 70368744177664) (
                      .ob (0 ≤ (1 : Int) ∧ (1 : Int) < (((tab256 : Str).length : Nat) : Int)) (
                      .leaf (.bool false, some (⟨me, some [⟨d0.id, d0.nick⟩, ⟨d1.id, d1.nick⟩, ⟨d2.id, d2.nick⟩, ⟨d3.id, d3.nick⟩, ⟨d4.id, d4.nick⟩, ⟨d5.id, d5.nick⟩, ⟨d6.id, d6.nick⟩, ⟨d7.id, d7.nick⟩, ⟨d8.id, d8.nick⟩, ⟨d9.id, d9.nick⟩], some [s0, s1, s2, s3, s4, s5, s6, s7, s8, s9], some [x.src]⟩ : Gw.Log)))))))) (
                  .ob (2 = 2 ∧ 0 ≤ (7 : Int) ∧ (7 : Int) < ((10 : Nat) : Int)) (
                  .node ((d7.id : Int) == x.src) (
                    .node ((x.src : Int) == me) (
                      .ob ((1 = 1 ∧ ([.int .u32 x.src] : List V).length = 1 * 1) ∧ allOne [.int .u32 x.src] = true ∧ 1 * 4 ≤ 70368744177664) (
                      .ob (0 ≤ (1 : Int) ∧ (1 : Int) < (((tab256 : Str).length : Nat) : Int)) (
                      .leaf (.bool false, some (⟨me, some [⟨d0.id, d0.nick⟩, ⟨d1.id, d1.nick⟩, ⟨d2.id, d2.nick⟩, ⟨d3.id, d3.nick⟩, ⟨d4.id, d4.nick⟩, ⟨d5.id, d5.nick⟩, ⟨d6.id, d6.nick⟩, ⟨d7.id, d7.nick⟩, ⟨d8.id, d8.nick⟩, ⟨d9.id, d9.nick⟩], some [s0, s1, s2, s3, s4, s5, s6, s7, s8, s9], some [x.src]⟩ : Gw.Log))))) (
                      .ob (2 = 2 ∧ 0 ≤ (7 : Int) ∧ (7 : Int) < ((10 : Nat) : Int)) (
                      .node ((!((d7.nick : Str) == x.nick)) == false) (
                        .ob (1 = 1 ∧ 0 ≤ (7 : Int) ∧ (7 : Int) < ((10 : Nat) : Int)) (
                        .node ((s7 : Int) != x.slot) (
                          .ob ((1 = 1 ∧ ([.int .u32 x.src] : List V).length = 1 * 1) ∧ allOne [.int .u32 x.src] = true ∧ 1 * 4 ≤ 70368744177664) (
                          .ob (0 ≤ (1 : Int) ∧ (1 : Int) < (((tab256 : Str).length : Nat) : Int)) (
                          .leaf (.bool false, some (⟨me, some [⟨d0.id, d0.nick⟩, ⟨d1.id, d1.nick⟩, ⟨d2.id, d2.nick⟩, ⟨d3.id, d3.nick⟩, ⟨d4.id, d4.nick⟩, ⟨d5.id, d5.nick⟩, ⟨d6.id, d6.nick⟩, ⟨d7.id, d7.nick⟩, ⟨d8.id, d8.nick⟩, ⟨d9.id, d9.nick⟩], some [s0, s1, s2, s3, s4, s5, s6, s7, s8, s9], some [x.src]⟩ : Gw.Log))))) (
                          .leaf (.bool true, some (⟨me, some [⟨d0.id, d0.nick⟩, ⟨d1.id, d1.nick⟩, ⟨d2.id, d2.nick⟩, ⟨d3.id, d3.nick⟩, ⟨d4.id, d4.nick⟩, ⟨d5.id, d5.nick⟩, ⟨d6.id, d6.nick⟩, ⟨d7.id, d7.nick⟩, ⟨d8.id, d8.nick⟩, ⟨d9.id, d9.nick⟩], some [s0, s1, s2, s3, s4, s5, s6, s7, s8, s9], none⟩ : Gw.Log))))) (
                        .ob ((1 = 1 ∧ ([.int .u32 x.src] : List V).length = 1 * 1) ∧ allOne [.int .u32 x.src] = true ∧ 1 * 4 ≤ 70368744177664) (
                        .ob (0 ≤ (1 : Int) ∧ (1 : Int) < (((tab256 : Str).length : Nat) : Int)) (
                        .leaf (.bool false, some (⟨me, some [⟨d0.id, d0.nick⟩, ⟨d1.id, d1.nick⟩, ⟨d2.id, d2.nick⟩, ⟨d3.id, d3.nick⟩, ⟨d4.id, d4.nick⟩, ⟨d5.id, d5.nick⟩, ⟨d6.id, d6.nick⟩, ⟨d7.id, d7.nick⟩, ⟨d8.id, d8.nick⟩, ⟨d9.id, d9.nick⟩], some [s0, s1, s2, s3, s4, s5, s6, s7, s8, s9], some [x.src]⟩ : Gw.Log)))))))) (
                    .ob (2 = 2 ∧ 0 ≤ (8 : Int) ∧ (8 : Int) < ((10 : Nat) : Int)) (
                    .node ((d8.id : Int) == x.src) (
                      .node ((x.src : Int) == me) (
                        .ob ((1 = 1 ∧ ([.int .u32 x.src] : List V).length = 1 * 1) ∧ allOne [.int .u32 x.src] = true ∧ 1 * 4 ≤ 70368744177664) (
                        .ob (0 ≤ (1 : Int) ∧ (1 : Int) < (((tab256 : Str).length : Nat) : Int)) (
                        .leaf (.bool false, some (⟨me, some [⟨d0.id, d0.nick⟩, ⟨d1.id, d1.nick⟩, ⟨d2.id, d2.nick⟩, ⟨d3.id, d3.nick⟩, ⟨d4.id, d4.nick⟩, ⟨d5.id, d5.nick⟩, ⟨d6.id, d6.nick⟩, ⟨d7.id, d7.nick⟩, ⟨d8.id, d8.nick⟩, ⟨d9.id, d9.nick⟩], some [s0, s1, s2, s3, s4, s5, s6, s7, s8, s9], some [x.src]⟩ : Gw.Log))))) (
                        .ob (2 = 2 ∧ 0 ≤ (8 : Int) ∧ (8 : Int) < ((10 : Nat) : Int)) (
                        .node ((!((d8.nick : Str) == x.nick)) == false) (
                          .ob (1 = 1 ∧ 0 ≤ (8 : Int) ∧ (8 : Int) < ((10 : Nat) : Int)) (
                          .node ((s8 : Int) != x.slot) (
                            .ob ((1 = 1 ∧ ([.int .u32 x.src] : List V).length = 1 * 1) ∧ allOne [.int .u32 x.src] = true ∧ 1 * 4 ≤ 70368744177664) (
                            .ob (0 ≤ (1 : Int) ∧ (1 : Int) < (((tab256 : Str).length : Nat) : Int)) (
                            .leaf (.bool false, some (⟨me, some [⟨d0.id, d0.nick⟩, ⟨d1.id, d1.nick⟩, ⟨d2.id, d2.nick⟩, ⟨d3.id, d3.nick⟩, ⟨d4.id, d4.nick⟩, ⟨d5.id, d5.nick⟩, ⟨d6.id, d6.nick⟩, ⟨d7.id, d7.nick⟩, ⟨d8.id, d8.nick⟩, ⟨d9.id, d9.nick⟩], some [s0, s1, s2, s3, s4, s5, s6, s7, s8, s9], some [x.src]⟩ : Gw.Log))))) (
                            .leaf (.bool true, some (⟨me, some [⟨d0.id, d0.nick⟩, ⟨d1.id, d1.nick⟩, ⟨d2.id, d2.nick⟩, ⟨d3.id, d3.nick⟩, ⟨d4.id, d4.nick⟩, ⟨d5.id, d5.nick⟩, ⟨d6.id, d6.nick⟩, ⟨d7.id, d7.nick⟩, ⟨d8.id, d8.nick⟩, ⟨d9.id, d9.nick⟩], some [s0, s1, s2, s3, s4, s5, s6, s7, s8, s9], none⟩ : Gw.Log))))) (
                          .ob ((1 = 1 ∧ ([.int .u32 x.src] : List V).length = 1 * 1) ∧ allOne [.int .u32 x.src] = true ∧ 1 * 4 ≤ 70368744177664) (
                          .ob (0 ≤ (1 : Int) ∧ (1 : Int) < (((tab256 : Str).length : Nat) : Int)) (
                          .leaf (.bool false, some (⟨me, some [⟨d0.id, d0.nick⟩, ⟨d1.id, d1.nick⟩, ⟨d2.id, d2.nick⟩, ⟨d3.id, d3.nick⟩, ⟨d4.id, d4.nick⟩, ⟨d5.id, d5.nick⟩, ⟨d6.id, d6.nick⟩, ⟨d7.id, d7.nick⟩, ⟨d8.id, d8.nick⟩, ⟨d9.id, d9.nick⟩], some [s0, s1, s2, s3, s4, s5, s6, s7, s8, s9], some [x.src]⟩ : Gw.Log)))))))) (
                      .ob (2 = 2 ∧ 0 ≤ (9 : Int) ∧ (9 : Int) < ((10 : Nat) : Int)) (
                      .node ((d9.id : Int) == x.src) (
                        .node ((x.src : Int) == me) (
                          .ob ((1 = 1 ∧ ([.int .u32 x.src] : List V).length = 1 * 1) ∧ allOne [.int .u32 x.src] = true ∧ 1 * 4 ≤ 70368744177664) (
                          .ob (0 ≤ (1 : Int) ∧ (1 : Int) < (((tab256 : Str).length : Nat) : Int)) (
                          .leaf (.bool false, some (⟨me, some [⟨d0.id, d0.nick⟩, ⟨d1.id, d1.nick⟩, ⟨d2.id, d2.nick⟩, ⟨d3.id, d3.nick⟩, ⟨d4.id, d4.nick⟩, ⟨d5.id, d5.nick⟩, ⟨d6.id, d6.nick⟩, ⟨d7.id, d7.nick⟩, ⟨d8.id, d8.nick⟩, ⟨d9.id, d9.nick⟩], some [s0, s1, s2, s3, s4, s5, s6, s7, s8, s9], some [x.src]⟩ : Gw.Log))))) (
                          .ob (2 = 2 ∧ 0 ≤ (9 : Int) ∧ (9 : Int) < ((10 : Nat) : Int)) (
                          .node ((!((d9.nick : Str) == x.nick)) == false) (
                            .ob (1 = 1 ∧ 0 ≤ (9 : Int) ∧ (9 : Int) < ((10 : Nat) : Int)) (
                            .node ((s9 : Int) != x.slot) (
                              .ob ((1 = 1 ∧ ([.int .u32 x.src] : List V).length = 1 * 1) ∧ allOne [.int .u32 x.src] = true ∧ 1 * 4 ≤ 70368744177664) (
                              .ob (0 ≤ (1 : Int) ∧ (1 : Int) < (((tab256 : Str).length : Nat) : Int)) (
                              .leaf (.bool false, some (⟨me, some [⟨d0.id, d0.nick⟩, ⟨d1.id, d1.nick⟩, ⟨d2.id, d2.nick⟩, ⟨d3.id, d3.nick⟩, ⟨d4.id, d4.nick⟩, ⟨d5.id, d5.nick⟩, ⟨d6.id, d6.nick⟩, ⟨d7.id, d7.nick⟩, ⟨d8.id, d8.nick⟩, ⟨d9.id, d9.nick⟩], some [s0, s1, s2, s3, s4, s5, s6, s7, s8, s9], some [x.src]⟩ : Gw.Log))))) (
                              .leaf (.bool true, some (⟨me, some [⟨d0.id, d0.nick⟩, ⟨d1.id, d1.nick⟩, ⟨d2.id, d2.nick⟩, ⟨d3.id, d3.nick⟩, ⟨d4.id, d4.nick⟩, ⟨d5.id, d5.nick⟩, ⟨d6.id, d6.nick⟩, ⟨d7.id, d7.nick⟩, ⟨d8.id, d8.nick⟩, ⟨d9.id, d9.nick⟩], some [s0, s1, s2, s3, s4, s5, s6, s7, s8, s9], none⟩ : Gw.Log))))) (
                            .ob ((1 = 1 ∧ ([.int .u32 x.src] : List V).length = 1 * 1) ∧ allOne [.int .u32 x.src] = true ∧ 1 * 4 ≤ 70368744177664) (
                            .ob (0 ≤ (1 : Int) ∧ (1 : Int) < (((tab256 : Str).length : Nat) : Int)) (
                            .leaf (.bool false, some (⟨me, some [⟨d0.id, d0.nick⟩, ⟨d1.id, d1.nick⟩, ⟨d2.id, d2.nick⟩, ⟨d3.id, d3.nick⟩, ⟨d4.id, d4.nick⟩, ⟨d5.id, d5.nick⟩, ⟨d6.id, d6.nick⟩, ⟨d7.id, d7.nick⟩, ⟨d8.id, d8.nick⟩, ⟨d9.id, d9.nick⟩], some [s0, s1, s2, s3, s4, s5, s6, s7, s8, s9], some [x.src]⟩ : Gw.Log)))))))) (
                        .node ((x.src : Int) == me) (
                          .ob ((1 = 1 ∧ ([.int .u32 x.src] : List V).length = 1 * 1) ∧ allOne [.int .u32 x.src] = true ∧ 1 * 4 ≤ 70368744177664) (
                          .ob (0 ≤ (1 : Int) ∧ (1 : Int) < (((tab256 : Str).length : Nat) : Int)) (
                          .leaf (.bool false, some (⟨me, some [⟨d0.id, d0.nick⟩, ⟨d1.id, d1.nick⟩, ⟨d2.id, d2.nick⟩, ⟨d3.id, d3.nick⟩, ⟨d4.id, d4.nick⟩, ⟨d5.id, d5.nick⟩, ⟨d6.id, d6.nick⟩, ⟨d7.id, d7.nick⟩, ⟨d8.id, d8.nick⟩, ⟨d9.id, d9.nick⟩], some [s0, s1, s2, s3, s4, s5, s6, s7, s8, s9], some [x.src]⟩ : Gw.Log))))) (
                          .ob ((2 = 2 ∧ ([.int .u32 x.src, .str x.nick] : List V).length = 1 * 2) ∧ allOne [.int .u32 x.src, .str x.nick] = true ∧ 2 = 2 ∧ 11 * 24 ≤ 70368744177664 ∧ ([.int .u32 d0.id, .str d0.nick, .int .u32 d1.id, .str d1.nick, .int .u32 d2.id, .str d2.nick, .int .u32 d3.id, .str d3.nick, .int .u32 d4.id, .str d4.nick, .int .u32 d5.id, .str d5.nick, .int .u32 d6.id, .str d6.nick, .int .u32 d7.id, .str d7.nick, .int .u32 d8.id, .str d8.nick, .int .u32 d9.id, .str d9.nick] : List V).length = 10 * 2) (
                          .ob ((1 = 1 ∧ ([.int .i64 x.slot] : List V).length = 1 * 1) ∧ allOne [.int .i64 x.slot] = true ∧ 1 = 1 ∧ 11 * 8 ≤ 70368744177664 ∧ ([.int .i64 s0, .int .i64 s1, .int .i64 s2, .int .i64 s3, .int .i64 s4, .int .i64 s5, .int .i64 s6, .int .i64 s7, .int .i64 s8, .int .i64 s9] : List V).length = 10 * 1) (
                          .leaf (.bool true, some (⟨me, some [⟨d0.id, d0.nick⟩, ⟨d1.id, d1.nick⟩, ⟨d2.id, d2.nick⟩, ⟨d3.id, d3.nick⟩, ⟨d4.id, d4.nick⟩, ⟨d5.id, d5.nick⟩, ⟨d6.id, d6.nick⟩, ⟨d7.id, d7.nick⟩, ⟨d8.id, d8.nick⟩, ⟨d9.id, d9.nick⟩, ⟨x.src, x.nick⟩], some [s0, s1, s2, s3, s4, s5, s6, s7, s8, s9, x.slot], none⟩ : Gw.Log))))))))))))))))))))))))))
set_option maxRecDepth 1000000 in
theorem treeAdd10_0_eq (me : Int) (d0 d1 d2 d3 d4 d5 d6 d7 d8 d9 : Gw.Device) (s0 s1 s2 s3 s4 s5 s6 s7 s8 s9 : Int) (x : Gw.Xid) : funT (mkXT pxM noOX) (mkXP pxM) (mkX pxM noOX) D (fun _ => noOrc) (fun k => match k with | 37 => [28, 57, 60, 67] | 62 => [9] | 76 => [8] | 91 => [23] | 108 => [12] | 118 => [4, 8, 14] | _ => []) 12 noOrc [28, 57, 60, 67] noLt (dOf 37) [.ptr 3 0, .agg x.vs] (((openAt (smallH [.o 0 (.log ⟨me, some [d0, d1, d2, d3, d4, d5, d6, d7, d8, d9], some [s0, s1, s2, s3, s4, s5, s6, s7, s8, s9], none⟩)]) 3 (.log ⟨me, some [d0, d1, d2, d3, d4, d5, d6, d7, d8, d9], some [s0, s1, s2, s3, s4, s5, s6, s7, s8, s9], none⟩)).put 4 (some (.cells false ([d0, d1, d2, d3, d4, d5, d6, d7, d8, d9].flatMap Gw.Device.vs)))).put 5 (some (.cells false ([s0, s1, s2, s3, s4, s5, s6, s7, s8, s9].map (V.int .i64))))) (fun v h => (v, readLog h 3)) = treeAdd10_0 me d0 d1 d2 d3 d4 d5 d6 d7 d8 d9 s0 s1 s2 s3 s4 s5 s6 s7 s8 s9 x := by kernel_rfl
set_option maxHeartbeats 4000000 in
theorem satAdd10_0 (me : Int) (d0 d1 d2 d3 d4 d5 d6 d7 d8 d9 : Gw.Device) (s0 s1 s2 s3 s4 s5 s6 s7 s8 s9 : Int) (x : Gw.Xid) : (treeAdd10_0 me d0 d1 d2 d3 d4 d5 d6 d7 d8 d9 s0 s1 s2 s3 s4 s5 s6 s7 s8 s9 x).sat fun p => p = (.bool (logAdd ⟨me, some [d0, d1, d2, d3, d4, d5, d6, d7, d8, d9], some [s0, s1, s2, s3, s4, s5, s6, s7, s8, s9], none⟩ x).1, some (logAdd ⟨me, some [d0, d1, d2, d3, d4, d5, d6, d7, d8, d9], some [s0, s1, s2, s3, s4, s5, s6, s7, s8, s9], none⟩ x).2) := by
  obtain ⟨a0, b0⟩ := d0
  obtain ⟨a1, b1⟩ := d1
  obtain ⟨a2, b2⟩ := d2
  obtain ⟨a3, b3⟩ := d3
  obtain ⟨a4, b4⟩ := d4
  obtain ⟨a5, b5⟩ := d5
  obtain ⟨a6, b6⟩ := d6
  obtain ⟨a7, b7⟩ := d7
  obtain ⟨a8, b8⟩ := d8
  obtain ⟨a9, b9⟩ := d9
  unfold treeAdd10_0
  cases hm : mayXid x with
  | false => simp [DT.sat, logAdd, logFind, clashAdd, mayXid_eta, len_tab256, allOne, V.one, hm]
  | true =>
  by_cases h0 : a0 = x.src
  · subst h0
    by_cases hs : x.src = me
    · subst hs; simp [DT.sat, logAdd, logFind, clashAdd, mayXid_eta, len_tab256, allOne, V.one, hm]
    · by_cases hn : b0 = x.nick
      · subst hn
        by_cases hl : s0 = x.slot
        · subst hl; simp [DT.sat, logAdd, logFind, clashAdd, mayXid_eta, len_tab256, allOne, V.one, hm, hs]
        · have hl' : (s0 == x.slot) = false := by simpa using hl
          simp [DT.sat, logAdd, logFind, clashAdd, mayXid_eta, len_tab256, allOne, V.one, hm, hs, hl, hl']
      · have hn' : (b0 == x.nick) = false := by simpa using hn
        simp [DT.sat, logAdd, logFind, clashAdd, mayXid_eta, len_tab256, allOne, V.one, hm, hs, hn, hn']
  by_cases h1 : a1 = x.src
  · subst h1
    by_cases hs : x.src = me
    · subst hs; simp [DT.sat, logAdd, logFind, clashAdd, mayXid_eta, len_tab256, allOne, V.one, hm, h0]
    · by_cases hn : b1 = x.nick
      · subst hn
        by_cases hl : s1 = x.slot
        · subst hl; simp [DT.sat, logAdd, logFind, clashAdd, mayXid_eta, len_tab256, allOne, V.one, hm, hs, h0]
        · have hl' : (s1 == x.slot) = false := by simpa using hl
          simp [DT.sat, logAdd, logFind, clashAdd, mayXid_eta, len_tab256, allOne, V.one, hm, hs, hl, hl', h0]
      · have hn' : (b1 == x.nick) = false := by simpa using hn
        simp [DT.sat, logAdd, logFind, clashAdd, mayXid_eta, len_tab256, allOne, V.one, hm, hs, hn, hn', h0]
  by_cases h2 : a2 = x.src
  · subst h2
    by_cases hs : x.src = me
    · subst hs; simp [DT.sat, logAdd, logFind, clashAdd, mayXid_eta, len_tab256, allOne, V.one, hm, h0, h1]
    · by_cases hn : b2 = x.nick
      · subst hn
        by_cases hl : s2 = x.slot
        · subst hl; simp [DT.sat, logAdd, logFind, clashAdd, mayXid_eta, len_tab256, allOne, V.one, hm, hs, h0, h1]
        · have hl' : (s2 == x.slot) = false := by simpa using hl
          simp [DT.sat, logAdd, logFind, clashAdd, mayXid_eta, len_tab256, allOne, V.one, hm, hs, hl, hl', h0, h1]
      · have hn' : (b2 == x.nick) = false := by simpa using hn
        simp [DT.sat, logAdd, logFind, clashAdd, mayXid_eta, len_tab256, allOne, V.one, hm, hs, hn, hn', h0, h1]
  by_cases h3 : a3 = x.src
  · subst h3
    by_cases hs : x.src = me
    · subst hs; simp [DT.sat, logAdd, logFind, clashAdd, mayXid_eta, len_tab256, allOne, V.one, hm, h0, h1, h2]
    · by_cases hn : b3 = x.nick
      · subst hn
        by_cases hl : s3 = x.slot
        · subst hl; simp [DT.sat, logAdd, logFind, clashAdd, mayXid_eta, len_tab256, allOne, V.one, hm, hs, h0, h1, h2]
        · have hl' : (s3 == x.slot) = false := by simpa using hl
          simp [DT.sat, logAdd, logFind, clashAdd, mayXid_eta, len_tab256, allOne, V.one, hm, hs, hl, hl', h0, h1, h2]
      · have hn' : (b3 == x.nick) = false := by simpa using hn
        simp [DT.sat, logAdd, logFind, clashAdd, mayXid_eta, len_tab256, allOne, V.one, hm, hs, hn, hn', h0, h1, h2]
  by_cases h4 : a4 = x.src
  · subst h4
    by_cases hs : x.src = me
    · subst hs; simp [DT.sat, logAdd, logFind, clashAdd, mayXid_eta, len_tab256, allOne, V.one, hm, h0, h1, h2, h3]
    · by_cases hn : b4 = x.nick
      · subst hn
        by_cases hl : s4 = x.slot
        · subst hl; simp [DT.sat, logAdd, logFind, clashAdd, mayXid_eta, len_tab256, allOne, V.one, hm, hs, h0, h1, h2, h3]
        · have hl' : (s4 == x.slot) = false := by simpa using hl
          simp [DT.sat, logAdd, logFind, clashAdd, mayXid_eta, len_tab256, allOne, V.one, hm, hs, hl, hl', h0, h1, h2, h3]
      · have hn' : (b4 == x.nick) = false := by simpa using hn
        simp [DT.sat, logAdd, logFind, clashAdd, mayXid_eta, len_tab256, allOne, V.one, hm, hs, hn, hn', h0, h1, h2, h3]
  by_cases h5 : a5 = x.src
  · subst h5
    by_cases hs : x.src = me
    · subst hs; simp [DT.sat, logAdd, logFind, clashAdd, mayXid_eta, len_tab256, allOne, V.one, hm, h0, h1, h2, h3, h4]
    · by_cases hn : b5 = x.nick
      · subst hn
        by_cases hl : s5 = x.slot
        · subst hl; simp [DT.sat, logAdd, logFind, clashAdd, mayXid_eta, len_tab256, allOne, V.one, hm, hs, h0, h1, h2, h3, h4]
        · have hl' : (s5 == x.slot) = false := by simpa using hl
          simp [DT.sat, logAdd, logFind, clashAdd, mayXid_eta, len_tab256, allOne, V.one, hm, hs, hl, hl', h0, h1, h2, h3, h4]
      · have hn' : (b5 == x.nick) = false := by simpa using hn
        simp [DT.sat, logAdd, logFind, clashAdd, mayXid_eta, len_tab256, allOne, V.one, hm, hs, hn, hn', h0, h1, h2, h3, h4]
  by_cases h6 : a6 = x.src
  · subst h6
    by_cases hs : x.src = me
    · subst hs; simp [DT.sat, logAdd, logFind, clashAdd, mayXid_eta, len_tab256, allOne, V.one, hm, h0, h1, h2, h3, h4, h5]
    · by_cases hn : b6 = x.nick
      · subst hn
        by_cases hl : s6 = x.slot
        · subst hl; simp [DT.sat, logAdd, logFind, clashAdd, mayXid_eta, len_tab256, allOne, V.one, hm, hs, h0, h1, h2, h3, h4, h5]
        · have hl' : (s6 == x.slot) = false := by simpa using hl
          simp [DT.sat, logAdd, logFind, clashAdd, mayXid_eta, len_tab256, allOne, V.one, hm, hs, hl, hl', h0, h1, h2, h3, h4, h5]
      · have hn' : (b6 == x.nick) = false := by simpa using hn
        simp [DT.sat, logAdd, logFind, clashAdd, mayXid_eta, len_tab256, allOne, V.one, hm, hs, hn, hn', h0, h1, h2, h3, h4, h5]
  by_cases h7 : a7 = x.src
  · subst h7
    by_cases hs : x.src = me
    · subst hs; simp [DT.sat, logAdd, logFind, clashAdd, mayXid_eta, len_tab256, allOne, V.one, hm, h0, h1, h2, h3, h4, h5, h6]
    · by_cases hn : b7 = x.nick
      · subst hn
        by_cases hl : s7 = x.slot
        · subst hl; simp [DT.sat, logAdd, logFind, clashAdd, mayXid_eta, len_tab256, allOne, V.one, hm, hs, h0, h1, h2, h3, h4, h5, h6]
        · have hl' : (s7 == x.slot) = false := by simpa using hl
          simp [DT.sat, logAdd, logFind, clashAdd, mayXid_eta, len_tab256, allOne, V.one, hm, hs, hl, hl', h0, h1, h2, h3, h4, h5, h6]
      · have hn' : (b7 == x.nick) = false := by simpa using hn
        simp [DT.sat, logAdd, logFind, clashAdd, mayXid_eta, len_tab256, allOne, V.one, hm, hs, hn, hn', h0, h1, h2, h3, h4, h5, h6]
  by_cases h8 : a8 = x.src
  · subst h8
    by_cases hs : x.src = me
    · subst hs; simp [DT.sat, logAdd, logFind, clashAdd, mayXid_eta, len_tab256, allOne, V.one, hm, h0, h1, h2, h3, h4, h5, h6, h7]
    · by_cases hn : b8 = x.nick
      · subst hn
        by_cases hl : s8 = x.slot
        · subst hl; simp [DT.sat, logAdd, logFind, clashAdd, mayXid_eta, len_tab256, allOne, V.one, hm, hs, h0, h1, h2, h3, h4, h5, h6, h7]
        · have hl' : (s8 == x.slot) = false := by simpa using hl
          simp [DT.sat, logAdd, logFind, clashAdd, mayXid_eta, len_tab256, allOne, V.one, hm, hs, hl, hl', h0, h1, h2, h3, h4, h5, h6, h7]
      · have hn' : (b8 == x.nick) = false := by simpa using hn
        simp [DT.sat, logAdd, logFind, clashAdd, mayXid_eta, len_tab256, allOne, V.one, hm, hs, hn, hn', h0, h1, h2, h3, h4, h5, h6, h7]
  by_cases h9 : a9 = x.src
  · subst h9
    by_cases hs : x.src = me
    · subst hs; simp [DT.sat, logAdd, logFind, clashAdd, mayXid_eta, len_tab256, allOne, V.one, hm, h0, h1, h2, h3, h4, h5, h6, h7, h8]
    · by_cases hn : b9 = x.nick
      · subst hn
        by_cases hl : s9 = x.slot
        · subst hl; simp [DT.sat, logAdd, logFind, clashAdd, mayXid_eta, len_tab256, allOne, V.one, hm, hs, h0, h1, h2, h3, h4, h5, h6, h7, h8]
        · have hl' : (s9 == x.slot) = false := by simpa using hl
          simp [DT.sat, logAdd, logFind, clashAdd, mayXid_eta, len_tab256, allOne, V.one, hm, hs, hl, hl', h0, h1, h2, h3, h4, h5, h6, h7, h8]
      · have hn' : (b9 == x.nick) = false := by simpa using hn
        simp [DT.sat, logAdd, logFind, clashAdd, mayXid_eta, len_tab256, allOne, V.one, hm, hs, hn, hn', h0, h1, h2, h3, h4, h5, h6, h7, h8]
  by_cases hs : x.src = me
  · subst hs; simp [DT.sat, logAdd, logFind, clashAdd, mayXid_eta, len_tab256, allOne, V.one, hm, h0, h1, h2, h3, h4, h5, h6, h7, h8, h9]
  · simp [DT.sat, logAdd, logFind, clashAdd, mayXid_eta, len_tab256, allOne, V.one, hm, hs, h0, h1, h2, h3, h4, h5, h6, h7, h8, h9]
theorem runAdd10_0 (me : Int) (d0 d1 d2 d3 d4 d5 d6 d7 d8 d9 : Gw.Device) (s0 s1 s2 s3 s4 s5 s6 s7 s8 s9 : Int) (x : Gw.Xid) : Run Tryz.prog 37 [.ptr 3 0, .agg x.vs] (((openAt (smallH [.o 0 (.log ⟨me, some [d0, d1, d2, d3, d4, d5, d6, d7, d8, d9], some [s0, s1, s2, s3, s4, s5, s6, s7, s8, s9], none⟩)]) 3 (.log ⟨me, some [d0, d1, d2, d3, d4, d5, d6, d7, d8, d9], some [s0, s1, s2, s3, s4, s5, s6, s7, s8, s9], none⟩)).put 4 (some (.cells false ([d0, d1, d2, d3, d4, d5, d6, d7, d8, d9].flatMap Gw.Device.vs)))).put 5 (some (.cells false ([s0, s1, s2, s3, s4, s5, s6, s7, s8, s9].map (V.int .i64))))) fun r h => Gw.Ends [.o 0 (.log ⟨me, some [d0, d1, d2, d3, d4, d5, d6, d7, d8, d9], some [s0, s1, s2, s3, s4, s5, s6, s7, s8, s9], none⟩)] [.log (logAdd ⟨me, some [d0, d1, d2, d3, d4, d5, d6, d7, d8, d9], some [s0, s1, s2, s3, s4, s5, s6, s7, s8, s9], none⟩ x).2] [] [.f (.bool (logAdd ⟨me, some [d0, d1, d2, d3, d4, d5, d6, d7, d8, d9], some [s0, s1, s2, s3, s4, s5, s6, s7, s8, s9], none⟩ x).1)] r h :=
  runMono (run_plainU mixed tabM tabD (dIs (by kernel_rfl)) (treeAdd10_0_eq me d0 d1 d2 d3 d4 d5 d6 d7 d8 d9 s0 s1 s2 s3 s4 s5 s6 s7 s8 s9 x) (satAdd10_0 me d0 d1 d2 d3 d4 d5 d6 d7 d8 d9 s0 s1 s2 s3 s4 s5 s6 s7 s8 s9 x)) fun r h hq => by
    simp only [Prod.mk.injEq] at hq
    obtain ⟨rfl, hr⟩ := hq
    obtain ⟨ws, ids, h1, h2, h3, h4⟩ := readLog_ok hr
    exact ends_o h1 h2 h3 h4
def treeAdd11_0 (me : Int) (d0 d1 d2 d3 d4 d5 d6 d7 d8 d9 d10 : Gw.Device) (s0 s1 s2 s3 s4 s5 s6 s7 s8 s9 s10 : Int) (x : Gw.Xid) : DT (V × Option Gw.Log) :=
  .node (!(mayXid ⟨x.src, x.dst, x.slot, x.slots, x.anew, x.nick⟩)) (
    .leaf (.bool false, some (⟨me, some [⟨d0.id, d0.nick⟩, ⟨d1.id, d1.nick⟩, ⟨d2.id, d2.nick⟩, ⟨d3.id, d3.nick⟩, ⟨d4.id, d4.nick⟩, ⟨d5.id, d5.nick⟩, ⟨d6.id, d6.nick⟩, ⟨d7.id, d7.nick⟩, ⟨d8.id, d8.nick⟩, ⟨d9.id, d9.nick⟩, ⟨d10.id, d10.nick⟩], some [s0, s1, s2, s3, s4, s5, s6, s7, s8, s9, s10], none⟩ : Gw.Log))) (
    .ob (2 = 2 ∧ 0 ≤ (0 : Int) ∧ (0 : Int) < ((11 : Nat) : Int)) (
    .node ((d0.id : Int) == x.src) (
      .node ((x.src : Int) == me) (
        .ob ((1 = 1 ∧ ([.int .u32 x.src] : List V).length = 1 * 1) ∧ allOne [.int .u32 x.src] = true ∧ 1 * 4 ≤ 70368744177664) (
        .ob (0 ≤ (1 : Int) ∧ (1 : Int) < (((tab256 : Str).length : Nat) : Int)) (
        .leaf (.bool false, some (⟨me, some [⟨d0.id, d0.nick⟩, ⟨d1.id, d1.nick⟩, ⟨d2.id, d2.nick⟩, ⟨d3.id, d3.nick⟩, ⟨d4.id, d4.nick⟩, ⟨d5.id, d5.nick⟩, ⟨d6.id, d6.nick⟩, ⟨d7.id, d7.nick⟩, ⟨d8.id, d8.nick⟩, ⟨d9.id, d9.nick⟩, ⟨d10.id, d10.nick⟩], some [s0, s1, s2, s3, s4, s5, s6, s7, s8, s9, s10], some [x.src]⟩ : Gw.Log))))) (
        .ob (2 = 2 ∧ 0 ≤ (0 : Int) ∧ (0 : Int) < ((11 : Nat) : Int)) (
        .node ((!((d0.nick : Str) == x.nick)) == false) (
          .ob (1 = 1 ∧ 0 ≤ (0 : Int) ∧ (0 : Int) < ((11 : Nat) : Int)) (
          .node ((s0 : Int) != x.slot) (
            .ob ((1 = 1 ∧ ([.int .u32 x.src] : List V).length = 1 * 1) ∧ allOne [.int .u32 x.src] = true ∧ 1 * 4 ≤ 70368744177664) (
            .ob (0 ≤ (1 : Int) ∧ (1 : Int) < (((tab256 : Str).length : Nat) : Int)) (
            .leaf (.bool false, some (⟨me, some [⟨d0.id, d0.nick⟩, ⟨d1.id, d1.nick⟩, ⟨d2.id, d2.nick⟩, ⟨d3.id, d3.nick⟩, ⟨d4.id, d4.nick⟩, ⟨d5.id, d5.nick⟩, ⟨d6.id, d6.nick⟩, ⟨d7.id, d7.nick⟩, ⟨d8.id, d8.nick⟩, ⟨d9.id, d9.nick⟩, ⟨d10.id, d10.nick⟩], some [s0, s1, s2, s3, s4, s5, s6, s7, s8, s9, s10], some [x.src]⟩ : Gw.Log))))) (
            .leaf (.bool true, some (⟨me, some [⟨d0.id, d0.nick⟩, ⟨d1.id, d1.nick⟩, ⟨d2.id, d2.nick⟩, ⟨d3.id, d3.nick⟩, ⟨d4.id, d4.nick⟩, ⟨d5.id, d5.nick⟩, ⟨d6.id, d6.nick⟩, ⟨d7.id, d7.nick⟩, ⟨d8.id, d8.nick⟩, ⟨d9.id, d9.nick⟩, ⟨d10.id, d10.nick⟩], some [s0, s1, s2, s3, s4, s5, s6, s7, s8, s9, s10], none⟩ : Gw.Log))))) (
          .ob ((1 = 1 ∧ ([.int .u32 x.src] : List V).length = 1 * 1) ∧ allOne [.int .u32 x.src] = true ∧ 1 * 4 ≤ 70368744177664) (
          .ob (0 ≤ (1 : Int) ∧ (1 : Int) < (((tab256 : Str).length : Nat) : Int)) (
          .leaf (.bool false, some (⟨me, some [⟨d0.id, d0.nick⟩, ⟨d1.id, d1.nick⟩, ⟨d2.id, d2.nick⟩, ⟨d3.id, d3.nick⟩, ⟨d4.id, d4.nick⟩, ⟨d5.id, d5.nick⟩, ⟨d6.id, d6.nick⟩, ⟨d7.id, d7.nick⟩, ⟨d8.id, d8.nick⟩, ⟨d9.id, d9.nick⟩, ⟨d10.id, d10.nick⟩], some [s0, s1, s2, s3, s4, s5, s6, s7, s8, s9, s10], some [x.src]⟩ : Gw.Log)))))))) (
      .ob (2 = 2 ∧ 0 ≤ (1 : Int) ∧ (1 : Int) < ((11 : Nat) : Int)) (
      .node ((d1.id : Int) == x.src) (
        .node ((x.src : Int) == me) (
          .ob ((1 = 1 ∧ ([.int .u32 x.src] : List V).length = 1 * 1) ∧ allOne [.int .u32 x.src] = true ∧ 1 * 4 ≤ 70368744177664) (
          .ob (0 ≤ (1 : Int) ∧ (1 : Int) < (((tab256 : Str).length : Nat) : Int)) (
          .leaf (.bool false, some (⟨me, some [⟨d0.id, d0.nick⟩, ⟨d1.id, d1.nick⟩, ⟨d2.id, d2.nick⟩, ⟨d3.id, d3.nick⟩, ⟨d4.id, d4.nick⟩, ⟨d5.id, d5.nick⟩, ⟨d6.id, d6.nick⟩, ⟨d7.id, d7.nick⟩, ⟨d8.id, d8.nick⟩, ⟨d9.id, d9.nick⟩, ⟨d10.id, d10.nick⟩], some [s0, s1, s2, s3, s4, s5, s6, s7, s8, s9, s10], some [x.src]⟩ : Gw.Log))))) (
          .ob (2 = 2 ∧ 0 ≤ (1 : Int) ∧ (1 : Int) < ((11 : Nat) : Int)) (
          .node ((!((d1.nick : Str) == x.nick)) == false) (
            .ob (1 = 1 ∧ 0 ≤ (1 : Int) ∧ (1 : Int) < ((11 : Nat) : Int)) (
            .node ((s1 : Int) != x.slot) (
              .ob ((1 = 1 ∧ ([.int .u32 x.src] : List V).length = 1 * 1) ∧ allOne [.int .u32 x.src] = true ∧ 1 * 4 ≤ 70368744177664) (
              .ob (0 ≤ (1 : Int) ∧ (1 : Int) < (((tab256 : Str).length : Nat) : Int)) (
              .leaf (.bool false, some (⟨me, some [⟨d0.id, d0.nick⟩, ⟨d1.id, d1.nick⟩, ⟨d2.id, d2.nick⟩, ⟨d3.id, d3.nick⟩, ⟨d4.id, d4.nick⟩, ⟨d5.id, d5.nick⟩, ⟨d6.id, d6.nick⟩, ⟨d7.id, d7.nick⟩, ⟨d8.id, d8.nick⟩, ⟨d9.id, d9.nick⟩, ⟨d10.id, d10.nick⟩], some [s0, s1, s2, s3, s4, s5, s6, s7, s8, s9, s10], some [x.src]⟩ : Gw.Log))))) (
              .leaf (.bool true, some (⟨me, some [⟨d0.id, d0.nick⟩, ⟨d1.id, d1.nick⟩, ⟨d2.id, d2.nick⟩, ⟨d3.id, d3.nick⟩, ⟨d4.id, d4.nick⟩, ⟨d5.id, d5.nick⟩, ⟨d6.id, d6.nick⟩, ⟨d7.id, d7.nick⟩, ⟨d8.id, d8.nick⟩, ⟨d9.id, d9.nick⟩, ⟨d10.id, d10.nick⟩], some [s0, s1, s2, s3, s4, s5, s6, s7, s8, s9, s10], none⟩ : Gw.Log))))) (
            .ob ((1 = 1 ∧ ([.int .u32 x.src] : List V).length = 1 * 1) ∧ allOne [.int .u32 x.src] = true ∧ 1 * 4 ≤ 70368744177664) (
            .ob (0 ≤ (1 : Int) ∧ (1 : Int) < (((tab256 : Str).length : Nat) : Int)) (
            .leaf (.bool false, some (⟨me, some [⟨d0.id, d0.nick⟩, ⟨d1.id, d1.nick⟩, ⟨d2.id, d2.nick⟩, ⟨d3.id, d3.nick⟩, ⟨d4.id, d4.nick⟩, ⟨d5.id, d5.nick⟩, ⟨d6.id, d6.nick⟩, ⟨d7.id, d7.nick⟩, ⟨d8.id, d8.nick⟩, ⟨d9.id, d9.nick⟩, ⟨d10.id, d10.nick⟩], some [s0, s1, s2, s3, s4, s5, s6, s7, s8, s9, s10], some [x.src]⟩ : Gw.Log)))))))) (
        .ob (2 = 2 ∧ 0 ≤ (2 : Int) ∧ (2 : Int) < ((11 : Nat) : Int)) (
        .node ((d2.id : Int) == x.src) (
          .node ((x.src : Int) == me) (
            .ob ((1 = 1 ∧ ([.int .u32 x.src] : List V).length = 1 * 1) ∧ allOne [.int .u32 x.src] = true ∧ 1 * 4 ≤ 70368744177664) (
            .ob (0 ≤ (1 : Int) ∧ (1 : Int) < (((tab256 : Str).length : Nat) : Int)) (
            .leaf (.bool false, some (⟨me, some [⟨d0.id, d0.nick⟩, ⟨d1.id, d1.nick⟩, ⟨d2.id, d2.nick⟩, ⟨d3.id, d3.nick⟩, ⟨d4.id, d4.nick⟩, ⟨d5.id, d5.nick⟩, ⟨d6.id, d6.nick⟩, ⟨d7.id, d7.nick⟩, ⟨d8.id, d8.nick⟩, ⟨d9.id, d9.nick⟩, ⟨d10.id, d10.nick⟩], some [s0, s1, s2, s3, s4, s5, s6, s7, s8, s9, s10], some [x.src]⟩ : Gw.Log))))) (
            .ob (2 = 2 ∧ 0 ≤ (2 : Int) ∧ (2 : Int) < ((11 : Nat) : Int)) (
            .node ((!((d2.nick : Str) == x.nick)) == false) (
              .ob (1 = 1 ∧ 0 ≤ (2 : Int) ∧ (2 : Int) < ((11 : Nat) : Int)) (
              .node ((s2 : Int) != x.slot) (
                .ob ((1 = 1 ∧ ([.int .u32 x.src] : List V).length = 1 * 1) ∧ allOne [.int .u32 x.src] = true ∧ 1 * 4 ≤ 70368744177664) (
                .ob (0 ≤ (1 : Int) ∧ (1 : Int) < (((tab256 : Str).length : Nat) : Int)) (
                .leaf (.bool false, some (⟨me, some [⟨d0.id, d0.nick⟩, ⟨d1.id, d1.nick⟩, ⟨d2.id, d2.nick⟩, ⟨d3.id, d3.nick⟩, ⟨d4.id, d4.nick⟩, ⟨d5.id, d5.nick⟩, ⟨d6.id, d6.nick⟩, ⟨d7.id, d7.nick⟩, ⟨d8.id, d8.nick⟩, ⟨d9.id, d9.nick⟩, ⟨d10.id, d10.nick⟩], some [s0, s1, s2, s3, s4, s5, s6, s7, s8, s9, s10], some [x.src]⟩ : Gw.Log))))) (
                .leaf (.bool true, some (⟨me, some [⟨d0.id, d0.nick⟩, ⟨d1.id, d1.nick⟩, ⟨d2.id, d2.nick⟩, ⟨d3.id, d3.nick⟩, ⟨d4.id, d4.nick⟩, ⟨d5.id, d5.nick⟩, ⟨d6.id, d6.nick⟩, ⟨d7.id, d7.nick⟩, ⟨d8.id, d8.nick⟩, ⟨d9.id, d9.nick⟩, ⟨d10.id, d10.nick⟩], some [s0, s1, s2, s3, s4, s5, s6, s7, s8, s9, s10], none⟩ : Gw.Log))))) (
              .ob ((1 = 1 ∧ ([.int .u32 x.src] : List V).length = 1 * 1) ∧ allOne [.int .u32 x.src] = true ∧ 1 * 4 ≤ 70368744177664) (
              .ob (0 ≤ (1 : Int) ∧ (1 : Int) < (((tab256 : Str).length : Nat) : Int)) (
              .leaf (.bool false, some (⟨me, some [⟨d0.id, d0.nick⟩, ⟨d1.id, d1.nick⟩, ⟨d2.id, d2.nick⟩, ⟨d3.id, d3.nick⟩, ⟨d4.id, d4.nick⟩, ⟨d5.id, d5.nick⟩, ⟨d6.id, d6.nick⟩, ⟨d7.id, d7.nick⟩, ⟨d8.id, d8.nick⟩, ⟨d9.id, d9.nick⟩, ⟨d10.id, d10.nick⟩], some [s0, s1, s2, s3, s4, s5, s6, s7, s8, s9, s10], some [x.src]⟩ : Gw.Log)))))))) (
          .ob (2 = 2 ∧ 0 ≤ (3 : Int) ∧ (3 : Int) < ((11 : Nat) : Int)) (
          .node ((d3.id : Int) == x.src) (
            .node ((x.src : Int) == me) (
              .ob ((1 = 1 ∧ ([.int .u32 x.src] : List V).length = 1 * 1) ∧ allOne [.int .u32 x.src] = true ∧ 1 * 4 ≤ 70368744177664) (
              .ob (0 ≤ (1 : Int) ∧ (1 : Int) < (((tab256 : Str).length : Nat) : Int)) (
              .leaf (.bool false, some (⟨me, some [⟨d0.id, d0.nick⟩, ⟨d1.id, d1.nick⟩, ⟨d2.id, d2.nick⟩, ⟨d3.id, d3.nick⟩, ⟨d4.id, d4.nick⟩, ⟨d5.id, d5.nick⟩, ⟨d6.id, d6.nick⟩, ⟨d7.id, d7.nick⟩, ⟨d8.id, d8.nick⟩, ⟨d9.id, d9.nick⟩, ⟨d10.id, d10.nick⟩], some [s0, s1, s2, s3, s4, s5, s6, s7, s8, s9, s10], some [x.src]⟩ : Gw.Log))))) (
              .ob (2 = 2 ∧ 0 ≤ (3 : Int) ∧ (3 : Int) < ((11 : Nat) : Int)) (
              .node ((!((d3.nick : Str) == x.nick)) == false) (
                .ob (1 = 1 ∧ 0 ≤ (3 : Int) ∧ (3 : Int) < ((11 : Nat) : Int)) (
                .node ((s3 : Int) != x.slot) (
                  .ob ((1 = 1 ∧ ([.int .u32 x.src] : List V).length = 1 * 1) ∧ allOne [.int .u32 x.src] = true ∧ 1 * 4 ≤ 70368744177664) (
                  .ob (0 ≤ (1 : Int) ∧ (1 : Int) < (((tab256 : Str).length : Nat) : Int)) (
                  .leaf (.bool false, some (⟨me, some [⟨d0.id, d0.nick⟩, ⟨d1.id, d1.nick⟩, ⟨d2.id, d2.nick⟩, ⟨d3.id, d3.nick⟩, ⟨d4.id, d4.nick⟩, ⟨d5.id, d5.nick⟩, ⟨d6.id, d6.nick⟩, ⟨d7.id, d7.nick⟩, ⟨d8.id, d8.nick⟩, ⟨d9.id, d9.nick⟩, ⟨d10.id, d10.nick⟩], some [s0, s1, s2, s3, s4, s5, s6, s7, s8, s9, s10], some [x.src]⟩ : Gw.Log))))) (
                  .leaf (.bool true, some (⟨me, some [⟨d0.id, d0.nick⟩, ⟨d1.id, d1.nick⟩, ⟨d2.id, d2.nick⟩, ⟨d3.id, d3.nick⟩, ⟨d4.id, d4.nick⟩, ⟨d5.id, d5.nick⟩, ⟨d6.id, d6.nick⟩, ⟨d7.id, d7.nick⟩, ⟨d8.id, d8.nick⟩, ⟨d9.id, d9.nick⟩, ⟨d10.id, d10.nick⟩], some [s0, s1, s2, s3, s4, s5, s6, s7, s8, s9, s10], none⟩ : Gw.Log))))) (
                .ob ((1 = 1 ∧ ([.int .u32 x.src] : List V).length = 1 * 1) ∧ allOne [.int .u32 x.src] = true ∧ 1 * 4 ≤ 70368744177664) (
                .ob (0 ≤ (1 : Int) ∧ (1 : Int) < (((tab256 : Str).length : Nat) : Int)) (
                .leaf (.bool false, some (⟨me, some [⟨d0.id, d0.nick⟩, ⟨d1.id, d1.nick⟩, ⟨d2.id, d2.nick⟩, ⟨d3.id, d3.nick⟩, ⟨d4.id, d4.nick⟩, ⟨d5.id, d5.nick⟩, ⟨d6.id, d6.nick⟩, ⟨d7.id, d7.nick⟩, ⟨d8.id, d8.nick⟩, ⟨d9.id, d9.nick⟩, ⟨d10.id, d10.nick⟩], some [s0, s1, s2, s3, s4, s5, s6, s7, s8, s9, s10], some [x.src]⟩ : Gw.Log)))))))) (
            .ob (2 = 2 ∧ 0 ≤ (4 : Int) ∧ (4 : Int) < ((11 : Nat) : Int)) (
            .node ((d4.id : Int) == x.src) (
              .node ((x.src : Int) == me) (
                .ob ((1 = 1 ∧ ([.int .u32 x.src] : List V).length = 1 * 1) ∧ allOne [.int .u32 x.src] = true ∧ 1 * 4 ≤ 70368744177664) (
                .ob (0 ≤ (1 : Int) ∧ (1 : Int) < (((tab256 : Str).length : Nat) : Int)) (
                .leaf (.bool false, some (⟨me, some [⟨d0.id, d0.nick⟩, ⟨d1.id, d1.nick⟩, ⟨d2.id, d2.nick⟩, ⟨d3.id, d3.nick⟩, ⟨d4.id, d4.nick⟩, ⟨d5.id, d5.nick⟩, ⟨d6.id, d6.nick⟩, ⟨d7.id, d7.nick⟩, ⟨d8.id, d8.nick⟩, ⟨d9.id, d9.nick⟩, ⟨d10.id, d10.nick⟩], some [s0, s1, s2, s3, s4, s5, s6, s7, s8, s9, s10], some [x.src]⟩ : Gw.Log))))) (
                .ob (2 = 2 ∧ 0 ≤ (4 : Int) ∧ (4 : Int) < ((11 : Nat) : Int)) (
                .node ((!((d4.nick : Str) == x.nick)) == false) (
                  .ob (1 = 1 ∧ 0 ≤ (4 : Int) ∧ (4 : Int) < ((11 : Nat) : Int)) (
                  .node ((s4 : Int) != x.slot) (
                    .ob ((1 = 1 ∧ ([.int .u32 x.src] : List V).length = 1 * 1) ∧ allOne [.int .u32 x.src] = true ∧ 1 * 4 ≤ 70368744177664) (
                    .ob (0 ≤ (1 : Int) ∧ (1 : Int) < (((tab256 : Str).length : Nat) : Int)) (
                    .leaf (.bool false, some (⟨me, some [⟨d0.id, d0.nick⟩, ⟨d1.id, d1.nick⟩, ⟨d2.id, d2.nick⟩, ⟨d3.id, d3.nick⟩, ⟨d4.id, d4.nick⟩, ⟨d5.id, d5.nick⟩, ⟨d6.id, d6.nick⟩, ⟨d7.id, d7.nick⟩, ⟨d8.id, d8.nick⟩, ⟨d9.id, d9.nick⟩, ⟨d10.id, d10.nick⟩], some [s0, s1, s2, s3, s4, s5, s6, s7, s8, s9, s10], some [x.src]⟩ : Gw.Log))))) (
                    .leaf (.bool true, some (⟨me, some [⟨d0.id, d0.nick⟩, ⟨d1.id, d1.nick⟩, ⟨d2.id, d2.nick⟩, ⟨d3.id, d3.nick⟩, ⟨d4.id, d4.nick⟩, ⟨d5.id, d5.nick⟩, ⟨d6.id, d6.nick⟩, ⟨d7.id, d7.nick⟩, ⟨d8.id, d8.nick⟩, ⟨d9.id, d9.nick⟩, ⟨d10.id, d10.nick⟩], some [s0, s1, s2, s3, s4, s5, s6, s7, s8, s9, s10], none⟩ : Gw.Log))))) (
                  .ob ((1 = 1 ∧ ([.int .u32 x.src] : List V).length = 1 * 1) ∧ allOne [.int .u32 x.src] = true ∧ 1 * 4 ≤ 70368744177664) (
                  .ob (0 ≤ (1 : Int) ∧ (1 : Int) < (((tab256 : Str).length : Nat) : Int)) (
                  .leaf (.bool false, some (⟨me, some [⟨d0.id, d0.nick⟩, ⟨d1.id, d1.nick⟩, ⟨d2.id, d2.nick⟩, ⟨d3.id, d3.nick⟩, ⟨d4.id, d4.nick⟩, ⟨d5.id, d5.nick⟩, ⟨d6.id, d6.nick⟩, ⟨d7.id, d7.nick⟩, ⟨d8.id, d8.nick⟩, ⟨d9.id, d9.nick⟩, ⟨d10.id, d10.nick⟩], some [s0, s1, s2, s3, s4, s5, s6, s7, s8, s9, s10], some [x.src]⟩ : Gw.Log)))))))) (
              .ob (2 = 2 ∧ 0 ≤ (5 : Int) ∧ (5 : Int) < ((11 : Nat) : Int)) (
              .node ((d5.id : Int) == x.src) (
                .node ((x.src : Int) == me) (
                  .ob ((1 = 1 ∧ ([.int .u32 x.src] : List V).length = 1 * 1) ∧ allOne [.int .u32 x.src] = true ∧ 1 * 4 ≤ 70368744177664) (
                  .ob (0 ≤ (1 : Int) ∧ (1 : Int) < (((tab256 : Str).length : Nat) : Int)) (
                  .leaf (.bool false, some (⟨me, some [⟨d0.id, d0.nick⟩, ⟨d1.id, d1.nick⟩, ⟨d2.id, d2.nick⟩, ⟨d3.id, d3.nick⟩, ⟨d4.id, d4.nick⟩, ⟨d5.id, d5.nick⟩, ⟨d6.id, d6.nick⟩, ⟨d7.id, d7.nick⟩, ⟨d8.id, d8.nick⟩, ⟨d9.id, d9.nick⟩, ⟨d10.id, d10.nick⟩], some [s0, s1, s2, s3, s4, s5, s6, s7, s8, s9, s10], some [x.src]⟩ : Gw.Log))))) (
                  .ob (2 = 2 ∧ 0 ≤ (5 : Int) ∧ (5 : Int) < ((11 : Nat) : Int)) (
                  .node ((!((d5.nick : Str) == x.nick)) == false) (
                    .ob (1 = 1 ∧ 0 ≤ (5 : Int) ∧ (5 : Int) < ((11 : Nat) : Int)) (
                    .node ((s5 : Int) != x.slot) (
                      .ob ((1 = 1 ∧ ([.int .u32 x.src] : List V).length = 1 * 1) ∧ allOne [.int .u32 x.src] = true ∧ 1 * 4 ≤ 70368744177664) (
                      .ob (0 ≤ (1 : Int) ∧ (1 : Int) < (((tab256 : Str).length : Nat) : Int)) (
                      .leaf (.bool false, some (⟨me, some [⟨d0.id, d0.nick⟩, ⟨d1.id, d1.nick⟩, ⟨d2.id, d2.nick⟩, ⟨d3.id, d3.nick⟩, ⟨d4.id, d4.nick⟩, ⟨d5.id, d5.nick⟩, ⟨d6.id, d6.nick⟩, ⟨d7.id, d7.nick⟩, ⟨d8.id, d8.nick⟩, ⟨d9.id, d9.nick⟩, ⟨d10.id, d10.nick⟩], some [s0, s1, s2, s3, s4, s5, s6, s7, s8, s9, s10], some [x.src]⟩ : Gw.Log))))) (
                      .leaf (.bool true, some (⟨me, some [⟨d0.id, d0.nick⟩, ⟨d1.id, d1.nick⟩, ⟨d2.id, d2.nick⟩, ⟨d3.id, d3.nick⟩, ⟨d4.id, d4.nick⟩, ⟨d5.id, d5.nick⟩, ⟨d6.id, d6.nick⟩, ⟨d7.id, d7.nick⟩, ⟨d8.id, d8.nick⟩, ⟨d9.id, d9.nick⟩, ⟨d10.id, d10.nick⟩], some [s0, s1, s2, s3, s4, s5, s6, s7, s8, s9, s10], none⟩ : Gw.Log))))) (
                    .ob ((1 = 1 ∧ ([.int .u32 x.src] : List V).length = 1 * 1) ∧ allOne [.int .u32 x.src] = true ∧ 1 * 4 ≤ 70368744177664) (
                    .ob (0 ≤ (1 : Int) ∧ (1 : Int) < (((tab256 : Str).length : Nat) : Int)) (
                    .leaf (.bool false, some (⟨me, some [⟨d0.id, d0.nick⟩, ⟨d1.id, d1.nick⟩, ⟨d2.id, d2.nick⟩, ⟨d3.id, d3.nick⟩, ⟨d4.id, d4.nick⟩, ⟨d5.id, d5.nick⟩, ⟨d6.id, d6.nick⟩, ⟨d7.id, d7.nick⟩, ⟨d8.id, d8.nick⟩, ⟨d9.id, d9.nick⟩, ⟨d10.id, d10.nick⟩], some [s0, s1, s2, s3, s4, s5, s6, s7, s8, s9, s10], some [x.src]⟩ : Gw.Log)))))))) (
                .ob (2 = 2 ∧ 0 ≤ (6 : Int) ∧ (6 : Int) < ((11 : Nat) : Int)) (
                .node ((d6.id : Int) == x.src) (
                  .node ((x.src : Int) == me) (
                    .ob ((1 = 1 ∧ ([.int .u32 x.src] : List V).length = 1 * 1) ∧ allOne [.int .u32 x.src] = true ∧ 1 * 4 ≤ 70368744177664) (
                    .ob (0 ≤ (1 : Int) ∧ (1 : Int) < (((tab256 : Str).length : Nat) : Int)) (
                    .leaf (.bool false, some (⟨me, some [⟨d0.id, d0.nick⟩, ⟨d1.id, d1.nick⟩, ⟨d2.id, d2.nick⟩, ⟨d3.id, d3.nick⟩, ⟨d4.id, d4.nick⟩, ⟨d5.id, d5.nick⟩, ⟨d6.id, d6.nick⟩, ⟨d7.id, d7.nick⟩, ⟨d8.id, d8.nick⟩, ⟨d9.id, d9.nick⟩, ⟨d10.id, d10.nick⟩], some [s0, s1, s2, s3, s4, s5, s6, s7, s8, s9, s10], some [x.src]⟩ : Gw.Log))))) (
                    .ob (2 = 2 ∧ 0 ≤ (6 : Int) ∧ (6 : Int) < ((11 : Nat) : Int)) (
                    .node ((!((d6.nick : Str) == x.nick)) == false) (
                      .ob (1 = 1 ∧ 0 ≤ (6 : Int) ∧ (6 : Int) < ((11 : Nat) : Int)) (
                      .node ((s6 : Int) != x.slot) (
                        .ob ((1 = 1 ∧ ([.int .u32 x.src] : List V).length = 1 * 1) ∧ allOne [.int .u32 x.src] = true ∧ 1 * 4 ≤ 70368744177664) (
                        .ob (0 ≤ (1 : Int) ∧ (1 : Int) < (((tab256 : Str).length : Nat) : Int)) (
                        .leaf (.bool false, some (⟨me, some [⟨d0.id, d0.nick⟩, ⟨d1.id, d1.nick⟩, ⟨d2.id, d2.nick⟩, ⟨d3.id, d3.nick⟩, ⟨d4.id, d4.nick⟩, ⟨d5.id, d5.nick⟩, ⟨d6.id, d6.nick⟩, ⟨d7.id, d7.nick⟩, ⟨d8.id, d8.nick⟩, ⟨d9.id, d9.nick⟩, ⟨d10.id, d10.nick⟩], some [s0, s1, s2, s3, s4, s5, s6, s7, s8, s9, s10], some [x.src]⟩ : Gw.Log))))) (
                        .leaf (.bool true, some (⟨me, some [⟨d0.id, d0.nick⟩, ⟨d1.id, d1.nick⟩, ⟨d2.id, d2.nick⟩, ⟨d3.id, d3.nick⟩, ⟨d4.id, d4.nick⟩, ⟨d5.id, d5.nick⟩, ⟨d6.id, d6.nick⟩, ⟨d7.id, d7.nick⟩, ⟨d8.id, d8.nick⟩, ⟨d9.id, d9.nick⟩, ⟨d10.id, d10.nick⟩], some [s0, s1, s2, s3, s4, s5, s6, s7, s8, s9, s10], none⟩ : Gw.Log))))) (
                      .ob ((1 = 1 ∧ ([.int .u32 x.src] : List V).length = 1 * 1) ∧ allOne [.int .u32 x.src] = true ∧ 1 * 4 ≤ 70368744177664) (
                      .ob (0 ≤ (1 : Int) ∧ (1 : Int) < (((tab256 : Str).length : Nat) : Int)) (
                      .leaf (.bool false, some (⟨me, some [⟨d0.id, d0.nick⟩, ⟨d1.id, d1.nick⟩, ⟨d2.id, d2.nick⟩, ⟨d3.id, d3.nick⟩, ⟨d4.id, d4.nick⟩, ⟨d5.id, d5.nick⟩, ⟨d6.id, d6.nick⟩, ⟨d7.id, d7.nick⟩, ⟨d8.id, d8.nick⟩, ⟨d9.id, d9.nick⟩, ⟨d10.id, d10.nick⟩], some [s0, s1, s2, s3, s4, s5, s6, s7, s8, s9, s10], some [x.src]⟩ : Gw.Log)))))))) (
                  .ob (2 = 2 ∧ 0 ≤ (7 : Int) ∧ (7 : Int) < ((11 : Nat) : Int)) (
                  .node ((d7.id : Int) == x.src) (
                    .node ((x.src : Int) == me) (
                      .ob ((1 = 1 ∧ ([.int .u32 x.src] : List V).length = 1 * 1) ∧ allOne [.int .u32 x.src] = true ∧ 1 * 4 ≤ 70368744177664) (
                      .ob (0 ≤ (1 : Int) ∧ (1 : Int) < (((tab256 : Str).length : Nat) : Int)) (
                      .leaf (.bool false, some (⟨me, some [⟨d0.id, d0.nick⟩, ⟨d1.id, d1.nick⟩, ⟨d2.id, d2.nick⟩, ⟨d3.id, d3.nick⟩, ⟨d4.id, d4.nick⟩, ⟨d5.id, d5.nick⟩, ⟨d6.id, d6.nick⟩, ⟨d7.id, d7.nick⟩, ⟨d8.id, d8.nick⟩, ⟨d9.id, d9.nick⟩, ⟨d10.id, d10.nick⟩], some [s0, s1, s2, s3, s4, s5, s6, s7, s8, s9, s10], some [x.src]⟩ : Gw.Log))))) (
                      .ob (2 = 2 ∧ 0 ≤ (7 : Int) ∧ (7 : Int) < ((11 : Nat) : Int)) (
                      .node ((!((d7.nick : Str) == x.nick)) == false) (
                        .ob (1 = 1 ∧ 0 ≤ (7 : Int) ∧ (7 : Int) < ((11 : Nat) : Int)) (
                        .node ((s7 : Int) != x.slot) (
                          .ob ((1 = 1 ∧ ([.int .u32 x.src] : List V).length = 1 * 1) ∧ allOne [.int .u32 x.src] = true ∧ 1 * 4 ≤ 70368744177664) (
                          .ob (0 ≤ (1 : Int) ∧ (1 : Int) < (((tab256 : Str).length : Nat) : Int)) (
                          .leaf (.bool false, some (⟨me, some [⟨d0.id, d0.nick⟩, ⟨d1.id, d1.nick⟩, ⟨d2.id, d2.nick⟩, ⟨d3.id, d3.nick⟩, ⟨d4.id, d4.nick⟩, ⟨d5.id, d5.nick⟩, ⟨d6.id, d6.nick⟩, ⟨d7.id, d7.nick⟩, ⟨d8.id, d8.nick⟩, ⟨d9.id, d9.nick⟩, ⟨d10.id, d10.nick⟩], some [s0, s1, s2, s3, s4, s5, s6, s7, s8, s9, s10], some [x.src]⟩ : Gw.Log))))) (
                          .leaf (.bool true, some (⟨me, some [⟨d0.id, d0.nick⟩, ⟨d1.id, d1.nick⟩, ⟨d2.id, d2.nick⟩, ⟨d3.id, d3.nick⟩, ⟨d4.id, d4.nick⟩, ⟨d5.id, d5.nick⟩, ⟨d6.id, d6.nick⟩, ⟨d7.id, d7.nick⟩, ⟨d8.id, d8.nick⟩, ⟨d9.id, d9.nick⟩, ⟨d10.id, d10.nick⟩], some [s0, s1, s2, s3, s4, s5, s6, s7, s8, s9, s10], none⟩ : Gw.Log))))) (
                        .ob ((1 = 1 ∧ ([.int .u32 x.src] : List V).length = 1 * 1) ∧ allOne [.int .u32 x.src] = true ∧ 1 * 4 ≤ 70368744177664) (
                        .ob (0 ≤ (1 : Int) ∧ (1 : Int) < (((tab256 : Str).length : Nat) : Int)) (
                        .leaf (.bool false, some (⟨me, some [⟨d0.id, d0.nick⟩, ⟨d1.id, d1.nick⟩, ⟨d2.id, d2.nick⟩, ⟨d3.id, d3.nick⟩, ⟨d4.id, d4.nick⟩, ⟨d5.id, d5.nick⟩, ⟨d6.id, d6.nick⟩, ⟨d7.id, d7.nick⟩, ⟨d8.id, d8.nick⟩, ⟨d9.id, d9.nick⟩, ⟨d10.id, d10.nick⟩], some [s0, s1, s2, s3, s4, s5, s6, s7, s8, s9, s10], some [x.src]⟩ : Gw.Log)))))))) (
                    .ob (2 = 2 ∧ 0 ≤ (8 : Int) ∧ (8 : Int) < ((11 : Nat) : Int)) (
                    .node ((d8.id : Int) == x.src) (
                      .node ((x.src : Int) == me) (
                        .ob ((1 = 1 ∧ ([.int .u32 x.src] : List V).length = 1 * 1) ∧ allOne [.int .u32 x.src] = true ∧ 1 * 4 ≤ 70368744177664) (
                        .ob (0 ≤ (1 : Int) ∧ (1 : Int) < (((tab256 : Str).length : Nat) : Int)) (
                        .leaf (.bool false, some (⟨me, some [⟨d0.id, d0.nick⟩, ⟨d1.id, d1.nick⟩, ⟨d2.id, d2.nick⟩, ⟨d3.id, d3.nick⟩, ⟨d4.id, d4.nick⟩, ⟨d5.id, d5.nick⟩, ⟨d6.id, d6.nick⟩, ⟨d7.id, d7.nick⟩, ⟨d8.id, d8.nick⟩, ⟨d9.id, d9.nick⟩, ⟨d10.id, d10.nick⟩], some [s0, s1, s2, s3, s4, s5, s6, s7, s8, s9, s10], some [x.src]⟩ : Gw.Log))))) (
                        .ob (2 = 2 ∧ 0 ≤ (8 : Int) ∧ (8 : Int) < ((11 : Nat) : Int)) (
                        .node ((!((d8.nick : Str) == x.nick)) == false) (
                          .ob (1 = 1 ∧ 0 ≤ (8 : Int) ∧ (8 : Int) < ((11 : Nat) : Int)) (
                          .node ((s8 : Int) != x.slot) (
                            .ob ((1 = 1 ∧ ([.int .u32 x.src] : List V).length = 1 * 1) ∧ allOne [.int .u32 x.src] = true ∧ 1 * 4 ≤ 70368744177664) (
                            .ob (0 ≤ (1 : Int) ∧ (1 : Int) < (((tab256 : Str).length : Nat) : Int)) (
                            .leaf (.bool false, some (⟨me, some [⟨d0.id, d0.nick⟩, ⟨d1.id, d1.nick⟩, ⟨d2.id, d2.nick⟩, ⟨d3.id, d3.nick⟩, ⟨d4.id, d4.nick⟩, ⟨d5.id, d5.nick⟩, ⟨d6.id, d6.nick⟩, ⟨d7.id, d7.nick⟩, ⟨d8.id, d8.nick⟩, ⟨d9.id, d9.nick⟩, ⟨d10.id, d10.nick⟩], some [s0, s1, s2, s3, s4, s5, s6, s7, s8, s9, s10], some [x.src]⟩ : Gw.Log))))) (
                            .leaf (.bool true, some (⟨me, some [⟨d0.id, d0.nick⟩, ⟨d1.id, d1.nick⟩, ⟨d2.id, d2.nick⟩, ⟨d3.id, d3.nick⟩, ⟨d4.id, d4.nick⟩, ⟨d5.id, d5.nick⟩, ⟨d6.id, d6.nick⟩, ⟨d7.id, d7.nick⟩, ⟨d8.id, d8.nick⟩, ⟨d9.id, d9.nick⟩, ⟨d10.id, d10.nick⟩], some [s0, s1, s2, s3, s4, s5, s6, s7, s8, s9, s10], none⟩ : Gw.Log))))) (
                          .ob ((1 = 1 ∧ ([.int .u32 x.src] : List V).length = 1 * 1) ∧ allOne [.int .u32 x.src] = true ∧ 1 * 4 ≤ 70368744177664) (
                          .ob (0 ≤ (1 : Int) ∧ (1 : Int) < (((tab256 : Str).length : Nat) : Int)) (
                          .leaf (.bool false, some (⟨me, some [⟨d0.id, d0.nick⟩, ⟨d1.id, d1.nick⟩, ⟨d2.id, d2.nick⟩, ⟨d3.id, d3.nick⟩, ⟨d4.id, d4.nick⟩, ⟨d5.id, d5.nick⟩, ⟨d6.id, d6.nick⟩, ⟨d7.id, d7.nick⟩, ⟨d8.id, d8.nick⟩, ⟨d9.id, d9.nick⟩, ⟨d10.id, d10.nick⟩], some [s0, s1, s2, s3, s4, s5, s6, s7, s8, s9, s10], some [x.src]⟩ : Gw.Log)))))))) (
                      .ob (2 = 2 ∧ 0 ≤ (9 : Int) ∧ (9 : Int) < ((11 : Nat) : Int)) (
                      .node ((d9.id : Int) == x.src) (
                        .node ((x.src : Int) == me) (
                          .ob ((1 = 1 ∧ ([.int .u32 x.src] : List V).length = 1 * 1) ∧ allOne [.int .u32 x.src] = true ∧ 1 * 4 ≤ 70368744177664) (
                          .ob (0 ≤ (1 : Int) ∧ (1 : Int) < (((tab256 : Str).length : Nat) : Int)) (
                          .leaf (.bool false, some (⟨me, some [⟨d0.id, d0.nick⟩, ⟨d1.id, d1.nick⟩, ⟨d2.id, d2.nick⟩, ⟨d3.id, d3.nick⟩, ⟨d4.id, d4.nick⟩, ⟨d5.id, d5.nick⟩, ⟨d6.id, d6.nick⟩, ⟨d7.id, d7.nick⟩, ⟨d8.id, d8.nick⟩, ⟨d9.id, d9.nick⟩, ⟨d10.id, d10.nick⟩], some [s0, s1, s2, s3, s4, s5, s6, s7, s8, s9, s10], some [x.src]⟩ : Gw.Log))))) (
                          .ob (2 = 2 ∧ 0 ≤ (9 : Int) ∧ (9 : Int) < ((11 : Nat) : Int)) (
                          .node ((!((d9.nick : Str) == x.nick)) == false) (
                            .ob (1 = 1 ∧ 0 ≤ (9 : Int) ∧ (9 : Int) < ((11 : Nat) : Int)) (
                            .node ((s9 : Int) != x.slot) (
                              .ob ((1 = 1 ∧ ([.int .u32 x.src] : List V).length = 1 * 1) ∧ allOne [.int .u32 x.src] = true ∧ 1 * 4 ≤ 70368744177664) (
                              .ob (0 ≤ (1 : Int) ∧ (1 : Int) < (((tab256 : Str).length : Nat) : Int)) (
                              .leaf (.bool false, some (⟨me, some [⟨d0.id, d0.nick⟩, ⟨d1.id, d1.nick⟩, ⟨d2.id, d2.nick⟩, ⟨d3.id, d3.nick⟩, ⟨d4.id, d4.nick⟩, ⟨d5.id, d5.nick⟩, ⟨d6.id, d6.nick⟩, ⟨d7.id, d7.nick⟩, ⟨d8.id, d8.nick⟩, ⟨d9.id, d9.nick⟩, ⟨d10.id, d10.nick⟩], some [s0, s1, s2, s3, s4, s5, s6, s7, s8, s9, s10], some [x.src]⟩ : Gw.Log))))) (
                              .leaf (.bool true, some (⟨me, some [⟨d0.id, d0.nick⟩, ⟨d1.id, d1.nick⟩, ⟨d2.id, d2.nick⟩, ⟨d3.id, d3.nick⟩, ⟨d4.id, d4.nick⟩, ⟨d5.id, d5.nick⟩, ⟨d6.id, d6.nick⟩, ⟨d7.id, d7.nick⟩, ⟨d8.id, d8.nick⟩, ⟨d9.id, d9.nick⟩, ⟨d10.id, d10.nick⟩], some [s0, s1, s2, s3, s4, s5, s6, s7, s8, s9, s10], none⟩ : Gw.Log))))) (
                            .ob ((1 = 1 ∧ ([.int .u32 x.src] : List V).length = 1 * 1) ∧ allOne [.int .u32 x.src] = true ∧ 1 * 4 ≤ 70368744177664) (
                            .ob (0 ≤ (1 : Int) ∧ (1 : Int) < (((tab256 : Str).length : Nat) : Int)) (
                            .leaf (.bool false, some (⟨me, some [⟨d0.id, d0.nick⟩, ⟨d1.id, d1.nick⟩, ⟨d2.id, d2.nick⟩, ⟨d3.id, d3.nick⟩, ⟨d4.id, d4.nick⟩, ⟨d5.id, d5.nick⟩, ⟨d6.id, d6.nick⟩, ⟨d7.id, d7.nick⟩, ⟨d8.id, d8.nick⟩, ⟨d9.id, d9.nick⟩, ⟨d10.id, d10.nick⟩], some [s0, s1, s2, s3, s4, s5, s6, s7, s8, s9, s10], some [x.src]⟩ : Gw.Log)))))))) (
                        .ob (2 = 2 ∧ 0 ≤ (10 : Int) ∧ (10 : Int) < ((11 : Nat) : Int)) (
                        .node ((d10.id : Int) == x.src) (
                          .node ((x.src : Int) == me) (
                            .ob ((1 = 1 ∧ ([.int .u32 x.src] : List V).length = 1 * 1) ∧ allOne [.int .u32 x.src] = true ∧ 1 * 4 ≤ 70368744177664) (
                            .ob (0 ≤ (1 : Int) ∧ (1 : Int) < (((tab256 : Str).length : Nat) : Int)) (
                            .leaf (.bool false, some (⟨me, some [⟨d0.id, d0.nick⟩, ⟨d1.id, d1.nick⟩, ⟨d2.id, d2.nick⟩, ⟨d3.id, d3.nick⟩, ⟨d4.id, d4.nick⟩, ⟨d5.id, d5.nick⟩, ⟨d6.id, d6.nick⟩, ⟨d7.id, d7.nick⟩, ⟨d8.id, d8.nick⟩, ⟨d9.id, d9.nick⟩, ⟨d10.id, d10.nick⟩], some [s0, s1, s2, s3, s4, s5, s6, s7, s8, s9, s10], some [x.src]⟩ : Gw.Log))))) (
                            .ob (2 = 2 ∧ 0 ≤ (10 : Int) ∧ (10 : Int) < ((11 : Nat) : Int)) (
                            .node ((!((d10.nick : Str) == x.nick)) == false) (
                              .ob (1 = 1 ∧ 0 ≤ (10 : Int) ∧ (10 : Int) < ((11 : Nat) : Int)) (
                              .node ((s10 : Int) != x.slot) (
                                .ob ((1 = 1 ∧ ([.int .u32 x.src] : List V).length = 1 * 1) ∧ allOne [.int .u32 x.src] = true ∧ 1 * 4 ≤ 70368744177664) (
                                .ob (0 ≤ (1 : Int) ∧ (1 : Int) < (((tab256 : Str).length : Nat) : Int)) (
                                .leaf (.bool false, some (⟨me, some [⟨d0.id, d0.nick⟩, ⟨d1.id, d1.nick⟩, ⟨d2.id, d2.nick⟩, ⟨d3.id, d3.nick⟩, ⟨d4.id, d4.nick⟩, ⟨d5.id, d5.nick⟩, ⟨d6.id, d6.nick⟩, ⟨d7.id, d7.nick⟩, ⟨d8.id, d8.nick⟩, ⟨d9.id, d9.nick⟩, ⟨d10.id, d10.nick⟩], some [s0, s1, s2, s3, s4, s5, s6, s7, s8, s9, s10], some [x.src]⟩ : Gw.Log))))) (
                                .leaf (.bool true, some (⟨me, some [⟨d0.id, d0.nick⟩, ⟨d1.id, d1.nick⟩, ⟨d2.id, d2.nick⟩, ⟨d3.id, d3.nick⟩, ⟨d4.id, d4.nick⟩, ⟨d5.id, d5.nick⟩, ⟨d6.id, d6.nick⟩, ⟨d7.id, d7.nick⟩, ⟨d8.id, d8.nick⟩, ⟨d9.id, d9.nick⟩, ⟨d10.id, d10.nick⟩], some [s0, s1, s2, s3, s4, s5, s6, s7, s8, s9, s10], none⟩ : Gw.Log))))) (
                              .ob ((1 = 1 ∧ ([.int .u32 x.src] : List V).length = 1 * 1) ∧ allOne [.int .u32 x.src] = true ∧ 1 * 4 ≤ 70368744177664) (
                              .ob (0 ≤ (1 : Int) ∧ (1 : Int) < (((tab256 : Str).length : Nat) : Int)) (
                              .leaf (.bool false, some (⟨me, some [⟨d0.id, d0.nick⟩, ⟨d1.id, d1.nick⟩, ⟨d2.id, d2.nick⟩, ⟨d3.id, d3.nick⟩, ⟨d4.id, d4.nick⟩, ⟨d5.id, d5.nick⟩, ⟨d6.id, d6.nick⟩, ⟨d7.id, d7.nick⟩, ⟨d8.id, d8.nick⟩, ⟨d9.id, d9.nick⟩, ⟨d10.id, d10.nick⟩], some [s0, s1, s2, s3, s4, s5, s6, s7, s8, s9, s10], some [x.src]⟩ : Gw.Log)))))))) (
                          .node ((x.src : Int) == me) (
                            .ob ((1 = 1 ∧ ([.int .u32 x.src] : List V).length = 1 * 1) ∧ allOne [.int .u32 x.src] = true ∧ 1 * 4 ≤ 70368744177664) (
                            .ob (0 ≤ (1 : Int) ∧ (1 : Int) < (((tab256 : Str).length : Nat) : Int)) (
                            .leaf (.bool false, some (⟨me, some [⟨d0.id, d0.nick⟩, ⟨d1.id, d1.nick⟩, ⟨d2.id, d2.nick⟩, ⟨d3.id, d3.nick⟩, ⟨d4.id, d4.nick⟩, ⟨d5.id, d5.nick⟩, ⟨d6.id, d6.nick⟩, ⟨d7.id, d7.nick⟩, ⟨d8.id, d8.nick⟩, ⟨d9.id, d9.nick⟩, ⟨d10.id, d10.nick⟩], some [s0, s1, s2, s3, s4, s5, s6, s7, s8, s9, s10], some [x.src]⟩ : Gw.Log))))) (
                            .ob ((2 = 2 ∧ ([.int .u32 x.src, .str x.nick] : List V).length = 1 * 2) ∧ allOne [.int .u32 x.src, .str x.nick] = true ∧ 2 = 2 ∧ 12 * 24 ≤ 70368744177664 ∧ ([.int .u32 d0.id, .str d0.nick, .int .u32 d1.id, .str d1.nick, .int .u32 d2.id, .str d2.nick, .int .u32 d3.id, .str d3.nick, .int .u32 d4.id, .str d4.nick, .int .u32 d5.id, .str d5.nick, .int .u32 d6.id, .str d6.nick, .int .u32 d7.id, .str d7.nick, .int .u32 d8.id, .str d8.nick, .int .u32 d9.id, .str d9.nick, .int .u32 d10.id, .str d10.nick] : List V).length = 11 * 2) (
                            .ob ((1 = 1 ∧ ([.int .i64 x.slot] : List V).length = 1 * 1) ∧ allOne [.int .i64 x.slot] = true ∧ 1 = 1 ∧ 12 * 8 ≤ 70368744177664 ∧ ([.int .i64 s0, .int .i64 s1, .int .i64 s2, .int .i64 s3, .int .i64 s4, .int .i64 s5, .int .i64 s6, .int .i64 s7, .int .i64 s8, .int .i64 s9, .int .i64 s10] : List V).length = 11 * 1) (
                            .leaf (.bool true, some (⟨me, some [⟨d0.id, d0.nick⟩, ⟨d1.id, d1.nick⟩, ⟨d2.id, d2.nick⟩, ⟨d3.id, d3.nick⟩, ⟨d4.id, d4.nick⟩, ⟨d5.id, d5.nick⟩, ⟨d6.id, d6.nick⟩, ⟨d7.id, d7.nick⟩, ⟨d8.id, d8.nick⟩, ⟨d9.id, d9.nick⟩, ⟨d10.id, d10.nick⟩, ⟨x.src, x.nick⟩], some [s0, s1, s2, s3, s4, s5, s6, s7, s8, s9, s10, x.slot], none⟩ : Gw.Log))))))))))))))))))))))))))))
set_option maxRecDepth 1000000 in
theorem treeAdd11_0_eq (me : Int) (d0 d1 d2 d3 d4 d5 d6 d7 d8 d9 d10 : Gw.Device) (s0 s1 s2 s3 s4 s5 s6 s7 s8 s9 s10 : Int) (x : Gw.Xid) : funT (mkXT pxM noOX) (mkXP pxM) (mkX pxM noOX) D (fun _ => noOrc) (fun k => match k with | 37 => [28, 57, 60, 67] | 62 => [9] | 76 => [8] | 91 => [23] | 108 => [12] | 118 => [4, 8, 14] | _ => []) 12 noOrc [28, 57, 60, 67] noLt (dOf 37) [.ptr 3 0, .agg x.vs] (((openAt (smallH [.o 0 (.log ⟨me, some [d0, d1, d2, d3, d4, d5, d6, d7, d8, d9, d10], some [s0, s1, s2, s3, s4, s5, s6, s7, s8, s9, s10], none⟩)]) 3 (.log ⟨me, some [d0, d1, d2, d3, d4, d5, d6, d7, d8, d9, d10], some [s0, s1, s2, s3, s4, s5, s6, s7, s8, s9, s10], none⟩)).put 4 (some (.cells false ([d0, d1, d2, d3, d4, d5, d6, d7, d8, d9, d10].flatMap Gw.Device.vs)))).put 5 (some (.cells false ([s0, s1, s2, s3, s4, s5, s6, s7, s8, s9, s10].map (V.int .i64))))) (fun v h => (v, readLog h 3)) = treeAdd11_0 me d0 d1 d2 d3 d4 d5 d6 d7 d8 d9 d10 s0 s1 s2 s3 s4 s5 s6 s7 s8 s9 s10 x := by kernel_rfl
set_option maxHeartbeats 4000000 in
theorem satAdd11_0 (me : Int) (d0 d1 d2 d3 d4 d5 d6 d7 d8 d9 d10 : Gw.Device) (s0 s1 s2 s3 s4 s5 s6 s7 s8 s9 s10 : Int) (x : Gw.Xid) : (treeAdd11_0 me d0 d1 d2 d3 d4 d5 d6 d7 d8 d9 d10 s0 s1 s2 s3 s4 s5 s6 s7 s8 s9 s10 x).sat fun p => p = (.bool (logAdd ⟨me, some [d0, d1, d2, d3, d4, d5, d6, d7, d8, d9, d10], some [s0, s1, s2, s3, s4, s5, s6, s7, s8, s9, s10], none⟩ x).1, some (logAdd ⟨me, some [d0, d1, d2, d3, d4, d5, d6, d7, d8, d9, d10], some [s0, s1, s2, s3, s4, s5, s6, s7, s8, s9, s10], none⟩ x).2) := by
  obtain ⟨a0, b0⟩ := d0
  obtain ⟨a1, b1⟩ := d1
  obtain ⟨a2, b2⟩ := d2
  obtain ⟨a3, b3⟩ := d3
  obtain ⟨a4, b4⟩ := d4
  obtain ⟨a5, b5⟩ := d5
  obtain ⟨a6, b6⟩ := d6
  obtain ⟨a7, b7⟩ := d7
  obtain ⟨a8, b8⟩ := d8
  obtain ⟨a9, b9⟩ := d9
  obtain ⟨a10, b10⟩ := d10
  unfold treeAdd11_0
  cases hm : mayXid x with
  | false => simp [DT.sat, logAdd, logFind, clashAdd, mayXid_eta, len_tab256, allOne, V.one, hm]
  | true =>
  by_cases h0 : a0 = x.src
  · subst h0
    by_cases hs : x.src = me
    · subst hs; simp [DT.sat, logAdd, logFind, clashAdd, mayXid_eta, len_tab256, allOne, V.one, hm]
    · by_cases hn : b0 = x.nick
      · subst hn
        by_cases hl : s0 = x.slot
        · subst hl; simp [DT.sat, logAdd, logFind, clashAdd, mayXid_eta, len_tab256, allOne, V.one, hm, hs]
        · have hl' : (s0 == x.slot) = false := by simpa using hl
          simp [DT.sat, logAdd, logFind, clashAdd, mayXid_eta, len_tab256, allOne, V.one, hm, hs, hl, hl']
      · have hn' : (b0 == x.nick) = false := by simpa using hn
        simp [DT.sat, logAdd, logFind, clashAdd, mayXid_eta, len_tab256, allOne, V.one, hm, hs, hn, hn']
  by_cases h1 : a1 = x.src
  · subst h1
    by_cases hs : x.src = me
    · subst hs; simp [DT.sat, logAdd, logFind, clashAdd, mayXid_eta, len_tab256, allOne, V.one, hm, h0]
    · by_cases hn : b1 = x.nick
      · subst hn
        by_cases hl : s1 = x.slot
        · subst hl; simp [DT.sat, logAdd, logFind, clashAdd, mayXid_eta, len_tab256, allOne, V.one, hm, hs, h0]
        · have hl' : (s1 == x.slot) = false := by simpa using hl
          simp [DT.sat, logAdd, logFind, clashAdd, mayXid_eta, len_tab256, allOne, V.one, hm, hs, hl, hl', h0]
      · have hn' : (b1 == x.nick) = false := by simpa using hn
        simp [DT.sat, logAdd, logFind, clashAdd, mayXid_eta, len_tab256, allOne, V.one, hm, hs, hn, hn', h0]
  by_cases h2 : a2 = x.src
  · subst h2
    by_cases hs : x.src = me
    · subst hs; simp [DT.sat, logAdd, logFind, clashAdd, mayXid_eta, len_tab256, allOne, V.one, hm, h0, h1]
    · by_cases hn : b2 = x.nick
      · subst hn
        by_cases hl : s2 = x.slot
        · subst hl; simp [DT.sat, logAdd, logFind, clashAdd, mayXid_eta, len_tab256, allOne, V.one, hm, hs, h0, h1]
        · have hl' : (s2 == x.slot) = false := by simpa using hl
          simp [DT.sat, logAdd, logFind, clashAdd, mayXid_eta, len_tab256, allOne, V.one, hm, hs, hl, hl', h0, h1]
      · have hn' : (b2 == x.nick) = false := by simpa using hn
        simp [DT.sat, logAdd, logFind, clashAdd, mayXid_eta, len_tab256, allOne, V.one, hm, hs, hn, hn', h0, h1]
  by_cases h3 : a3 = x.src
  · subst h3
    by_cases hs : x.src = me
    · subst hs; simp [DT.sat, logAdd, logFind, clashAdd, mayXid_eta, len_tab256, allOne, V.one, hm, h0, h1, h2]
    · by_cases hn : b3 = x.nick
      · subst hn
        by_cases hl : s3 = x.slot
        · subst hl; simp [DT.sat, logAdd, logFind, clashAdd, mayXid_eta, len_tab256, allOne, V.one, hm, hs, h0, h1, h2]
        · have hl' : (s3 == x.slot) = false := by simpa using hl
          simp [DT.sat, logAdd, logFind, clashAdd, mayXid_eta, len_tab256, allOne, V.one, hm, hs, hl, hl', h0, h1, h2]
      · have hn' : (b3 == x.nick) = false := by simpa using hn
        simp [DT.sat, logAdd, logFind, clashAdd, mayXid_eta, len_tab256, allOne, V.one, hm, hs, hn, hn', h0, h1, h2]
  by_cases h4 : a4 = x.src
  · subst h4
    by_cases hs : x.src = me
    · subst hs; simp [DT.sat, logAdd, logFind, clashAdd, mayXid_eta, len_tab256, allOne, V.one, hm, h0, h1, h2, h3]
    · by_cases hn : b4 = x.nick
      · subst hn
        by_cases hl : s4 = x.slot
        · subst hl; simp [DT.sat, logAdd, logFind, clashAdd, mayXid_eta, len_tab256, allOne, V.one, hm, hs, h0, h1, h2, h3]
        · have hl' : (s4 == x.slot) = false := by simpa using hl
          simp [DT.sat, logAdd, logFind, clashAdd, mayXid_eta, len_tab256, allOne, V.one, hm, hs, hl, hl', h0, h1, h2, h3]
      · have hn' : (b4 == x.nick) = false := by simpa using hn
        simp [DT.sat, logAdd, logFind, clashAdd, mayXid_eta, len_tab256, allOne, V.one, hm, hs, hn, hn', h0, h1, h2, h3]
  by_cases h5 : a5 = x.src
  · subst h5
    by_cases hs : x.src = me
    · subst hs; simp [DT.sat, logAdd, logFind, clashAdd, mayXid_eta, len_tab256, allOne, V.one, hm, h0, h1, h2, h3, h4]
    · by_cases hn : b5 = x.nick
      · subst hn
        by_cases hl : s5 = x.slot
        · subst hl; simp [DT.sat, logAdd, logFind, clashAdd, mayXid_eta, len_tab256, allOne, V.one, hm, hs, h0, h1, h2, h3, h4]
        · have hl' : (s5 == x.slot) = false := by simpa using hl
          simp [DT.sat, logAdd, logFind, clashAdd, mayXid_eta, len_tab256, allOne, V.one, hm, hs, hl, hl', h0, h1, h2, h3, h4]
      · have hn' : (b5 == x.nick) = false := by simpa using hn
        simp [DT.sat, logAdd, logFind, clashAdd, mayXid_eta, len_tab256, allOne, V.one, hm, hs, hn, hn', h0, h1, h2, h3, h4]
  by_cases h6 : a6 = x.src
  · subst h6
    by_cases hs : x.src = me
    · subst hs; simp [DT.sat, logAdd, logFind, clashAdd, mayXid_eta, len_tab256, allOne, V.one, hm, h0, h1, h2, h3, h4, h5]
    · by_cases hn : b6 = x.nick
      · subst hn
        by_cases hl : s6 = x.slot
        · subst hl; simp [DT.sat, logAdd, logFind, clashAdd, mayXid_eta, len_tab256, allOne, V.one, hm, hs, h0, h1, h2, h3, h4, h5]
        · have hl' : (s6 == x.slot) = false := by simpa using hl
          simp [DT.sat, logAdd, logFind, clashAdd, mayXid_eta, len_tab256, allOne, V.one, hm, hs, hl, hl', h0, h1, h2, h3, h4, h5]
      · have hn' : (b6 == x.nick) = false := by simpa using hn
        simp [DT.sat, logAdd, logFind, clashAdd, mayXid_eta, len_tab256, allOne, V.one, hm, hs, hn, hn', h0, h1, h2, h3, h4, h5]
  by_cases h7 : a7 = x.src
  · subst h7
    by_cases hs : x.src = me
    · subst hs; simp [DT.sat, logAdd, logFind, clashAdd, mayXid_eta, len_tab256, allOne, V.one, hm, h0, h1, h2, h3, h4, h5, h6]
    · by_cases hn : b7 = x.nick
      · subst hn
        by_cases hl : s7 = x.slot
        · subst hl; simp [DT.sat, logAdd, logFind, clashAdd, mayXid_eta, len_tab256, allOne, V.one, hm, hs, h0, h1, h2, h3, h4, h5, h6]
        · have hl' : (s7 == x.slot) = false := by simpa using hl
          simp [DT.sat, logAdd, logFind, clashAdd, mayXid_eta, len_tab256, allOne, V.one, hm, hs, hl, hl', h0, h1, h2, h3, h4, h5, h6]
      · have hn' : (b7 == x.nick) = false := by simpa using hn
        simp [DT.sat, logAdd, logFind, clashAdd, mayXid_eta, len_tab256, allOne, V.one, hm, hs, hn, hn', h0, h1, h2, h3, h4, h5, h6]
  by_cases h8 : a8 = x.src
  · subst h8
    by_cases hs : x.src = me
    · subst hs; simp [DT.sat, logAdd, logFind, clashAdd, mayXid_eta, len_tab256, allOne, V.one, hm, h0, h1, h2, h3, h4, h5, h6, h7]
    · by_cases hn : b8 = x.nick
      · subst hn
        by_cases hl : s8 = x.slot
        · subst hl; simp [DT.sat, logAdd, logFind, clashAdd, mayXid_eta, len_tab256, allOne, V.one, hm, hs, h0, h1, h2, h3, h4, h5, h6, h7]
        · have hl' : (s8 == x.slot) = false := by simpa using hl
          simp [DT.sat, logAdd, logFind, clashAdd, mayXid_eta, len_tab256, allOne, V.one, hm, hs, hl, hl', h0, h1, h2, h3, h4, h5, h6, h7]
      · have hn' : (b8 == x.nick) = false := by simpa using hn
        simp [DT.sat, logAdd, logFind, clashAdd, mayXid_eta, len_tab256, allOne, V.one, hm, hs, hn, hn', h0, h1, h2, h3, h4, h5, h6, h7]
  by_cases h9 : a9 = x.src
  · subst h9
    by_cases hs : x.src = me
    · subst hs; simp [DT.sat, logAdd, logFind, clashAdd, mayXid_eta, len_tab256, allOne, V.one, hm, h0, h1, h2, h3, h4, h5, h6, h7, h8]
    · by_cases hn : b9 = x.nick
      · subst hn
        by_cases hl : s9 = x.slot
        · subst hl; simp [DT.sat, logAdd, logFind, clashAdd, mayXid_eta, len_tab256, allOne, V.one, hm, hs, h0, h1, h2, h3, h4, h5, h6, h7, h8]
        · have hl' : (s9 == x.slot) = false := by simpa using hl
          simp [DT.sat, logAdd, logFind, clashAdd, mayXid_eta, len_tab256, allOne, V.one, hm, hs, hl, hl', h0, h1, h2, h3, h4, h5, h6, h7, h8]
      · have hn' : (b9 == x.nick) = false := by simpa using hn
        simp [DT.sat, logAdd, logFind, clashAdd, mayXid_eta, len_tab256, allOne, V.one, hm, hs, hn, hn', h0, h1, h2, h3, h4, h5, h6, h7, h8]
  by_cases h10 : a10 = x.src
  · subst h10
    by_cases hs : x.src = me
    · subst hs; simp [DT.sat, logAdd, logFind, clashAdd, mayXid_eta, len_tab256, allOne, V.one, hm, h0, h1, h2, h3, h4, h5, h6, h7, h8, h9]
    · by_cases hn : b10 = x.nick
      · subst hn
        by_cases hl : s10 = x.slot
        · subst hl; simp [DT.sat, logAdd, logFind, clashAdd, mayXid_eta, len_tab256, allOne, V.one, hm, hs, h0, h1, h2, h3, h4, h5, h6, h7, h8, h9]
        · have hl' : (s10 == x.slot) = false := by simpa using hl
          simp [DT.sat, logAdd, logFind, clashAdd, mayXid_eta, len_tab256, allOne, V.one, hm, hs, hl, hl', h0, h1, h2, h3, h4, h5, h6, h7, h8, h9]
      · have hn' : (b10 == x.nick) = false := by simpa using hn
        simp [DT.sat, logAdd, logFind, clashAdd, mayXid_eta, len_tab256, allOne, V.one, hm, hs, hn, hn', h0, h1, h2, h3, h4, h5, h6, h7, h8, h9]
  by_cases hs : x.src = me
  · subst hs; simp [DT.sat, logAdd, logFind, clashAdd, mayXid_eta, len_tab256, allOne, V.one, hm, h0, h1, h2, h3, h4, h5, h6, h7, h8, h9, h10]
  · simp [DT.sat, logAdd, logFind, clashAdd, mayXid_eta, len_tab256, allOne, V.one, hm, hs, h0, h1, h2, h3, h4, h5, h6, h7, h8, h9, h10]
theorem runAdd11_0 (me : Int) (d0 d1 d2 d3 d4 d5 d6 d7 d8 d9 d10 : Gw.Device) (s0 s1 s2 s3 s4 s5 s6 s7 s8 s9 s10 : Int) (x : Gw.Xid) : Run Tryz.prog 37 [.ptr 3 0, .agg x.vs] (((openAt (smallH [.o 0 (.log ⟨me, some [d0, d1, d2, d3, d4, d5, d6, d7, d8, d9, d10], some [s0, s1, s2, s3, s4, s5, s6, s7, s8, s9, s10], none⟩)]) 3 (.log ⟨me, some [d0, d1, d2, d3, d4, d5, d6, d7, d8, d9, d10], some [s0, s1, s2, s3, s4, s5, s6, s7, s8, s9, s10], none⟩)).put 4 (some (.cells false ([d0, d1, d2, d3, d4, d5, d6, d7, d8, d9, d10].flatMap Gw.Device.vs)))).put 5 (some (.cells false ([s0, s1, s2, s3, s4, s5, s6, s7, s8, s9, s10].map (V.int .i64))))) fun r h => Gw.Ends [.o 0 (.log ⟨me, some [d0, d1, d2, d3, d4, d5, d6, d7, d8, d9, d10], some [s0, s1, s2, s3, s4, s5, s6, s7, s8, s9, s10], none⟩)] [.log (logAdd ⟨me, some [d0, d1, d2, d3, d4, d5, d6, d7, d8, d9, d10], some [s0, s1, s2, s3, s4, s5, s6, s7, s8, s9, s10], none⟩ x).2] [] [.f (.bool (logAdd ⟨me, some [d0, d1, d2, d3, d4, d5, d6, d7, d8, d9, d10], some [s0, s1, s2, s3, s4, s5, s6, s7, s8, s9, s10], none⟩ x).1)] r h :=
  runMono (run_plainU mixed tabM tabD (dIs (by kernel_rfl)) (treeAdd11_0_eq me d0 d1 d2 d3 d4 d5 d6 d7 d8 d9 d10 s0 s1 s2 s3 s4 s5 s6 s7 s8 s9 s10 x) (satAdd11_0 me d0 d1 d2 d3 d4 d5 d6 d7 d8 d9 d10 s0 s1 s2 s3 s4 s5 s6 s7 s8 s9 s10 x)) fun r h hq => by
    simp only [Prod.mk.injEq] at hq
    obtain ⟨rfl, hr⟩ := hq
    obtain ⟨ws, ids, h1, h2, h3, h4⟩ := readLog_ok hr
    exact ends_o h1 h2 h3 h4
end Go.Proofs.YtjnhaaolbcmdbaaGreatDoor
