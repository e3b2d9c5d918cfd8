/- A log: one is added. -/
import Derived.Test.YtjnhaaolbcmdbaaGreatDoorGxN
import Derived.Test.YtjnhaaolbcmdbaaGreatDoorGxT11
namespace Go.Proofs.YtjnhaaolbcmdbaaGreatDoor
open Go Gw Go.RowKit
set_option linter.unusedSimpArgs false
set_option linter.unusedVariables false
def tab256 : Str := [0, 1, 2, 2, 3, 3, 3, 3, 4, 4, 4, 4, 4, 4, 4, 4, 5, 5, 5, 5, 5, 5, 5, 5, 5, 5, 5, 5, 5, 5, 5, 5, 6, 6, 6, 6, 6, 6, 6, 6, 6, 6, 6, 6, 6, 6, 6, 6, 6, 6, 6, 6, 6, 6, 6, 6, 6, 6, 6, 6, 6, 6, 6, 6, 7, 7, 7, 7, 7, 7, 7, 7, 7, 7, 7, 7, 7, 7, 7, 7, 7, 7, 7, 7, 7, 7, 7, 7, 7, 7, 7, 7, 7, 7, 7, 7, 7, 7, 7, 7, 7, 7, 7, 7, 7, 7, 7, 7, 7, 7, 7, 7, 7, 7, 7, 7, 7, 7, 7, 7, 7, 7, 7, 7, 7, 7, 7, 7, 8, 8, 8, 8, 8, 8, 8, 8, 8, 8, 8, 8, 8, 8, 8, 8, 8, 8, 8, 8, 8, 8, 8, 8, 8, 8, 8, 8, 8, 8, 8, 8, 8, 8, 8, 8, 8, 8, 8, 8, 8, 8, 8, 8, 8, 8, 8, 8, 8, 8, 8, 8, 8, 8, 8, 8, 8, 8, 8, 8, 8, 8, 8, 8, 8, 8, 8, 8, 8, 8, 8, 8, 8, 8, 8, 8, 8, 8, 8, 8, 8, 8, 8, 8, 8, 8, 8, 8, 8, 8, 8, 8, 8, 8, 8, 8, 8, 8, 8, 8, 8, 8, 8, 8, 8, 8, 8, 8, 8, 8, 8, 8, 8, 8, 8, 8, 8, 8, 8, 8, 8, 8, 8, 8, 8, 8, 8, 8]
set_option maxRecDepth 1000000 in
theorem len_tab256 : tab256.length = 256 := by kernel_rfl
def logFind (x : Gw.Xid) : List Gw.Device → List Int → Option Bool
  | d :: ds, s :: ss => if d.id = x.src then some (d.nick == x.nick && s == x.slot) else logFind x ds ss
  | _, _ => none
def clashAdd (id : Int) : Option (List Int) → Option (List Int)
  | none => some [id]
  | some [c] => if c = id then some [c] else if id < c then some [id, c] else some [c, id]
  | o => o
def logAdd (L : Gw.Log) (x : Gw.Xid) : Bool × Gw.Log :=
  if mayXid x = true then
    if x.src = L.me then (false, { L with clash := clashAdd x.src L.clash })
    else match logFind x (L.devs.getD []) (L.slots.getD []) with
      | some true => (true, L)
      | some false => (false, { L with clash := clashAdd x.src L.clash })
      | none => if 16 ≤ (L.devs.getD []).length then (false, L) else (true, { L with devs := some (L.devs.getD [] ++ [⟨x.src, x.nick⟩]), slots := some (L.slots.getD [] ++ [x.slot]) })
  else (false, L)
theorem mayXid_eta (x : Gw.Xid) : mayXid ⟨x.src, x.dst, x.slot, x.slots, x.anew, x.nick⟩ = mayXid x := rfl
def pxM : PTab := consP 59 pXid (consP 58 pNick (consP 57 pNick noPX))
theorem tabM : TabX Tryz.prog pxM noOX := tabK.addP ans59
def treeAdd0_0 (me : Int) (x : Gw.Xid) : DT (V × Option Gw.Log) :=
  .node (!(mayXid ⟨x.src, x.dst, x.slot, x.slots, x.anew, x.nick⟩)) (
    .leaf (.bool false, some (⟨me, none, none, none⟩ : Gw.Log))) (
    .node ((x.src : Int) == me) (
      .ob ((1 = 1 ∧ ([.int .u32 x.src] : List V).length = 1 * 1) ∧ allOne [.int .u32 x.src] = true ∧ 1 * 4 ≤ 70368744177664) (
      .ob (0 ≤ (1 : Int) ∧ (1 : Int) < (((tab256 : Str).length : Nat) : Int)) (
      .leaf (.bool false, some (⟨me, none, none, some [x.src]⟩ : Gw.Log))))) (
      .ob ((2 = 2 ∧ ([.int .u32 x.src, .str x.nick] : List V).length = 1 * 2) ∧ allOne [.int .u32 x.src, .str x.nick] = true ∧ 1 * 24 ≤ 70368744177664) (
      .ob ((1 = 1 ∧ ([.int .i64 x.slot] : List V).length = 1 * 1) ∧ allOne [.int .i64 x.slot] = true ∧ 1 * 8 ≤ 70368744177664) (
      .leaf (.bool true, some (⟨me, some [⟨x.src, x.nick⟩], some [x.slot], none⟩ : Gw.Log))))))
set_option maxRecDepth 1000000 in
theorem treeAdd0_0_eq (me : Int) (x : Gw.Xid) : funT (mkXT pxM noOX) (mkXP pxM) (mkX pxM noOX) D (fun _ => noOrc) (fun k => match k with | 37 => [28, 57, 60, 67] | 62 => [9] | 76 => [8] | 91 => [23] | 108 => [12] | 118 => [4, 8, 14] | _ => []) 12 noOrc [28, 57, 60, 67] noLt (dOf 37) [.ptr 3 0, .agg x.vs] (openAt (smallH [.o 0 (.log ⟨me, none, none, none⟩)]) 3 (.log ⟨me, none, none, none⟩)) (fun v h => (v, readLog h 3)) = treeAdd0_0 me x := by kernel_rfl
set_option maxHeartbeats 4000000 in
theorem satAdd0_0 (me : Int) (x : Gw.Xid) : (treeAdd0_0 me x).sat fun p => p = (.bool (logAdd ⟨me, none, none, none⟩ x).1, some (logAdd ⟨me, none, none, none⟩ x).2) := by
  unfold treeAdd0_0
  simp [DT.sat, logAdd, logFind, clashAdd, mayXid_eta, len_tab256, allOne, V.one]
  grind
theorem runAdd0_0 (me : Int) (x : Gw.Xid) : Run Tryz.prog 37 [.ptr 3 0, .agg x.vs] (openAt (smallH [.o 0 (.log ⟨me, none, none, none⟩)]) 3 (.log ⟨me, none, none, none⟩)) fun r h => Gw.Ends [.o 0 (.log ⟨me, none, none, none⟩)] [.log (logAdd ⟨me, none, none, none⟩ x).2] [] [.f (.bool (logAdd ⟨me, none, none, none⟩ x).1)] r h :=
  runMono (run_plainU mixed tabM tabD (dIs (by kernel_rfl)) (treeAdd0_0_eq me x) (satAdd0_0 me x)) fun r h hq => by
    simp only [Prod.mk.injEq] at hq
    obtain ⟨rfl, hr⟩ := hq
    obtain ⟨ws, ids, h1, h2, h3, h4⟩ := readLog_ok hr
    exact ends_o h1 h2 h3 h4
def treeAdd0_1 (me : Int) (c0 : Int) (x : Gw.Xid) : DT (V × Option Gw.Log) :=
  .node (!(mayXid ⟨x.src, x.dst, x.slot, x.slots, x.anew, x.nick⟩)) (
    .leaf (.bool false, some (⟨me, none, none, some [c0]⟩ : Gw.Log))) (
    .node ((x.src : Int) == me) (
      .ob ((1 = 1 ∧ ([.int .u32 x.src] : List V).length = 1 * 1) ∧ allOne [.int .u32 x.src] = true ∧ 1 = 1 ∧ 2 * 4 ≤ 70368744177664 ∧ ([.int .u32 c0] : List V).length = 1 * 1) (
      .ob (0 ≤ (2 : Int) ∧ (2 : Int) < (((tab256 : Str).length : Nat) : Int)) (
      .ob (1 = 1 ∧ 0 ≤ (1 : Int) ∧ (1 : Int) < ((2 : Nat) : Int)) (
      .ob (1 = 1 ∧ 0 ≤ (0 : Int) ∧ (0 : Int) < ((2 : Nat) : Int)) (
      .node (((x.src : Int) != x.src) == true) (
        .ob (((!((c0 : Int) != c0)) == false) = true → ((True) ∧ ((True) ∧ ((True) ∧ (True))))) (
        .node (cond ((!((c0 : Int) != c0)) == false) (decide ((x.src : Int) < c0)) true) (
          .ob (1 = 1 ∧ 0 ≤ (0 : Int) ∧ (0 : Int) < ((2 : Nat) : Int)) (
          .ob (1 = 1 ∧ 0 ≤ (1 : Int) ∧ (1 : Int) < ((2 : Nat) : Int)) (
          .ob (1 = 1 ∧ 0 ≤ (1 : Int) ∧ (1 : Int) < ((2 : Nat) : Int)) (
          .ob (1 = 1 ∧ 0 ≤ (0 : Int) ∧ (0 : Int) < ((2 : Nat) : Int)) (
          .ob (1 = 1 ∧ 0 ≤ (1 : Int) ∧ (1 : Int) < ((2 : Nat) : Int)) (
          .ob (1 = 1 ∧ 0 ≤ (0 : Int) ∧ (0 : Int) < ((2 : Nat) : Int)) (
          .node ((c0 : Int) == x.src) (
            .ob (1 = 1 ∧ (True) ∧ (0 ≤ (1 : Int) ∧ (1 : Int) ≤ ((2 : Nat) : Int))) (
            .ob (1 = 1 ∧ (True) ∧ (0 ≤ (1 : Int) ∧ (1 : Int) ≤ ((2 : Nat) : Int))) (
            .ob (1 = 1 ∧ (0 ≤ (1 : Int) ∧ (1 : Int) ≤ ((2 : Nat) : Int)) ∧ (True)) (
            .leaf (.bool false, some (⟨me, none, none, some [x.src]⟩ : Gw.Log)))))) (
            .leaf (.bool false, some (⟨me, none, none, some [x.src, c0]⟩ : Gw.Log)))))))))) (
          .ob (1 = 1 ∧ 0 ≤ (1 : Int) ∧ (1 : Int) < ((2 : Nat) : Int)) (
          .ob (1 = 1 ∧ 0 ≤ (0 : Int) ∧ (0 : Int) < ((2 : Nat) : Int)) (
          .node ((x.src : Int) == c0) (
            .ob (1 = 1 ∧ (True) ∧ (0 ≤ (1 : Int) ∧ (1 : Int) ≤ ((2 : Nat) : Int))) (
            .ob (1 = 1 ∧ (True) ∧ (0 ≤ (1 : Int) ∧ (1 : Int) ≤ ((2 : Nat) : Int))) (
            .ob (1 = 1 ∧ (0 ≤ (1 : Int) ∧ (1 : Int) ≤ ((2 : Nat) : Int)) ∧ (True)) (
            .leaf (.bool false, some (⟨me, none, none, some [c0]⟩ : Gw.Log)))))) (
            .leaf (.bool false, some (⟨me, none, none, some [c0, x.src]⟩ : Gw.Log)))))))) (
        .node (decide ((x.src : Int) < c0)) (
          .ob (1 = 1 ∧ 0 ≤ (0 : Int) ∧ (0 : Int) < ((2 : Nat) : Int)) (
          .ob (1 = 1 ∧ 0 ≤ (1 : Int) ∧ (1 : Int) < ((2 : Nat) : Int)) (
          .ob (1 = 1 ∧ 0 ≤ (1 : Int) ∧ (1 : Int) < ((2 : Nat) : Int)) (
          .ob (1 = 1 ∧ 0 ≤ (0 : Int) ∧ (0 : Int) < ((2 : Nat) : Int)) (
          .ob (1 = 1 ∧ 0 ≤ (1 : Int) ∧ (1 : Int) < ((2 : Nat) : Int)) (
          .ob (1 = 1 ∧ 0 ≤ (0 : Int) ∧ (0 : Int) < ((2 : Nat) : Int)) (
          .node ((c0 : Int) == x.src) (
            .ob (1 = 1 ∧ (True) ∧ (0 ≤ (1 : Int) ∧ (1 : Int) ≤ ((2 : Nat) : Int))) (
            .ob (1 = 1 ∧ (True) ∧ (0 ≤ (1 : Int) ∧ (1 : Int) ≤ ((2 : Nat) : Int))) (
            .ob (1 = 1 ∧ (0 ≤ (1 : Int) ∧ (1 : Int) ≤ ((2 : Nat) : Int)) ∧ (True)) (
            .leaf (.bool false, some (⟨me, none, none, some [x.src]⟩ : Gw.Log)))))) (
            .leaf (.bool false, some (⟨me, none, none, some [x.src, c0]⟩ : Gw.Log)))))))))) (
          .ob (1 = 1 ∧ 0 ≤ (1 : Int) ∧ (1 : Int) < ((2 : Nat) : Int)) (
          .ob (1 = 1 ∧ 0 ≤ (0 : Int) ∧ (0 : Int) < ((2 : Nat) : Int)) (
          .node ((x.src : Int) == c0) (
            .ob (1 = 1 ∧ (True) ∧ (0 ≤ (1 : Int) ∧ (1 : Int) ≤ ((2 : Nat) : Int))) (
            .ob (1 = 1 ∧ (True) ∧ (0 ≤ (1 : Int) ∧ (1 : Int) ≤ ((2 : Nat) : Int))) (
            .ob (1 = 1 ∧ (0 ≤ (1 : Int) ∧ (1 : Int) ≤ ((2 : Nat) : Int)) ∧ (True)) (
            .leaf (.bool false, some (⟨me, none, none, some [c0]⟩ : Gw.Log)))))) (
            .leaf (.bool false, some (⟨me, none, none, some [c0, x.src]⟩ : Gw.Log)))))))))))) (
      .ob ((2 = 2 ∧ ([.int .u32 x.src, .str x.nick] : List V).length = 1 * 2) ∧ allOne [.int .u32 x.src, .str x.nick] = true ∧ 1 * 24 ≤ 70368744177664) (
      .ob ((1 = 1 ∧ ([.int .i64 x.slot] : List V).length = 1 * 1) ∧ allOne [.int .i64 x.slot] = true ∧ 1 * 8 ≤ 70368744177664) (
      .leaf (.bool true, some (⟨me, some [⟨x.src, x.nick⟩], some [x.slot], some [c0]⟩ : Gw.Log))))))
set_option maxRecDepth 1000000 in
theorem treeAdd0_1_eq (me : Int) (c0 : Int) (x : Gw.Xid) : funT (mkXT pxM noOX) (mkXP pxM) (mkX pxM noOX) D (fun _ => noOrc) (fun k => match k with | 37 => [28, 57, 60, 67] | 62 => [9] | 76 => [8, 13, 32] | 91 => [23] | 108 => [12, 18] | 118 => [4, 8, 14] | _ => []) 12 noOrc [28, 57, 60, 67] noLt (dOf 37) [.ptr 3 0, .agg x.vs] ((openAt (smallH [.o 0 (.log ⟨me, none, none, some [c0]⟩)]) 3 (.log ⟨me, none, none, some [c0]⟩)).put 4 (some (.cells false ([c0].map (V.int .u32))))) (fun v h => (v, readLog h 3)) = treeAdd0_1 me c0 x := by kernel_rfl
set_option maxHeartbeats 4000000 in
theorem satAdd0_1 (me : Int) (c0 : Int) (x : Gw.Xid) : (treeAdd0_1 me c0 x).sat fun p => p = (.bool (logAdd ⟨me, none, none, some [c0]⟩ x).1, some (logAdd ⟨me, none, none, some [c0]⟩ x).2) := by
  unfold treeAdd0_1
  simp [DT.sat, logAdd, logFind, clashAdd, mayXid_eta, len_tab256, allOne, V.one]
  grind
theorem runAdd0_1 (me : Int) (c0 : Int) (x : Gw.Xid) : Run Tryz.prog 37 [.ptr 3 0, .agg x.vs] ((openAt (smallH [.o 0 (.log ⟨me, none, none, some [c0]⟩)]) 3 (.log ⟨me, none, none, some [c0]⟩)).put 4 (some (.cells false ([c0].map (V.int .u32))))) fun r h => Gw.Ends [.o 0 (.log ⟨me, none, none, some [c0]⟩)] [.log (logAdd ⟨me, none, none, some [c0]⟩ x).2] [] [.f (.bool (logAdd ⟨me, none, none, some [c0]⟩ x).1)] r h :=
  runMono (run_plainU mixed tabM tabD (dIs (by kernel_rfl)) (treeAdd0_1_eq me c0 x) (satAdd0_1 me c0 x)) fun r h hq => by
    simp only [Prod.mk.injEq] at hq
    obtain ⟨rfl, hr⟩ := hq
    obtain ⟨ws, ids, h1, h2, h3, h4⟩ := readLog_ok hr
    exact ends_o h1 h2 h3 h4
def treeAdd1_0 (me : Int) (d0 : Gw.Device) (s0 : Int) (x : Gw.Xid) : DT (V × Option Gw.Log) :=
  .node (!(mayXid ⟨x.src, x.dst, x.slot, x.slots, x.anew, x.nick⟩)) (
    .leaf (.bool false, some (⟨me, some [⟨d0.id, d0.nick⟩], some [s0], none⟩ : Gw.Log))) (
    .ob (2 = 2 ∧ 0 ≤ (0 : Int) ∧ (0 : Int) < ((1 : Nat) : Int)) (
    .node ((d0.id : Int) == x.src) (
      .node ((x.src : Int) == me) (
        .ob ((1 = 1 ∧ ([.int .u32 x.src] : List V).length = 1 * 1) ∧ allOne [.int .u32 x.src] = true ∧ 1 * 4 ≤ 70368744177664) (
        .ob (0 ≤ (1 : Int) ∧ (1 : Int) < (((tab256 : Str).length : Nat) : Int)) (
        .leaf (.bool false, some (⟨me, some [⟨d0.id, d0.nick⟩], some [s0], some [x.src]⟩ : Gw.Log))))) (
        .ob (2 = 2 ∧ 0 ≤ (0 : Int) ∧ (0 : Int) < ((1 : Nat) : Int)) (
        .node ((!((d0.nick : Str) == x.nick)) == false) (
          .ob (1 = 1 ∧ 0 ≤ (0 : Int) ∧ (0 : Int) < ((1 : Nat) : Int)) (
          .node ((s0 : Int) != x.slot) (
            .ob ((1 = 1 ∧ ([.int .u32 x.src] : List V).length = 1 * 1) ∧ allOne [.int .u32 x.src] = true ∧ 1 * 4 ≤ 70368744177664) (
            .ob (0 ≤ (1 : Int) ∧ (1 : Int) < (((tab256 : Str).length : Nat) : Int)) (
            .leaf (.bool false, some (⟨me, some [⟨d0.id, d0.nick⟩], some [s0], some [x.src]⟩ : Gw.Log))))) (
            .leaf (.bool true, some (⟨me, some [⟨d0.id, d0.nick⟩], some [s0], none⟩ : Gw.Log))))) (
          .ob ((1 = 1 ∧ ([.int .u32 x.src] : List V).length = 1 * 1) ∧ allOne [.int .u32 x.src] = true ∧ 1 * 4 ≤ 70368744177664) (
          .ob (0 ≤ (1 : Int) ∧ (1 : Int) < (((tab256 : Str).length : Nat) : Int)) (
          .leaf (.bool false, some (⟨me, some [⟨d0.id, d0.nick⟩], some [s0], some [x.src]⟩ : Gw.Log)))))))) (
      .node ((x.src : Int) == me) (
        .ob ((1 = 1 ∧ ([.int .u32 x.src] : List V).length = 1 * 1) ∧ allOne [.int .u32 x.src] = true ∧ 1 * 4 ≤ 70368744177664) (
        .ob (0 ≤ (1 : Int) ∧ (1 : Int) < (((tab256 : Str).length : Nat) : Int)) (
        .leaf (.bool false, some (⟨me, some [⟨d0.id, d0.nick⟩], some [s0], some [x.src]⟩ : Gw.Log))))) (
        .ob ((2 = 2 ∧ ([.int .u32 x.src, .str x.nick] : List V).length = 1 * 2) ∧ allOne [.int .u32 x.src, .str x.nick] = true ∧ 2 = 2 ∧ 2 * 24 ≤ 70368744177664 ∧ ([.int .u32 d0.id, .str d0.nick] : List V).length = 1 * 2) (
        .ob ((1 = 1 ∧ ([.int .i64 x.slot] : List V).length = 1 * 1) ∧ allOne [.int .i64 x.slot] = true ∧ 1 = 1 ∧ 2 * 8 ≤ 70368744177664 ∧ ([.int .i64 s0] : List V).length = 1 * 1) (
        .leaf (.bool true, some (⟨me, some [⟨d0.id, d0.nick⟩, ⟨x.src, x.nick⟩], some [s0, x.slot], none⟩ : Gw.Log))))))))
set_option maxRecDepth 1000000 in
theorem treeAdd1_0_eq (me : Int) (d0 : Gw.Device) (s0 : Int) (x : Gw.Xid) : funT (mkXT pxM noOX) (mkXP pxM) (mkX pxM noOX) D (fun _ => noOrc) (fun k => match k with | 37 => [28, 57, 60, 67] | 62 => [9] | 76 => [8] | 91 => [23] | 108 => [12] | 118 => [4, 8, 14] | _ => []) 12 noOrc [28, 57, 60, 67] noLt (dOf 37) [.ptr 3 0, .agg x.vs] (((openAt (smallH [.o 0 (.log ⟨me, some [d0], some [s0], none⟩)]) 3 (.log ⟨me, some [d0], some [s0], none⟩)).put 4 (some (.cells false ([d0].flatMap Gw.Device.vs)))).put 5 (some (.cells false ([s0].map (V.int .i64))))) (fun v h => (v, readLog h 3)) = treeAdd1_0 me d0 s0 x := by kernel_rfl
set_option maxHeartbeats 4000000 in
theorem satAdd1_0 (me : Int) (d0 : Gw.Device) (s0 : Int) (x : Gw.Xid) : (treeAdd1_0 me d0 s0 x).sat fun p => p = (.bool (logAdd ⟨me, some [d0], some [s0], none⟩ x).1, some (logAdd ⟨me, some [d0], some [s0], none⟩ x).2) := by
  obtain ⟨a0, b0⟩ := d0
  unfold treeAdd1_0
  simp [DT.sat, logAdd, logFind, clashAdd, mayXid_eta, len_tab256, allOne, V.one]
  grind
theorem runAdd1_0 (me : Int) (d0 : Gw.Device) (s0 : Int) (x : Gw.Xid) : Run Tryz.prog 37 [.ptr 3 0, .agg x.vs] (((openAt (smallH [.o 0 (.log ⟨me, some [d0], some [s0], none⟩)]) 3 (.log ⟨me, some [d0], some [s0], none⟩)).put 4 (some (.cells false ([d0].flatMap Gw.Device.vs)))).put 5 (some (.cells false ([s0].map (V.int .i64))))) fun r h => Gw.Ends [.o 0 (.log ⟨me, some [d0], some [s0], none⟩)] [.log (logAdd ⟨me, some [d0], some [s0], none⟩ x).2] [] [.f (.bool (logAdd ⟨me, some [d0], some [s0], none⟩ x).1)] r h :=
  runMono (run_plainU mixed tabM tabD (dIs (by kernel_rfl)) (treeAdd1_0_eq me d0 s0 x) (satAdd1_0 me d0 s0 x)) fun r h hq => by
    simp only [Prod.mk.injEq] at hq
    obtain ⟨rfl, hr⟩ := hq
    obtain ⟨ws, ids, h1, h2, h3, h4⟩ := readLog_ok hr
    exact ends_o h1 h2 h3 h4
end Go.Proofs.YtjnhaaolbcmdbaaGreatDoor

/- A log: the contracts (small logs). -/
namespace Go.Proofs.YtjnhaaolbcmdbaaGreatDoor
open Go Gw Go.RowKit
set_option linter.unusedSimpArgs false
set_option linter.unusedVariables false
theorem opL0_0 (me : Int) : Opens (smallH [.o 0 (.log ⟨me, none, none, none⟩)]) (openAt (smallH [.o 0 (.log ⟨me, none, none, none⟩)]) 3 (.log ⟨me, none, none, none⟩)) := (.one 3 _ (by rw [smallH_get]; rfl) .refl)
theorem opL0_1 (me : Int) (c0 : Int) : Opens (smallH [.o 0 (.log ⟨me, none, none, some [c0]⟩)]) ((openAt (smallH [.o 0 (.log ⟨me, none, none, some [c0]⟩)]) 3 (.log ⟨me, none, none, some [c0]⟩)).put 4 (some (.cells false ([c0].map (V.int .u32))))) := (.one 3 _ (by rw [smallH_get]; rfl) (.row 4 (.ints .u32 [c0]) _ (by kernel_rfl) rfl .refl))
theorem opL1_0 (me : Int) (d0 : Gw.Device) (s0 : Int) : Opens (smallH [.o 0 (.log ⟨me, some [d0], some [s0], none⟩)]) (((openAt (smallH [.o 0 (.log ⟨me, some [d0], some [s0], none⟩)]) 3 (.log ⟨me, some [d0], some [s0], none⟩)).put 4 (some (.cells false ([d0].flatMap Gw.Device.vs)))).put 5 (some (.cells false ([s0].map (V.int .i64))))) := (.one 3 _ (by rw [smallH_get]; rfl) (.row 4 (.devs [d0]) _ (by kernel_rfl) rfl (.row 5 (.ints .i64 [s0]) _ (by kernel_rfl) rfl .refl)))
theorem opL1_1 (me : Int) (d0 : Gw.Device) (s0 c0 : Int) : Opens (smallH [.o 0 (.log ⟨me, some [d0], some [s0], some [c0]⟩)]) ((((openAt (smallH [.o 0 (.log ⟨me, some [d0], some [s0], some [c0]⟩)]) 3 (.log ⟨me, some [d0], some [s0], some [c0]⟩)).put 4 (some (.cells false ([d0].flatMap Gw.Device.vs)))).put 5 (some (.cells false ([s0].map (V.int .i64))))).put 6 (some (.cells false ([c0].map (V.int .u32))))) := (.one 3 _ (by rw [smallH_get]; rfl) (.row 4 (.devs [d0]) _ (by kernel_rfl) rfl (.row 5 (.ints .i64 [s0]) _ (by kernel_rfl) rfl (.row 6 (.ints .u32 [c0]) _ (by kernel_rfl) rfl .refl))))
theorem opL2_0 (me : Int) (d0 d1 : Gw.Device) (s0 s1 : Int) : Opens (smallH [.o 0 (.log ⟨me, some [d0, d1], some [s0, s1], none⟩)]) (((openAt (smallH [.o 0 (.log ⟨me, some [d0, d1], some [s0, s1], none⟩)]) 3 (.log ⟨me, some [d0, d1], some [s0, s1], none⟩)).put 4 (some (.cells false ([d0, d1].flatMap Gw.Device.vs)))).put 5 (some (.cells false ([s0, s1].map (V.int .i64))))) := (.one 3 _ (by rw [smallH_get]; rfl) (.row 4 (.devs [d0, d1]) _ (by kernel_rfl) rfl (.row 5 (.ints .i64 [s0, s1]) _ (by kernel_rfl) rfl .refl)))
def treeLen0_0 (me : Int) : DT (V × Option Gw.Log) :=
  .leaf (.int .i64 0, some (⟨me, none, none, none⟩ : Gw.Log))
set_option maxRecDepth 1000000 in
theorem treeLen0_0_eq (me : Int) : funT (mkXT pxM noOX) (mkXP pxM) (mkX pxM noOX) D (fun _ => noOrc) (fun _ => []) 12 noOrc [] noLt (dOf 44) [.ptr 3 0] (openAt (smallH [.o 0 (.log ⟨me, none, none, none⟩)]) 3 (.log ⟨me, none, none, none⟩)) (fun v h => (v, readLog h 3)) = treeLen0_0 me := by kernel_rfl
theorem runLen0_0 (me : Int) : Run Tryz.prog 44 [.ptr 3 0] (openAt (smallH [.o 0 (.log ⟨me, none, none, none⟩)]) 3 (.log ⟨me, none, none, none⟩)) fun r h => Gw.Ends [.o 0 (.log ⟨me, none, none, none⟩)] [.log ⟨me, none, none, none⟩] [] [.f (.int .i64 0)] r h :=
  runMono (run_plainU mixed tabM tabD (dIs (by kernel_rfl)) (treeLen0_0_eq me) (Q := fun p => p = (.int .i64 0, some ⟨me, none, none, none⟩)) (by unfold treeLen0_0; simp [DT.sat])) fun r h hq => by
    simp only [Prod.mk.injEq] at hq
    obtain ⟨rfl, hr⟩ := hq
    obtain ⟨ws, ids, h1, h2, h3, h4⟩ := readLog_ok hr
    exact ends_o h1 h2 h3 h4
def treeLen0_1 (me : Int) (c0 : Int) : DT (V × Option Gw.Log) :=
  .leaf (.int .i64 0, some (⟨me, none, none, some [c0]⟩ : Gw.Log))
set_option maxRecDepth 1000000 in
theorem treeLen0_1_eq (me : Int) (c0 : Int) : funT (mkXT pxM noOX) (mkXP pxM) (mkX pxM noOX) D (fun _ => noOrc) (fun _ => []) 12 noOrc [] noLt (dOf 44) [.ptr 3 0] ((openAt (smallH [.o 0 (.log ⟨me, none, none, some [c0]⟩)]) 3 (.log ⟨me, none, none, some [c0]⟩)).put 4 (some (.cells false ([c0].map (V.int .u32))))) (fun v h => (v, readLog h 3)) = treeLen0_1 me c0 := by kernel_rfl
theorem runLen0_1 (me : Int) (c0 : Int) : Run Tryz.prog 44 [.ptr 3 0] ((openAt (smallH [.o 0 (.log ⟨me, none, none, some [c0]⟩)]) 3 (.log ⟨me, none, none, some [c0]⟩)).put 4 (some (.cells false ([c0].map (V.int .u32))))) fun r h => Gw.Ends [.o 0 (.log ⟨me, none, none, some [c0]⟩)] [.log ⟨me, none, none, some [c0]⟩] [] [.f (.int .i64 0)] r h :=
  runMono (run_plainU mixed tabM tabD (dIs (by kernel_rfl)) (treeLen0_1_eq me c0) (Q := fun p => p = (.int .i64 0, some ⟨me, none, none, some [c0]⟩)) (by unfold treeLen0_1; simp [DT.sat])) fun r h hq => by
    simp only [Prod.mk.injEq] at hq
    obtain ⟨rfl, hr⟩ := hq
    obtain ⟨ws, ids, h1, h2, h3, h4⟩ := readLog_ok hr
    exact ends_o h1 h2 h3 h4
def treeLen1_0 (me : Int) (d0 : Gw.Device) (s0 : Int) : DT (V × Option Gw.Log) :=
  .leaf (.int .i64 1, some (⟨me, some [⟨d0.id, d0.nick⟩], some [s0], none⟩ : Gw.Log))
set_option maxRecDepth 1000000 in
theorem treeLen1_0_eq (me : Int) (d0 : Gw.Device) (s0 : Int) : funT (mkXT pxM noOX) (mkXP pxM) (mkX pxM noOX) D (fun _ => noOrc) (fun _ => []) 12 noOrc [] noLt (dOf 44) [.ptr 3 0] (((openAt (smallH [.o 0 (.log ⟨me, some [d0], some [s0], none⟩)]) 3 (.log ⟨me, some [d0], some [s0], none⟩)).put 4 (some (.cells false ([d0].flatMap Gw.Device.vs)))).put 5 (some (.cells false ([s0].map (V.int .i64))))) (fun v h => (v, readLog h 3)) = treeLen1_0 me d0 s0 := by kernel_rfl
theorem runLen1_0 (me : Int) (d0 : Gw.Device) (s0 : Int) : Run Tryz.prog 44 [.ptr 3 0] (((openAt (smallH [.o 0 (.log ⟨me, some [d0], some [s0], none⟩)]) 3 (.log ⟨me, some [d0], some [s0], none⟩)).put 4 (some (.cells false ([d0].flatMap Gw.Device.vs)))).put 5 (some (.cells false ([s0].map (V.int .i64))))) fun r h => Gw.Ends [.o 0 (.log ⟨me, some [d0], some [s0], none⟩)] [.log ⟨me, some [d0], some [s0], none⟩] [] [.f (.int .i64 1)] r h :=
  runMono (run_plainU mixed tabM tabD (dIs (by kernel_rfl)) (treeLen1_0_eq me d0 s0) (Q := fun p => p = (.int .i64 1, some ⟨me, some [d0], some [s0], none⟩)) (by obtain ⟨a0, b0⟩ := d0; unfold treeLen1_0; simp [DT.sat])) fun r h hq => by
    simp only [Prod.mk.injEq] at hq
    obtain ⟨rfl, hr⟩ := hq
    obtain ⟨ws, ids, h1, h2, h3, h4⟩ := readLog_ok hr
    exact ends_o h1 h2 h3 h4
def treeClash0_0 (me : Int) : DT (V × Option Gw.Log × Option Blk) :=
  .leaf (.nils, some (⟨me, none, none, none⟩ : Gw.Log), none)
set_option maxRecDepth 1000000 in
theorem treeClash0_0_eq (me : Int) : funT (mkXT pxM noOX) (mkXP pxM) (mkX pxM noOX) D (fun _ => noOrc) (fun _ => []) 12 noOrc [] noLt (dOf 38) [.ptr 3 0] (openAt (smallH [.o 0 (.log ⟨me, none, none, none⟩)]) 3 (.log ⟨me, none, none, none⟩)) (obsR readLogX) = treeClash0_0 me := by kernel_rfl
theorem runClash0_0 (me : Int) : Run Tryz.prog 38 [.ptr 3 0] (openAt (smallH [.o 0 (.log ⟨me, none, none, none⟩)]) 3 (.log ⟨me, none, none, none⟩)) fun r h => Gw.Ends [.o 0 (.log ⟨me, none, none, none⟩)] [.log ⟨me, none, none, none⟩] [] [.f .nils] r h :=
  runMono (run_plainU mixed tabM tabD (dIs (by kernel_rfl)) (treeClash0_0_eq me) (Q := fun p => p = (.nils, some (⟨me, none, none, none⟩ : Gw.Log), none)) (by unfold treeClash0_0; simp [DT.sat])) fun r h hq => by
    unfold obsR at hq
    split at hq
    · simp only [Prod.mk.injEq, reduceCtorEq, false_and] at hq
    · simp only [Prod.mk.injEq] at hq
      obtain ⟨rfl, hr, _⟩ := hq
      obtain ⟨ws, ids, h1, h2, h3, h4, _⟩ := readLogX_ok hr
      exact ends_o h1 h2 h3 h4
def treeClash0_1 (me : Int) (c0 : Int) : DT (V × Option Gw.Log × Option Blk) :=
  .leaf (.slice 9 0 1 1 none, some (⟨me, none, none, some [c0]⟩ : Gw.Log), some (.cells false [.int .u32 c0]))
set_option maxRecDepth 1000000 in
theorem treeClash0_1_eq (me : Int) (c0 : Int) : funT (mkXT pxM noOX) (mkXP pxM) (mkX pxM noOX) D (fun _ => noOrc) (fun _ => []) 12 noOrc [] noLt (dOf 38) [.ptr 3 0] ((openAt (smallH [.o 0 (.log ⟨me, none, none, some [c0]⟩)]) 3 (.log ⟨me, none, none, some [c0]⟩)).put 4 (some (.cells false ([c0].map (V.int .u32))))) (obsR readLogX) = treeClash0_1 me c0 := by kernel_rfl
theorem runClash0_1 (me : Int) (c0 : Int) : Run Tryz.prog 38 [.ptr 3 0] ((openAt (smallH [.o 0 (.log ⟨me, none, none, some [c0]⟩)]) 3 (.log ⟨me, none, none, some [c0]⟩)).put 4 (some (.cells false ([c0].map (V.int .u32))))) fun r h => Gw.Ends [.o 0 (.log ⟨me, none, none, some [c0]⟩)] [.log ⟨me, none, none, some [c0]⟩] [.ints .u32 [c0]] [.s 0 1 1] r h :=
  runMono (run_plainU mixed tabM tabD (dIs (by kernel_rfl)) (treeClash0_1_eq me c0) (Q := fun p => p = (.slice 9 0 1 1 none, some (⟨me, none, none, some [c0]⟩ : Gw.Log), some (.cells false [.int .u32 c0]))) (by unfold treeClash0_1; simp [DT.sat])) fun r h hq => by
    unfold obsR at hq
    split at hq
    · simp only [Prod.mk.injEq, V.slice.injEq] at hq
      obtain ⟨⟨rfl, rfl, rfl, rfl, rfl⟩, hr, hb⟩ := hq
      obtain ⟨ws, ids, h1, h2, h3, h4, h5⟩ := readLogX_ok hr
      exact ends_s h1 h2 h3 h4 (by decide) (h5 _ (by simp)) hb rfl rfl
    · rename_i hne
      simp only [Prod.mk.injEq] at hq
      exact absurd hq.1 (hne _ _ _ _ _)
def treeClash1_0 (me : Int) (d0 : Gw.Device) (s0 : Int) : DT (V × Option Gw.Log × Option Blk) :=
  .leaf (.nils, some (⟨me, some [⟨d0.id, d0.nick⟩], some [s0], none⟩ : Gw.Log), none)
set_option maxRecDepth 1000000 in
theorem treeClash1_0_eq (me : Int) (d0 : Gw.Device) (s0 : Int) : funT (mkXT pxM noOX) (mkXP pxM) (mkX pxM noOX) D (fun _ => noOrc) (fun _ => []) 12 noOrc [] noLt (dOf 38) [.ptr 3 0] (((openAt (smallH [.o 0 (.log ⟨me, some [d0], some [s0], none⟩)]) 3 (.log ⟨me, some [d0], some [s0], none⟩)).put 4 (some (.cells false ([d0].flatMap Gw.Device.vs)))).put 5 (some (.cells false ([s0].map (V.int .i64))))) (obsR readLogX) = treeClash1_0 me d0 s0 := by kernel_rfl
theorem runClash1_0 (me : Int) (d0 : Gw.Device) (s0 : Int) : Run Tryz.prog 38 [.ptr 3 0] (((openAt (smallH [.o 0 (.log ⟨me, some [d0], some [s0], none⟩)]) 3 (.log ⟨me, some [d0], some [s0], none⟩)).put 4 (some (.cells false ([d0].flatMap Gw.Device.vs)))).put 5 (some (.cells false ([s0].map (V.int .i64))))) fun r h => Gw.Ends [.o 0 (.log ⟨me, some [d0], some [s0], none⟩)] [.log ⟨me, some [d0], some [s0], none⟩] [] [.f .nils] r h :=
  runMono (run_plainU mixed tabM tabD (dIs (by kernel_rfl)) (treeClash1_0_eq me d0 s0) (Q := fun p => p = (.nils, some (⟨me, some [d0], some [s0], none⟩ : Gw.Log), none)) (by obtain ⟨a0, b0⟩ := d0; unfold treeClash1_0; simp [DT.sat])) fun r h hq => by
    unfold obsR at hq
    split at hq
    · simp only [Prod.mk.injEq, reduceCtorEq, false_and] at hq
    · simp only [Prod.mk.injEq] at hq
      obtain ⟨rfl, hr, _⟩ := hq
      obtain ⟨ws, ids, h1, h2, h3, h4, _⟩ := readLogX_ok hr
      exact ends_o h1 h2 h3 h4
def treeClash1_1 (me : Int) (d0 : Gw.Device) (s0 c0 : Int) : DT (V × Option Gw.Log × Option Blk) :=
  .leaf (.slice 11 0 1 1 none, some (⟨me, some [⟨d0.id, d0.nick⟩], some [s0], some [c0]⟩ : Gw.Log), some (.cells false [.int .u32 c0]))
set_option maxRecDepth 1000000 in
theorem treeClash1_1_eq (me : Int) (d0 : Gw.Device) (s0 c0 : Int) : funT (mkXT pxM noOX) (mkXP pxM) (mkX pxM noOX) D (fun _ => noOrc) (fun _ => []) 12 noOrc [] noLt (dOf 38) [.ptr 3 0] ((((openAt (smallH [.o 0 (.log ⟨me, some [d0], some [s0], some [c0]⟩)]) 3 (.log ⟨me, some [d0], some [s0], some [c0]⟩)).put 4 (some (.cells false ([d0].flatMap Gw.Device.vs)))).put 5 (some (.cells false ([s0].map (V.int .i64))))).put 6 (some (.cells false ([c0].map (V.int .u32))))) (obsR readLogX) = treeClash1_1 me d0 s0 c0 := by kernel_rfl
theorem runClash1_1 (me : Int) (d0 : Gw.Device) (s0 c0 : Int) : Run Tryz.prog 38 [.ptr 3 0] ((((openAt (smallH [.o 0 (.log ⟨me, some [d0], some [s0], some [c0]⟩)]) 3 (.log ⟨me, some [d0], some [s0], some [c0]⟩)).put 4 (some (.cells false ([d0].flatMap Gw.Device.vs)))).put 5 (some (.cells false ([s0].map (V.int .i64))))).put 6 (some (.cells false ([c0].map (V.int .u32))))) fun r h => Gw.Ends [.o 0 (.log ⟨me, some [d0], some [s0], some [c0]⟩)] [.log ⟨me, some [d0], some [s0], some [c0]⟩] [.ints .u32 [c0]] [.s 0 1 1] r h :=
  runMono (run_plainU mixed tabM tabD (dIs (by kernel_rfl)) (treeClash1_1_eq me d0 s0 c0) (Q := fun p => p = (.slice 11 0 1 1 none, some (⟨me, some [d0], some [s0], some [c0]⟩ : Gw.Log), some (.cells false [.int .u32 c0]))) (by obtain ⟨a0, b0⟩ := d0; unfold treeClash1_1; simp [DT.sat])) fun r h hq => by
    unfold obsR at hq
    split at hq
    · simp only [Prod.mk.injEq, V.slice.injEq] at hq
      obtain ⟨⟨rfl, rfl, rfl, rfl, rfl⟩, hr, hb⟩ := hq
      obtain ⟨ws, ids, h1, h2, h3, h4, h5⟩ := readLogX_ok hr
      exact ends_s h1 h2 h3 h4 (by decide) (h5 _ (by simp)) hb rfl rfl
    · rename_i hne
      simp only [Prod.mk.injEq] at hq
      exact absurd hq.1 (hne _ _ _ _ _)
def treeClash2_0 (me : Int) (d0 d1 : Gw.Device) (s0 s1 : Int) : DT (V × Option Gw.Log × Option Blk) :=
  .leaf (.nils, some (⟨me, some [⟨d0.id, d0.nick⟩, ⟨d1.id, d1.nick⟩], some [s0, s1], none⟩ : Gw.Log), none)
set_option maxRecDepth 1000000 in
theorem treeClash2_0_eq (me : Int) (d0 d1 : Gw.Device) (s0 s1 : Int) : funT (mkXT pxM noOX) (mkXP pxM) (mkX pxM noOX) D (fun _ => noOrc) (fun _ => []) 12 noOrc [] noLt (dOf 38) [.ptr 3 0] (((openAt (smallH [.o 0 (.log ⟨me, some [d0, d1], some [s0, s1], none⟩)]) 3 (.log ⟨me, some [d0, d1], some [s0, s1], none⟩)).put 4 (some (.cells false ([d0, d1].flatMap Gw.Device.vs)))).put 5 (some (.cells false ([s0, s1].map (V.int .i64))))) (obsR readLogX) = treeClash2_0 me d0 d1 s0 s1 := by kernel_rfl
theorem runClash2_0 (me : Int) (d0 d1 : Gw.Device) (s0 s1 : Int) : Run Tryz.prog 38 [.ptr 3 0] (((openAt (smallH [.o 0 (.log ⟨me, some [d0, d1], some [s0, s1], none⟩)]) 3 (.log ⟨me, some [d0, d1], some [s0, s1], none⟩)).put 4 (some (.cells false ([d0, d1].flatMap Gw.Device.vs)))).put 5 (some (.cells false ([s0, s1].map (V.int .i64))))) fun r h => Gw.Ends [.o 0 (.log ⟨me, some [d0, d1], some [s0, s1], none⟩)] [.log ⟨me, some [d0, d1], some [s0, s1], none⟩] [] [.f .nils] r h :=
  runMono (run_plainU mixed tabM tabD (dIs (by kernel_rfl)) (treeClash2_0_eq me d0 d1 s0 s1) (Q := fun p => p = (.nils, some (⟨me, some [d0, d1], some [s0, s1], none⟩ : Gw.Log), none)) (by obtain ⟨a0, b0⟩ := d0; obtain ⟨a1, b1⟩ := d1; unfold treeClash2_0; simp [DT.sat])) fun r h hq => by
    unfold obsR at hq
    split at hq
    · simp only [Prod.mk.injEq, reduceCtorEq, false_and] at hq
    · simp only [Prod.mk.injEq] at hq
      obtain ⟨rfl, hr, _⟩ := hq
      obtain ⟨ws, ids, h1, h2, h3, h4, _⟩ := readLogX_ok hr
      exact ends_o h1 h2 h3 h4
def okLogL : Gw.Log → Bool
  | ⟨_, none, none, none⟩ => true
  | ⟨_, none, none, some [_]⟩ => true
  | ⟨_, some [_], some [_], none⟩ => true
  | _ => false
def okLenL : Gw.Log → Bool
  | ⟨_, none, none, none⟩ => true
  | ⟨_, none, none, some [_]⟩ => true
  | ⟨_, some [_], some [_], none⟩ => true
  | _ => false
def okClL : Gw.Log → Bool
  | ⟨_, none, none, none⟩ => true
  | ⟨_, none, none, some [_]⟩ => true
  | ⟨_, some [_], some [_], none⟩ => true
  | ⟨_, some [_], some [_], some [_]⟩ => true
  | ⟨_, some [_, _], some [_, _], none⟩ => true
  | _ => false
def pAddL : List V → Ob → Option (Prop × V × Ob)
  | [.agg [.int .u32 a, .int .u32 b, .int .i64 c, .int .i64 d, .bool e, .str f]], .log L => some (okLogL L = true, .bool (logAdd L ⟨a, b, c, d, e, f⟩).1, .log (logAdd L ⟨a, b, c, d, e, f⟩).2)
  | _, _ => none
def pLenL : List V → Ob → Option (Prop × V × Ob)
  | [], .log L => some (okLenL L = true, .int .i64 ((L.devs.getD []).length : Int), .log L)
  | _, _ => none
def pClL : List V → Ob → Option (Prop × Bool × Ob × Nat × Nat)
  | [], .log L => some (okClL L = true, L.clash.isSome, .ints .u32 (L.clash.getD []), (L.clash.getD []).length, 1)
  | _, _ => none
theorem ansAddL : AnsO Tryz.prog 37 (fun args h => (gC pAddL args h).run) := by
  refine ansC fun ys x q hq hp => ?_
  unfold pAddL at hq
  split at hq
  · rename_i a b c d e f L
    simp only [Option.some.injEq] at hq
    subst hq
    simp only at hp ⊢
    generalize hx : (⟨a, b, c, d, e, f⟩ : Gw.Xid) = x
    have hv : [V.int .u32 a, .int .u32 b, .int .i64 c, .int .i64 d, .bool e, .str f] = x.vs := by subst hx; rfl
    rw [hv]
    unfold okLogL at hp
    split at hp
    · rename_i me
      exact ⟨rfl, rfl, _, opL0_0 me, runAdd0_0 me x⟩
    · rename_i me c0
      exact ⟨rfl, rfl, _, opL0_1 me c0, runAdd0_1 me c0 x⟩
    · rename_i me d0 s0
      exact ⟨rfl, rfl, _, opL1_0 me d0 s0, runAdd1_0 me d0 s0 x⟩
    · cases hp
  · cases hq
theorem ansLenL : AnsO Tryz.prog 44 (fun args h => (gC pLenL args h).run) := by
  refine ansC fun ys x q hq hp => ?_
  unfold pLenL at hq
  split at hq
  · rename_i L
    simp only [Option.some.injEq] at hq
    subst hq
    simp only at hp ⊢
    unfold okLenL at hp
    split at hp
    · rename_i me
      exact ⟨rfl, rfl, _, opL0_0 me, runLen0_0 me⟩
    · rename_i me c0
      exact ⟨rfl, rfl, _, opL0_1 me c0, runLen0_1 me c0⟩
    · rename_i me d0 s0
      exact ⟨rfl, rfl, _, opL1_0 me d0 s0, runLen1_0 me d0 s0⟩
    · cases hp
  · cases hq
theorem ansClL : AnsO Tryz.prog 38 (fun args h => (gR pClL args h).run) := by
  refine ansR fun ys x q hq hp => ?_
  unfold pClL at hq
  split at hq
  · rename_i L
    simp only [Option.some.injEq] at hq
    subst hq
    simp only at hp ⊢
    unfold okClL at hp
    split at hp
    · rename_i me
      exact ⟨rfl, _, opL0_0 me, runClash0_0 me⟩
    · rename_i me c0
      exact ⟨rfl, _, opL0_1 me c0, runClash0_1 me c0⟩
    · rename_i me d0 s0
      exact ⟨rfl, _, opL1_0 me d0 s0, runClash1_0 me d0 s0⟩
    · rename_i me d0 s0 c0
      exact ⟨rfl, _, opL1_1 me d0 s0 c0, runClash1_1 me d0 s0 c0⟩
    · rename_i me d0 d1 s0 s1
      exact ⟨rfl, _, opL2_0 me d0 d1 s0 s1, runClash2_0 me d0 d1 s0 s1⟩
    · cases hp
  · cases hq
def pNewL : List V → Option (Option Ob)
  | [.int .u32 me] => some (some (.log ⟨me, none, none, none⟩))
  | _ => none
def treeNewL (me : Int) : DT (V × Option Gw.Log) :=
  .leaf (.ptr 5 0, some (⟨me, none, none, none⟩ : Gw.Log))
set_option maxRecDepth 1000000 in
theorem treeNewL_eq (me : Int) : funT (mkXT pxM noOX) (mkXP pxM) (mkX pxM noOX) D (fun _ => noOrc) (fun _ => []) 12 noOrc [] noLt (dOf 36) [.int .u32 me] (smallH []) (fun v h => (v, readLog h 5)) = treeNewL me := by kernel_rfl
theorem ansNewL : AnsO Tryz.prog 36 (gN pNewL) := by
  refine ansN fun ys o ho => ?_
  unfold pNewL at ho
  split at ho
  · rename_i me
    simp only [Option.some.injEq] at ho
    subst ho
    refine ⟨rfl, runMono (run_plainU mixed tabM tabD (dIs (by kernel_rfl)) (treeNewL_eq me) (Q := fun p => p = (.ptr 5 0, some ⟨me, none, none, none⟩)) (by unfold treeNewL; simp [DT.sat])) fun r h hq => ?_⟩
    simp only [Prod.mk.injEq] at hq
    obtain ⟨rfl, hr⟩ := hq
    obtain ⟨ws, ids, h1, h2, h3, h4⟩ := readLog_ok hr
    exact ends_new (by decide) h1 h2 h3 h4
  · cases ho
def pxL : PTab := consP 22 pXid (consP 59 pXid (consP 58 pNick (consP 57 pNick noPX)))
theorem tabLp : TabX Tryz.prog pxL noOX := tabM.addP ans22
def oxL : OTab := consO 18 (gTrue kT0 kT1 kT2) (consO 36 (gN pNewL) (consT 37 (gC pAddL) (consT 44 (gC pLenL) (consT 38 (gR pClL) noOX))))
theorem tabL : TabX Tryz.prog pxL oxL := ⟨tabLp.p, (((((TabX.nil (P := Tryz.prog)).addT ansClL).addT ansLenL).addT ansAddL).addO ansNewL |>.addO ⟨fr_gTrue _ _ _, begun_ok⟩).o⟩
def cutX (x : Gw.Xid) : Gw.Xid := ⟨x.src, x.dst, x.slot, x.slots, x.anew, (extractL x.nick 0 (((if (25 : Int) < ((x.nick : Str).length : Int) then 25 else ((x.nick : Str).length : Int)) : Int).toNat))⟩
theorem text25 (s : Str) : ((0 : Int) ≤ (if (25 : Int) < (s.length : Int) then 25 else (s.length : Int)) ∧ (if (25 : Int) < (s.length : Int) then 25 else (s.length : Int)) ≤ (s.length : Int)) := by
  by_cases h : (25 : Int) < (s.length : Int)
  · rw [if_pos h]; omega
  · rw [if_neg h]; omega
end Go.Proofs.YtjnhaaolbcmdbaaGreatDoor
