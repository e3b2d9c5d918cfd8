/- A log of twelve: the contracts. -/
import Derived.Test.YtjnhaaolbcmdbaaGreatDoorGxLW1
namespace Go.Proofs.YtjnhaaolbcmdbaaGreatDoor
open Go Gw Go.RowKit
set_option linter.unusedSimpArgs false
set_option linter.unusedVariables false
def okLogW (m : Nat) (L : Gw.Log) : Prop := L.clash = none ∧ ((L.devs = none ∧ L.slots = none) ∨ ∃ ds ss, L.devs = some ds ∧ L.slots = some ss ∧ ss.length = ds.length ∧ 1 ≤ ds.length ∧ ds.length ≤ m)
def pAddW : List V → Ob → Option (Prop × V × Ob)
  | [.agg [.int .u32 a, .int .u32 b, .int .i64 c, .int .i64 d, .bool e, .str f]], .log L => some (okLogW 11 L, .bool (logAdd L ⟨a, b, c, d, e, f⟩).1, .log (logAdd L ⟨a, b, c, d, e, f⟩).2)
  | _, _ => none
def pAllW : List V → Ob → Option (Prop × Bool × Ob × Nat × Nat)
  | [], .log L => some (okLogW 12 L, L.devs.isSome, .devs (L.devs.getD []), (L.devs.getD []).length, 2)
  | _, _ => none
def pClW : List V → Ob → Option (Prop × Bool × Ob × Nat × Nat)
  | [], .log L => some (okLogW 12 L, false, .ints .u32 [], 0, 1)
  | _, _ => none
theorem exL1 {α : Type} {l : List α} (h : l.length = 1) : ∃ x0, l = [x0] := by
  match l, h with
  | [x0], _ => exact ⟨x0, rfl⟩
theorem exL2 {α : Type} {l : List α} (h : l.length = 2) : ∃ x0 x1, l = [x0, x1] := by
  match l, h with
  | [x0, x1], _ => exact ⟨x0, x1, rfl⟩
theorem exL3 {α : Type} {l : List α} (h : l.length = 3) : ∃ x0 x1 x2, l = [x0, x1, x2] := by
  match l, h with
  | [x0, x1, x2], _ => exact ⟨x0, x1, x2, rfl⟩
theorem exL4 {α : Type} {l : List α} (h : l.length = 4) : ∃ x0 x1 x2 x3, l = [x0, x1, x2, x3] := by
  match l, h with
  | [x0, x1, x2, x3], _ => exact ⟨x0, x1, x2, x3, rfl⟩
theorem exL5 {α : Type} {l : List α} (h : l.length = 5) : ∃ x0 x1 x2 x3 x4, l = [x0, x1, x2, x3, x4] := by
  match l, h with
  | [x0, x1, x2, x3, x4], _ => exact ⟨x0, x1, x2, x3, x4, rfl⟩
theorem exL6 {α : Type} {l : List α} (h : l.length = 6) : ∃ x0 x1 x2 x3 x4 x5, l = [x0, x1, x2, x3, x4, x5] := by
  match l, h with
  | [x0, x1, x2, x3, x4, x5], _ => exact ⟨x0, x1, x2, x3, x4, x5, rfl⟩
theorem exL7 {α : Type} {l : List α} (h : l.length = 7) : ∃ x0 x1 x2 x3 x4 x5 x6, l = [x0, x1, x2, x3, x4, x5, x6] := by
  match l, h with
  | [x0, x1, x2, x3, x4, x5, x6], _ => exact ⟨x0, x1, x2, x3, x4, x5, x6, rfl⟩
theorem exL8 {α : Type} {l : List α} (h : l.length = 8) : ∃ x0 x1 x2 x3 x4 x5 x6 x7, l = [x0, x1, x2, x3, x4, x5, x6, x7] := by
  match l, h with
  | [x0, x1, x2, x3, x4, x5, x6, x7], _ => exact ⟨x0, x1, x2, x3, x4, x5, x6, x7, rfl⟩
theorem exL9 {α : Type} {l : List α} (h : l.length = 9) : ∃ x0 x1 x2 x3 x4 x5 x6 x7 x8, l = [x0, x1, x2, x3, x4, x5, x6, x7, x8] := by
  match l, h with
  | [x0, x1, x2, x3, x4, x5, x6, x7, x8], _ => exact ⟨x0, x1, x2, x3, x4, x5, x6, x7, x8, rfl⟩
theorem exL10 {α : Type} {l : List α} (h : l.length = 10) : ∃ x0 x1 x2 x3 x4 x5 x6 x7 x8 x9, l = [x0, x1, x2, x3, x4, x5, x6, x7, x8, x9] := by
  match l, h with
  | [x0, x1, x2, x3, x4, x5, x6, x7, x8, x9], _ => exact ⟨x0, x1, x2, x3, x4, x5, x6, x7, x8, x9, rfl⟩
theorem exL11 {α : Type} {l : List α} (h : l.length = 11) : ∃ x0 x1 x2 x3 x4 x5 x6 x7 x8 x9 x10, l = [x0, x1, x2, x3, x4, x5, x6, x7, x8, x9, x10] := by
  match l, h with
  | [x0, x1, x2, x3, x4, x5, x6, x7, x8, x9, x10], _ => exact ⟨x0, x1, x2, x3, x4, x5, x6, x7, x8, x9, x10, rfl⟩
theorem exL12 {α : Type} {l : List α} (h : l.length = 12) : ∃ x0 x1 x2 x3 x4 x5 x6 x7 x8 x9 x10 x11, l = [x0, x1, x2, x3, x4, x5, x6, x7, x8, x9, x10, x11] := by
  match l, h with
  | [x0, x1, x2, x3, x4, x5, x6, x7, x8, x9, x10, x11], _ => exact ⟨x0, x1, x2, x3, x4, x5, x6, x7, x8, x9, x10, x11, rfl⟩
theorem opL3_0 (me : Int) (d0 d1 d2 : Gw.Device) (s0 s1 s2 : Int) : Opens (smallH [.o 0 (.log ⟨me, some [d0, d1, d2], some [s0, s1, s2], none⟩)]) (((openAt (smallH [.o 0 (.log ⟨me, some [d0, d1, d2], some [s0, s1, s2], none⟩)]) 3 (.log ⟨me, some [d0, d1, d2], some [s0, s1, s2], none⟩)).put 4 (some (.cells false ([d0, d1, d2].flatMap Gw.Device.vs)))).put 5 (some (.cells false ([s0, s1, s2].map (V.int .i64))))) := (.one 3 _ (by rw [smallH_get]; rfl) (.row 4 (.devs [d0, d1, d2]) _ (by kernel_rfl) rfl (.row 5 (.ints .i64 [s0, s1, s2]) _ (by kernel_rfl) rfl .refl)))
theorem opL4_0 (me : Int) (d0 d1 d2 d3 : Gw.Device) (s0 s1 s2 s3 : Int) : Opens (smallH [.o 0 (.log ⟨me, some [d0, d1, d2, d3], some [s0, s1, s2, s3], none⟩)]) (((openAt (smallH [.o 0 (.log ⟨me, some [d0, d1, d2, d3], some [s0, s1, s2, s3], none⟩)]) 3 (.log ⟨me, some [d0, d1, d2, d3], some [s0, s1, s2, s3], none⟩)).put 4 (some (.cells false ([d0, d1, d2, d3].flatMap Gw.Device.vs)))).put 5 (some (.cells false ([s0, s1, s2, s3].map (V.int .i64))))) := (.one 3 _ (by rw [smallH_get]; rfl) (.row 4 (.devs [d0, d1, d2, d3]) _ (by kernel_rfl) rfl (.row 5 (.ints .i64 [s0, s1, s2, s3]) _ (by kernel_rfl) rfl .refl)))
theorem opL5_0 (me : Int) (d0 d1 d2 d3 d4 : Gw.Device) (s0 s1 s2 s3 s4 : Int) : Opens (smallH [.o 0 (.log ⟨me, some [d0, d1, d2, d3, d4], some [s0, s1, s2, s3, s4], none⟩)]) (((openAt (smallH [.o 0 (.log ⟨me, some [d0, d1, d2, d3, d4], some [s0, s1, s2, s3, s4], none⟩)]) 3 (.log ⟨me, some [d0, d1, d2, d3, d4], some [s0, s1, s2, s3, s4], none⟩)).put 4 (some (.cells false ([d0, d1, d2, d3, d4].flatMap Gw.Device.vs)))).put 5 (some (.cells false ([s0, s1, s2, s3, s4].map (V.int .i64))))) := (.one 3 _ (by rw [smallH_get]; rfl) (.row 4 (.devs [d0, d1, d2, d3, d4]) _ (by kernel_rfl) rfl (.row 5 (.ints .i64 [s0, s1, s2, s3, s4]) _ (by kernel_rfl) rfl .refl)))
theorem opL6_0 (me : Int) (d0 d1 d2 d3 d4 d5 : Gw.Device) (s0 s1 s2 s3 s4 s5 : Int) : Opens (smallH [.o 0 (.log ⟨me, some [d0, d1, d2, d3, d4, d5], some [s0, s1, s2, s3, s4, s5], none⟩)]) (((openAt (smallH [.o 0 (.log ⟨me, some [d0, d1, d2, d3, d4, d5], some [s0, s1, s2, s3, s4, s5], none⟩)]) 3 (.log ⟨me, some [d0, d1, d2, d3, d4, d5], some [s0, s1, s2, s3, s4, s5], none⟩)).put 4 (some (.cells false ([d0, d1, d2, d3, d4, d5].flatMap Gw.Device.vs)))).put 5 (some (.cells false ([s0, s1, s2, s3, s4, s5].map (V.int .i64))))) := (.one 3 _ (by rw [smallH_get]; rfl) (.row 4 (.devs [d0, d1, d2, d3, d4, d5]) _ (by kernel_rfl) rfl (.row 5 (.ints .i64 [s0, s1, s2, s3, s4, s5]) _ (by kernel_rfl) rfl .refl)))
theorem opL7_0 (me : Int) (d0 d1 d2 d3 d4 d5 d6 : Gw.Device) (s0 s1 s2 s3 s4 s5 s6 : Int) : Opens (smallH [.o 0 (.log ⟨me, some [d0, d1, d2, d3, d4, d5, d6], some [s0, s1, s2, s3, s4, s5, s6], none⟩)]) (((openAt (smallH [.o 0 (.log ⟨me, some [d0, d1, d2, d3, d4, d5, d6], some [s0, s1, s2, s3, s4, s5, s6], none⟩)]) 3 (.log ⟨me, some [d0, d1, d2, d3, d4, d5, d6], some [s0, s1, s2, s3, s4, s5, s6], none⟩)).put 4 (some (.cells false ([d0, d1, d2, d3, d4, d5, d6].flatMap Gw.Device.vs)))).put 5 (some (.cells false ([s0, s1, s2, s3, s4, s5, s6].map (V.int .i64))))) := (.one 3 _ (by rw [smallH_get]; rfl) (.row 4 (.devs [d0, d1, d2, d3, d4, d5, d6]) _ (by kernel_rfl) rfl (.row 5 (.ints .i64 [s0, s1, s2, s3, s4, s5, s6]) _ (by kernel_rfl) rfl .refl)))
theorem opL8_0 (me : Int) (d0 d1 d2 d3 d4 d5 d6 d7 : Gw.Device) (s0 s1 s2 s3 s4 s5 s6 s7 : Int) : Opens (smallH [.o 0 (.log ⟨me, some [d0, d1, d2, d3, d4, d5, d6, d7], some [s0, s1, s2, s3, s4, s5, s6, s7], none⟩)]) (((openAt (smallH [.o 0 (.log ⟨me, some [d0, d1, d2, d3, d4, d5, d6, d7], some [s0, s1, s2, s3, s4, s5, s6, s7], none⟩)]) 3 (.log ⟨me, some [d0, d1, d2, d3, d4, d5, d6, d7], some [s0, s1, s2, s3, s4, s5, s6, s7], none⟩)).put 4 (some (.cells false ([d0, d1, d2, d3, d4, d5, d6, d7].flatMap Gw.Device.vs)))).put 5 (some (.cells false ([s0, s1, s2, s3, s4, s5, s6, s7].map (V.int .i64))))) := (.one 3 _ (by rw [smallH_get]; rfl) (.row 4 (.devs [d0, d1, d2, d3, d4, d5, d6, d7]) _ (by kernel_rfl) rfl (.row 5 (.ints .i64 [s0, s1, s2, s3, s4, s5, s6, s7]) _ (by kernel_rfl) rfl .refl)))
theorem opL9_0 (me : Int) (d0 d1 d2 d3 d4 d5 d6 d7 d8 : Gw.Device) (s0 s1 s2 s3 s4 s5 s6 s7 s8 : Int) : Opens (smallH [.o 0 (.log ⟨me, some [d0, d1, d2, d3, d4, d5, d6, d7, d8], some [s0, s1, s2, s3, s4, s5, s6, s7, s8], none⟩)]) (((openAt (smallH [.o 0 (.log ⟨me, some [d0, d1, d2, d3, d4, d5, d6, d7, d8], some [s0, s1, s2, s3, s4, s5, s6, s7, s8], none⟩)]) 3 (.log ⟨me, some [d0, d1, d2, d3, d4, d5, d6, d7, d8], some [s0, s1, s2, s3, s4, s5, s6, s7, s8], none⟩)).put 4 (some (.cells false ([d0, d1, d2, d3, d4, d5, d6, d7, d8].flatMap Gw.Device.vs)))).put 5 (some (.cells false ([s0, s1, s2, s3, s4, s5, s6, s7, s8].map (V.int .i64))))) := (.one 3 _ (by rw [smallH_get]; rfl) (.row 4 (.devs [d0, d1, d2, d3, d4, d5, d6, d7, d8]) _ (by kernel_rfl) rfl (.row 5 (.ints .i64 [s0, s1, s2, s3, s4, s5, s6, s7, s8]) _ (by kernel_rfl) rfl .refl)))
theorem opL10_0 (me : Int) (d0 d1 d2 d3 d4 d5 d6 d7 d8 d9 : Gw.Device) (s0 s1 s2 s3 s4 s5 s6 s7 s8 s9 : Int) : Opens (smallH [.o 0 (.log ⟨me, some [d0, d1, d2, d3, d4, d5, d6, d7, d8, d9], some [s0, s1, s2, s3, s4, s5, s6, s7, s8, s9], none⟩)]) (((openAt (smallH [.o 0 (.log ⟨me, some [d0, d1, d2, d3, d4, d5, d6, d7, d8, d9], some [s0, s1, s2, s3, s4, s5, s6, s7, s8, s9], none⟩)]) 3 (.log ⟨me, some [d0, d1, d2, d3, d4, d5, d6, d7, d8, d9], some [s0, s1, s2, s3, s4, s5, s6, s7, s8, s9], none⟩)).put 4 (some (.cells false ([d0, d1, d2, d3, d4, d5, d6, d7, d8, d9].flatMap Gw.Device.vs)))).put 5 (some (.cells false ([s0, s1, s2, s3, s4, s5, s6, s7, s8, s9].map (V.int .i64))))) := (.one 3 _ (by rw [smallH_get]; rfl) (.row 4 (.devs [d0, d1, d2, d3, d4, d5, d6, d7, d8, d9]) _ (by kernel_rfl) rfl (.row 5 (.ints .i64 [s0, s1, s2, s3, s4, s5, s6, s7, s8, s9]) _ (by kernel_rfl) rfl .refl)))
theorem opL11_0 (me : Int) (d0 d1 d2 d3 d4 d5 d6 d7 d8 d9 d10 : Gw.Device) (s0 s1 s2 s3 s4 s5 s6 s7 s8 s9 s10 : Int) : Opens (smallH [.o 0 (.log ⟨me, some [d0, d1, d2, d3, d4, d5, d6, d7, d8, d9, d10], some [s0, s1, s2, s3, s4, s5, s6, s7, s8, s9, s10], none⟩)]) (((openAt (smallH [.o 0 (.log ⟨me, some [d0, d1, d2, d3, d4, d5, d6, d7, d8, d9, d10], some [s0, s1, s2, s3, s4, s5, s6, s7, s8, s9, s10], none⟩)]) 3 (.log ⟨me, some [d0, d1, d2, d3, d4, d5, d6, d7, d8, d9, d10], some [s0, s1, s2, s3, s4, s5, s6, s7, s8, s9, s10], none⟩)).put 4 (some (.cells false ([d0, d1, d2, d3, d4, d5, d6, d7, d8, d9, d10].flatMap Gw.Device.vs)))).put 5 (some (.cells false ([s0, s1, s2, s3, s4, s5, s6, s7, s8, s9, s10].map (V.int .i64))))) := (.one 3 _ (by rw [smallH_get]; rfl) (.row 4 (.devs [d0, d1, d2, d3, d4, d5, d6, d7, d8, d9, d10]) _ (by kernel_rfl) rfl (.row 5 (.ints .i64 [s0, s1, s2, s3, s4, s5, s6, s7, s8, s9, s10]) _ (by kernel_rfl) rfl .refl)))
theorem opL12_0 (me : Int) (d0 d1 d2 d3 d4 d5 d6 d7 d8 d9 d10 d11 : Gw.Device) (s0 s1 s2 s3 s4 s5 s6 s7 s8 s9 s10 s11 : Int) : Opens (smallH [.o 0 (.log ⟨me, some [d0, d1, d2, d3, d4, d5, d6, d7, d8, d9, d10, d11], some [s0, s1, s2, s3, s4, s5, s6, s7, s8, s9, s10, s11], none⟩)]) (((openAt (smallH [.o 0 (.log ⟨me, some [d0, d1, d2, d3, d4, d5, d6, d7, d8, d9, d10, d11], some [s0, s1, s2, s3, s4, s5, s6, s7, s8, s9, s10, s11], none⟩)]) 3 (.log ⟨me, some [d0, d1, d2, d3, d4, d5, d6, d7, d8, d9, d10, d11], some [s0, s1, s2, s3, s4, s5, s6, s7, s8, s9, s10, s11], none⟩)).put 4 (some (.cells false ([d0, d1, d2, d3, d4, d5, d6, d7, d8, d9, d10, d11].flatMap Gw.Device.vs)))).put 5 (some (.cells false ([s0, s1, s2, s3, s4, s5, s6, s7, s8, s9, s10, s11].map (V.int .i64))))) := (.one 3 _ (by rw [smallH_get]; rfl) (.row 4 (.devs [d0, d1, d2, d3, d4, d5, d6, d7, d8, d9, d10, d11]) _ (by kernel_rfl) rfl (.row 5 (.ints .i64 [s0, s1, s2, s3, s4, s5, s6, s7, s8, s9, s10, s11]) _ (by kernel_rfl) rfl .refl)))
def treeAll0 (me : Int) : DT (V × Option Gw.Log × Option Blk) :=
  .leaf (.nils, some (⟨me, none, none, none⟩ : Gw.Log), none)
set_option maxRecDepth 1000000 in
theorem treeAll0_eq (me : Int) : funT (mkXT pxM noOX) (mkXP pxM) (mkX pxM noOX) D (fun _ => noOrc) (fun _ => []) 12 noOrc [] noLt (dOf 51) [.ptr 3 0] (openAt (smallH [.o 0 (.log ⟨me, none, none, none⟩)]) 3 (.log ⟨me, none, none, none⟩)) (obsR readLogX) = treeAll0 me := by kernel_rfl
theorem runAll0 (me : Int) : Run Tryz.prog 51 [.ptr 3 0] (openAt (smallH [.o 0 (.log ⟨me, none, none, none⟩)]) 3 (.log ⟨me, none, none, none⟩)) fun r h => Gw.Ends [.o 0 (.log ⟨me, none, none, none⟩)] [.log ⟨me, none, none, none⟩] [] [.f .nils] r h :=
  runMono (run_plainU mixed tabM tabD (dIs (by kernel_rfl)) (treeAll0_eq me) (Q := fun p => p = (.nils, some (⟨me, none, none, none⟩ : Gw.Log), none)) (by unfold treeAll0; simp [DT.sat])) fun r h hq => by
    unfold obsR at hq
    split at hq
    · simp only [Prod.mk.injEq, reduceCtorEq, false_and] at hq
    · simp only [Prod.mk.injEq] at hq
      obtain ⟨rfl, hr, _⟩ := hq
      obtain ⟨ws, ids, h1, h2, h3, h4, _⟩ := readLogX_ok hr
      exact ends_o h1 h2 h3 h4
def treeAll1 (me : Int) (d0 : Gw.Device) (s0 : Int) : DT (V × Option Gw.Log × Option Blk) :=
  .leaf (.slice 10 0 1 2 none, some (⟨me, some [⟨d0.id, d0.nick⟩], some [s0], none⟩ : Gw.Log), some (.cells false [.int .u32 d0.id, .str d0.nick]))
set_option maxRecDepth 1000000 in
theorem treeAll1_eq (me : Int) (d0 : Gw.Device) (s0 : Int) : funT (mkXT pxM noOX) (mkXP pxM) (mkX pxM noOX) D (fun _ => noOrc) (fun _ => []) 12 noOrc [] noLt (dOf 51) [.ptr 3 0] (((openAt (smallH [.o 0 (.log ⟨me, some [d0], some [s0], none⟩)]) 3 (.log ⟨me, some [d0], some [s0], none⟩)).put 4 (some (.cells false ([d0].flatMap Gw.Device.vs)))).put 5 (some (.cells false ([s0].map (V.int .i64))))) (obsR readLogX) = treeAll1 me d0 s0 := by kernel_rfl
theorem runAll1 (me : Int) (d0 : Gw.Device) (s0 : Int) : Run Tryz.prog 51 [.ptr 3 0] (((openAt (smallH [.o 0 (.log ⟨me, some [d0], some [s0], none⟩)]) 3 (.log ⟨me, some [d0], some [s0], none⟩)).put 4 (some (.cells false ([d0].flatMap Gw.Device.vs)))).put 5 (some (.cells false ([s0].map (V.int .i64))))) fun r h => Gw.Ends [.o 0 (.log ⟨me, some [d0], some [s0], none⟩)] [.log ⟨me, some [d0], some [s0], none⟩] [.devs [d0]] [.s 0 1 2] r h :=
  runMono (run_plainU mixed tabM tabD (dIs (by kernel_rfl)) (treeAll1_eq me d0 s0) (Q := fun p => p = (.slice 10 0 1 2 none, some (⟨me, some [d0], some [s0], none⟩ : Gw.Log), some (.cells false [.int .u32 d0.id, .str d0.nick]))) (by obtain ⟨a0, b0⟩ := d0; unfold treeAll1; simp [DT.sat])) fun r h hq => by
    unfold obsR at hq
    split at hq
    · simp only [Prod.mk.injEq, V.slice.injEq] at hq
      obtain ⟨⟨rfl, rfl, rfl, rfl, rfl⟩, hr, hb⟩ := hq
      obtain ⟨ws, ids, h1, h2, h3, h4, h5⟩ := readLogX_ok hr
      exact ends_s h1 h2 h3 h4 (by decide) (h5 _ (by simp)) hb rfl (flats_devs [d0])
    · rename_i hne
      simp only [Prod.mk.injEq] at hq
      exact absurd hq.1 (hne _ _ _ _ _)
def treeAll2 (me : Int) (d0 d1 : Gw.Device) (s0 s1 : Int) : DT (V × Option Gw.Log × Option Blk) :=
  .leaf (.slice 10 0 2 2 none, some (⟨me, some [⟨d0.id, d0.nick⟩, ⟨d1.id, d1.nick⟩], some [s0, s1], none⟩ : Gw.Log), some (.cells false [.int .u32 d0.id, .str d0.nick, .int .u32 d1.id, .str d1.nick]))
set_option maxRecDepth 1000000 in
theorem treeAll2_eq (me : Int) (d0 d1 : Gw.Device) (s0 s1 : Int) : funT (mkXT pxM noOX) (mkXP pxM) (mkX pxM noOX) D (fun _ => noOrc) (fun _ => []) 12 noOrc [] noLt (dOf 51) [.ptr 3 0] (((openAt (smallH [.o 0 (.log ⟨me, some [d0, d1], some [s0, s1], none⟩)]) 3 (.log ⟨me, some [d0, d1], some [s0, s1], none⟩)).put 4 (some (.cells false ([d0, d1].flatMap Gw.Device.vs)))).put 5 (some (.cells false ([s0, s1].map (V.int .i64))))) (obsR readLogX) = treeAll2 me d0 d1 s0 s1 := by kernel_rfl
theorem runAll2 (me : Int) (d0 d1 : Gw.Device) (s0 s1 : Int) : Run Tryz.prog 51 [.ptr 3 0] (((openAt (smallH [.o 0 (.log ⟨me, some [d0, d1], some [s0, s1], none⟩)]) 3 (.log ⟨me, some [d0, d1], some [s0, s1], none⟩)).put 4 (some (.cells false ([d0, d1].flatMap Gw.Device.vs)))).put 5 (some (.cells false ([s0, s1].map (V.int .i64))))) fun r h => Gw.Ends [.o 0 (.log ⟨me, some [d0, d1], some [s0, s1], none⟩)] [.log ⟨me, some [d0, d1], some [s0, s1], none⟩] [.devs [d0, d1]] [.s 0 2 2] r h :=
  runMono (run_plainU mixed tabM tabD (dIs (by kernel_rfl)) (treeAll2_eq me d0 d1 s0 s1) (Q := fun p => p = (.slice 10 0 2 2 none, some (⟨me, some [d0, d1], some [s0, s1], none⟩ : Gw.Log), some (.cells false [.int .u32 d0.id, .str d0.nick, .int .u32 d1.id, .str d1.nick]))) (by obtain ⟨a0, b0⟩ := d0; obtain ⟨a1, b1⟩ := d1; unfold treeAll2; simp [DT.sat])) fun r h hq => by
    unfold obsR at hq
    split at hq
    · simp only [Prod.mk.injEq, V.slice.injEq] at hq
      obtain ⟨⟨rfl, rfl, rfl, rfl, rfl⟩, hr, hb⟩ := hq
      obtain ⟨ws, ids, h1, h2, h3, h4, h5⟩ := readLogX_ok hr
      exact ends_s h1 h2 h3 h4 (by decide) (h5 _ (by simp)) hb rfl (flats_devs [d0, d1])
    · rename_i hne
      simp only [Prod.mk.injEq] at hq
      exact absurd hq.1 (hne _ _ _ _ _)
def treeAll3 (me : Int) (d0 d1 d2 : Gw.Device) (s0 s1 s2 : Int) : DT (V × Option Gw.Log × Option Blk) :=
  .leaf (.slice 10 0 3 2 none, some (⟨me, some [⟨d0.id, d0.nick⟩, ⟨d1.id, d1.nick⟩, ⟨d2.id, d2.nick⟩], some [s0, s1, s2], none⟩ : Gw.Log), some (.cells false [.int .u32 d0.id, .str d0.nick, .int .u32 d1.id, .str d1.nick, .int .u32 d2.id, .str d2.nick]))
set_option maxRecDepth 1000000 in
theorem treeAll3_eq (me : Int) (d0 d1 d2 : Gw.Device) (s0 s1 s2 : Int) : funT (mkXT pxM noOX) (mkXP pxM) (mkX pxM noOX) D (fun _ => noOrc) (fun _ => []) 12 noOrc [] noLt (dOf 51) [.ptr 3 0] (((openAt (smallH [.o 0 (.log ⟨me, some [d0, d1, d2], some [s0, s1, s2], none⟩)]) 3 (.log ⟨me, some [d0, d1, d2], some [s0, s1, s2], none⟩)).put 4 (some (.cells false ([d0, d1, d2].flatMap Gw.Device.vs)))).put 5 (some (.cells false ([s0, s1, s2].map (V.int .i64))))) (obsR readLogX) = treeAll3 me d0 d1 d2 s0 s1 s2 := by kernel_rfl
theorem runAll3 (me : Int) (d0 d1 d2 : Gw.Device) (s0 s1 s2 : Int) : Run Tryz.prog 51 [.ptr 3 0] (((openAt (smallH [.o 0 (.log ⟨me, some [d0, d1, d2], some [s0, s1, s2], none⟩)]) 3 (.log ⟨me, some [d0, d1, d2], some [s0, s1, s2], none⟩)).put 4 (some (.cells false ([d0, d1, d2].flatMap Gw.Device.vs)))).put 5 (some (.cells false ([s0, s1, s2].map (V.int .i64))))) fun r h => Gw.Ends [.o 0 (.log ⟨me, some [d0, d1, d2], some [s0, s1, s2], none⟩)] [.log ⟨me, some [d0, d1, d2], some [s0, s1, s2], none⟩] [.devs [d0, d1, d2]] [.s 0 3 2] r h :=
  runMono (run_plainU mixed tabM tabD (dIs (by kernel_rfl)) (treeAll3_eq me d0 d1 d2 s0 s1 s2) (Q := fun p => p = (.slice 10 0 3 2 none, some (⟨me, some [d0, d1, d2], some [s0, s1, s2], none⟩ : Gw.Log), some (.cells false [.int .u32 d0.id, .str d0.nick, .int .u32 d1.id, .str d1.nick, .int .u32 d2.id, .str d2.nick]))) (by obtain ⟨a0, b0⟩ := d0; obtain ⟨a1, b1⟩ := d1; obtain ⟨a2, b2⟩ := d2; unfold treeAll3; simp [DT.sat])) fun r h hq => by
    unfold obsR at hq
    split at hq
    · simp only [Prod.mk.injEq, V.slice.injEq] at hq
      obtain ⟨⟨rfl, rfl, rfl, rfl, rfl⟩, hr, hb⟩ := hq
      obtain ⟨ws, ids, h1, h2, h3, h4, h5⟩ := readLogX_ok hr
      exact ends_s h1 h2 h3 h4 (by decide) (h5 _ (by simp)) hb rfl (flats_devs [d0, d1, d2])
    · rename_i hne
      simp only [Prod.mk.injEq] at hq
      exact absurd hq.1 (hne _ _ _ _ _)
def treeAll4 (me : Int) (d0 d1 d2 d3 : Gw.Device) (s0 s1 s2 s3 : Int) : DT (V × Option Gw.Log × Option Blk) :=
  .leaf (.slice 10 0 4 2 none, some (⟨me, some [⟨d0.id, d0.nick⟩, ⟨d1.id, d1.nick⟩, ⟨d2.id, d2.nick⟩, ⟨d3.id, d3.nick⟩], some [s0, s1, s2, s3], none⟩ : Gw.Log), some (.cells false [.int .u32 d0.id, .str d0.nick, .int .u32 d1.id, .str d1.nick, .int .u32 d2.id, .str d2.nick, .int .u32 d3.id, .str d3.nick]))
set_option maxRecDepth 1000000 in
theorem treeAll4_eq (me : Int) (d0 d1 d2 d3 : Gw.Device) (s0 s1 s2 s3 : Int) : funT (mkXT pxM noOX) (mkXP pxM) (mkX pxM noOX) D (fun _ => noOrc) (fun _ => []) 12 noOrc [] noLt (dOf 51) [.ptr 3 0] (((openAt (smallH [.o 0 (.log ⟨me, some [d0, d1, d2, d3], some [s0, s1, s2, s3], none⟩)]) 3 (.log ⟨me, some [d0, d1, d2, d3], some [s0, s1, s2, s3], none⟩)).put 4 (some (.cells false ([d0, d1, d2, d3].flatMap Gw.Device.vs)))).put 5 (some (.cells false ([s0, s1, s2, s3].map (V.int .i64))))) (obsR readLogX) = treeAll4 me d0 d1 d2 d3 s0 s1 s2 s3 := by kernel_rfl
theorem runAll4 (me : Int) (d0 d1 d2 d3 : Gw.Device) (s0 s1 s2 s3 : Int) : Run Tryz.prog 51 [.ptr 3 0] (((openAt (smallH [.o 0 (.log ⟨me, some [d0, d1, d2, d3], some [s0, s1, s2, s3], none⟩)]) 3 (.log ⟨me, some [d0, d1, d2, d3], some [s0, s1, s2, s3], none⟩)).put 4 (some (.cells false ([d0, d1, d2, d3].flatMap Gw.Device.vs)))).put 5 (some (.cells false ([s0, s1, s2, s3].map (V.int .i64))))) fun r h => Gw.Ends [.o 0 (.log ⟨me, some [d0, d1, d2, d3], some [s0, s1, s2, s3], none⟩)] [.log ⟨me, some [d0, d1, d2, d3], some [s0, s1, s2, s3], none⟩] [.devs [d0, d1, d2, d3]] [.s 0 4 2] r h :=
  runMono (run_plainU mixed tabM tabD (dIs (by kernel_rfl)) (treeAll4_eq me d0 d1 d2 d3 s0 s1 s2 s3) (Q := fun p => p = (.slice 10 0 4 2 none, some (⟨me, some [d0, d1, d2, d3], some [s0, s1, s2, s3], none⟩ : Gw.Log), some (.cells false [.int .u32 d0.id, .str d0.nick, .int .u32 d1.id, .str d1.nick, .int .u32 d2.id, .str d2.nick, .int .u32 d3.id, .str d3.nick]))) (by obtain ⟨a0, b0⟩ := d0; obtain ⟨a1, b1⟩ := d1; obtain ⟨a2, b2⟩ := d2; obtain ⟨a3, b3⟩ := d3; unfold treeAll4; simp [DT.sat])) fun r h hq => by
    unfold obsR at hq
    split at hq
    · simp only [Prod.mk.injEq, V.slice.injEq] at hq
      obtain ⟨⟨rfl, rfl, rfl, rfl, rfl⟩, hr, hb⟩ := hq
      obtain ⟨ws, ids, h1, h2, h3, h4, h5⟩ := readLogX_ok hr
      exact ends_s h1 h2 h3 h4 (by decide) (h5 _ (by simp)) hb rfl (flats_devs [d0, d1, d2, d3])
    · rename_i hne
      simp only [Prod.mk.injEq] at hq
      exact absurd hq.1 (hne _ _ _ _ _)
def treeAll5 (me : Int) (d0 d1 d2 d3 d4 : Gw.Device) (s0 s1 s2 s3 s4 : Int) : DT (V × Option Gw.Log × Option Blk) :=
  .leaf (.slice 10 0 5 2 none, some (⟨me, some [⟨d0.id, d0.nick⟩, ⟨d1.id, d1.nick⟩, ⟨d2.id, d2.nick⟩, ⟨d3.id, d3.nick⟩, ⟨d4.id, d4.nick⟩], some [s0, s1, s2, s3, s4], none⟩ : Gw.Log), some (.cells false [.int .u32 d0.id, .str d0.nick, .int .u32 d1.id, .str d1.nick, .int .u32 d2.id, .str d2.nick, .int .u32 d3.id, .str d3.nick, .int .u32 d4.id, .str d4.nick]))
set_option maxRecDepth 1000000 in
theorem treeAll5_eq (me : Int) (d0 d1 d2 d3 d4 : Gw.Device) (s0 s1 s2 s3 s4 : Int) : funT (mkXT pxM noOX) (mkXP pxM) (mkX pxM noOX) D (fun _ => noOrc) (fun _ => []) 12 noOrc [] noLt (dOf 51) [.ptr 3 0] (((openAt (smallH [.o 0 (.log ⟨me, some [d0, d1, d2, d3, d4], some [s0, s1, s2, s3, s4], none⟩)]) 3 (.log ⟨me, some [d0, d1, d2, d3, d4], some [s0, s1, s2, s3, s4], none⟩)).put 4 (some (.cells false ([d0, d1, d2, d3, d4].flatMap Gw.Device.vs)))).put 5 (some (.cells false ([s0, s1, s2, s3, s4].map (V.int .i64))))) (obsR readLogX) = treeAll5 me d0 d1 d2 d3 d4 s0 s1 s2 s3 s4 := by kernel_rfl
theorem runAll5 (me : Int) (d0 d1 d2 d3 d4 : Gw.Device) (s0 s1 s2 s3 s4 : Int) : Run Tryz.prog 51 [.ptr 3 0] (((openAt (smallH [.o 0 (.log ⟨me, some [d0, d1, d2, d3, d4], some [s0, s1, s2, s3, s4], none⟩)]) 3 (.log ⟨me, some [d0, d1, d2, d3, d4], some [s0, s1, s2, s3, s4], none⟩)).put 4 (some (.cells false ([d0, d1, d2, d3, d4].flatMap Gw.Device.vs)))).put 5 (some (.cells false ([s0, s1, s2, s3, s4].map (V.int .i64))))) fun r h => Gw.Ends [.o 0 (.log ⟨me, some [d0, d1, d2, d3, d4], some [s0, s1, s2, s3, s4], none⟩)] [.log ⟨me, some [d0, d1, d2, d3, d4], some [s0, s1, s2, s3, s4], none⟩] [.devs [d0, d1, d2, d3, d4]] [.s 0 5 2] r h :=
  runMono (run_plainU mixed tabM tabD (dIs (by kernel_rfl)) (treeAll5_eq me d0 d1 d2 d3 d4 s0 s1 s2 s3 s4) (Q := fun p => p = (.slice 10 0 5 2 none, some (⟨me, some [d0, d1, d2, d3, d4], some [s0, s1, s2, s3, s4], none⟩ : Gw.Log), some (.cells false [.int .u32 d0.id, .str d0.nick, .int .u32 d1.id, .str d1.nick, .int .u32 d2.id, .str d2.nick, .int .u32 d3.id, .str d3.nick, .int .u32 d4.id, .str d4.nick]))) (by obtain ⟨a0, b0⟩ := d0; obtain ⟨a1, b1⟩ := d1; obtain ⟨a2, b2⟩ := d2; obtain ⟨a3, b3⟩ := d3; obtain ⟨a4, b4⟩ := d4; unfold treeAll5; simp [DT.sat])) fun r h hq => by
    unfold obsR at hq
    split at hq
    · simp only [Prod.mk.injEq, V.slice.injEq] at hq
      obtain ⟨⟨rfl, rfl, rfl, rfl, rfl⟩, hr, hb⟩ := hq
      obtain ⟨ws, ids, h1, h2, h3, h4, h5⟩ := readLogX_ok hr
      exact ends_s h1 h2 h3 h4 (by decide) (h5 _ (by simp)) hb rfl (flats_devs [d0, d1, d2, d3, d4])
    · rename_i hne
      simp only [Prod.mk.injEq] at hq
      exact absurd hq.1 (hne _ _ _ _ _)
def treeAll6 (me : Int) (d0 d1 d2 d3 d4 d5 : Gw.Device) (s0 s1 s2 s3 s4 s5 : Int) : DT (V × Option Gw.Log × Option Blk) :=
  .leaf (.slice 10 0 6 2 none, some (⟨me, some [⟨d0.id, d0.nick⟩, ⟨d1.id, d1.nick⟩, ⟨d2.id, d2.nick⟩, ⟨d3.id, d3.nick⟩, ⟨d4.id, d4.nick⟩, ⟨d5.id, d5.nick⟩], some [s0, s1, s2, s3, s4, s5], none⟩ : Gw.Log), some (.cells false [.int .u32 d0.id, .str d0.nick, .int .u32 d1.id, .str d1.nick, .int .u32 d2.id, .str d2.nick, .int .u32 d3.id, .str d3.nick, .int .u32 d4.id, .str d4.nick, .int .u32 d5.id, .str d5.nick]))
set_option maxRecDepth 1000000 in
theorem treeAll6_eq (me : Int) (d0 d1 d2 d3 d4 d5 : Gw.Device) (s0 s1 s2 s3 s4 s5 : Int) : funT (mkXT pxM noOX) (mkXP pxM) (mkX pxM noOX) D (fun _ => noOrc) (fun _ => []) 12 noOrc [] noLt (dOf 51) [.ptr 3 0] (((openAt (smallH [.o 0 (.log ⟨me, some [d0, d1, d2, d3, d4, d5], some [s0, s1, s2, s3, s4, s5], none⟩)]) 3 (.log ⟨me, some [d0, d1, d2, d3, d4, d5], some [s0, s1, s2, s3, s4, s5], none⟩)).put 4 (some (.cells false ([d0, d1, d2, d3, d4, d5].flatMap Gw.Device.vs)))).put 5 (some (.cells false ([s0, s1, s2, s3, s4, s5].map (V.int .i64))))) (obsR readLogX) = treeAll6 me d0 d1 d2 d3 d4 d5 s0 s1 s2 s3 s4 s5 := by kernel_rfl
theorem runAll6 (me : Int) (d0 d1 d2 d3 d4 d5 : Gw.Device) (s0 s1 s2 s3 s4 s5 : Int) : Run Tryz.prog 51 [.ptr 3 0] (((openAt (smallH [.o 0 (.log ⟨me, some [d0, d1, d2, d3, d4, d5], some [s0, s1, s2, s3, s4, s5], none⟩)]) 3 (.log ⟨me, some [d0, d1, d2, d3, d4, d5], some [s0, s1, s2, s3, s4, s5], none⟩)).put 4 (some (.cells false ([d0, d1, d2, d3, d4, d5].flatMap Gw.Device.vs)))).put 5 (some (.cells false ([s0, s1, s2, s3, s4, s5].map (V.int .i64))))) fun r h => Gw.Ends [.o 0 (.log ⟨me, some [d0, d1, d2, d3, d4, d5], some [s0, s1, s2, s3, s4, s5], none⟩)] [.log ⟨me, some [d0, d1, d2, d3, d4, d5], some [s0, s1, s2, s3, s4, s5], none⟩] [.devs [d0, d1, d2, d3, d4, d5]] [.s 0 6 2] r h :=
  runMono (run_plainU mixed tabM tabD (dIs (by kernel_rfl)) (treeAll6_eq me d0 d1 d2 d3 d4 d5 s0 s1 s2 s3 s4 s5) (Q := fun p => p = (.slice 10 0 6 2 none, some (⟨me, some [d0, d1, d2, d3, d4, d5], some [s0, s1, s2, s3, s4, s5], none⟩ : Gw.Log), some (.cells false [.int .u32 d0.id, .str d0.nick, .int .u32 d1.id, .str d1.nick, .int .u32 d2.id, .str d2.nick, .int .u32 d3.id, .str d3.nick, .int .u32 d4.id, .str d4.nick, .int .u32 d5.id, .str d5.nick]))) (by obtain ⟨a0, b0⟩ := d0; obtain ⟨a1, b1⟩ := d1; obtain ⟨a2, b2⟩ := d2; obtain ⟨a3, b3⟩ := d3; obtain ⟨a4, b4⟩ := d4; obtain ⟨a5, b5⟩ := d5; unfold treeAll6; simp [DT.sat])) fun r h hq => by
    unfold obsR at hq
    split at hq
    · simp only [Prod.mk.injEq, V.slice.injEq] at hq
      obtain ⟨⟨rfl, rfl, rfl, rfl, rfl⟩, hr, hb⟩ := hq
      obtain ⟨ws, ids, h1, h2, h3, h4, h5⟩ := readLogX_ok hr
      exact ends_s h1 h2 h3 h4 (by decide) (h5 _ (by simp)) hb rfl (flats_devs [d0, d1, d2, d3, d4, d5])
    · rename_i hne
      simp only [Prod.mk.injEq] at hq
      exact absurd hq.1 (hne _ _ _ _ _)
def treeAll7 (me : Int) (d0 d1 d2 d3 d4 d5 d6 : Gw.Device) (s0 s1 s2 s3 s4 s5 s6 : Int) : DT (V × Option Gw.Log × Option Blk) :=
  .leaf (.slice 10 0 7 2 none, some (⟨me, some [⟨d0.id, d0.nick⟩, ⟨d1.id, d1.nick⟩, ⟨d2.id, d2.nick⟩, ⟨d3.id, d3.nick⟩, ⟨d4.id, d4.nick⟩, ⟨d5.id, d5.nick⟩, ⟨d6.id, d6.nick⟩], some [s0, s1, s2, s3, s4, s5, s6], none⟩ : Gw.Log), some (.cells false [.int .u32 d0.id, .str d0.nick, .int .u32 d1.id, .str d1.nick, .int .u32 d2.id, .str d2.nick, .int .u32 d3.id, .str d3.nick, .int .u32 d4.id, .str d4.nick, .int .u32 d5.id, .str d5.nick, .int .u32 d6.id, .str d6.nick]))
set_option maxRecDepth 1000000 in
theorem treeAll7_eq (me : Int) (d0 d1 d2 d3 d4 d5 d6 : Gw.Device) (s0 s1 s2 s3 s4 s5 s6 : Int) : funT (mkXT pxM noOX) (mkXP pxM) (mkX pxM noOX) D (fun _ => noOrc) (fun _ => []) 12 noOrc [] noLt (dOf 51) [.ptr 3 0] (((openAt (smallH [.o 0 (.log ⟨me, some [d0, d1, d2, d3, d4, d5, d6], some [s0, s1, s2, s3, s4, s5, s6], none⟩)]) 3 (.log ⟨me, some [d0, d1, d2, d3, d4, d5, d6], some [s0, s1, s2, s3, s4, s5, s6], none⟩)).put 4 (some (.cells false ([d0, d1, d2, d3, d4, d5, d6].flatMap Gw.Device.vs)))).put 5 (some (.cells false ([s0, s1, s2, s3, s4, s5, s6].map (V.int .i64))))) (obsR readLogX) = treeAll7 me d0 d1 d2 d3 d4 d5 d6 s0 s1 s2 s3 s4 s5 s6 := by kernel_rfl
theorem runAll7 (me : Int) (d0 d1 d2 d3 d4 d5 d6 : Gw.Device) (s0 s1 s2 s3 s4 s5 s6 : Int) : Run Tryz.prog 51 [.ptr 3 0] (((openAt (smallH [.o 0 (.log ⟨me, some [d0, d1, d2, d3, d4, d5, d6], some [s0, s1, s2, s3, s4, s5, s6], none⟩)]) 3 (.log ⟨me, some [d0, d1, d2, d3, d4, d5, d6], some [s0, s1, s2, s3, s4, s5, s6], none⟩)).put 4 (some (.cells false ([d0, d1, d2, d3, d4, d5, d6].flatMap Gw.Device.vs)))).put 5 (some (.cells false ([s0, s1, s2, s3, s4, s5, s6].map (V.int .i64))))) fun r h => Gw.Ends [.o 0 (.log ⟨me, some [d0, d1, d2, d3, d4, d5, d6], some [s0, s1, s2, s3, s4, s5, s6], none⟩)] [.log ⟨me, some [d0, d1, d2, d3, d4, d5, d6], some [s0, s1, s2, s3, s4, s5, s6], none⟩] [.devs [d0, d1, d2, d3, d4, d5, d6]] [.s 0 7 2] r h :=
  runMono (run_plainU mixed tabM tabD (dIs (by kernel_rfl)) (treeAll7_eq me d0 d1 d2 d3 d4 d5 d6 s0 s1 s2 s3 s4 s5 s6) (Q := fun p => p = (.slice 10 0 7 2 none, some (⟨me, some [d0, d1, d2, d3, d4, d5, d6], some [s0, s1, s2, s3, s4, s5, s6], none⟩ : Gw.Log), some (.cells false [.int .u32 d0.id, .str d0.nick, .int .u32 d1.id, .str d1.nick, .int .u32 d2.id, .str d2.nick, .int .u32 d3.id, .str d3.nick, .int .u32 d4.id, .str d4.nick, .int .u32 d5.id, .str d5.nick, .int .u32 d6.id, .str d6.nick]))) (by obtain ⟨a0, b0⟩ := d0; obtain ⟨a1, b1⟩ := d1; obtain ⟨a2, b2⟩ := d2; obtain ⟨a3, b3⟩ := d3; obtain ⟨a4, b4⟩ := d4; obtain ⟨a5, b5⟩ := d5; obtain ⟨a6, b6⟩ := d6; unfold treeAll7; simp [DT.sat])) fun r h hq => by
    unfold obsR at hq
    split at hq
    · simp only [Prod.mk.injEq, V.slice.injEq] at hq
      obtain ⟨⟨rfl, rfl, rfl, rfl, rfl⟩, hr, hb⟩ := hq
      obtain ⟨ws, ids, h1, h2, h3, h4, h5⟩ := readLogX_ok hr
      exact ends_s h1 h2 h3 h4 (by decide) (h5 _ (by simp)) hb rfl (flats_devs [d0, d1, d2, d3, d4, d5, d6])
    · rename_i hne
      simp only [Prod.mk.injEq] at hq
      exact absurd hq.1 (hne _ _ _ _ _)
def treeAll8 (me : Int) (d0 d1 d2 d3 d4 d5 d6 d7 : Gw.Device) (s0 s1 s2 s3 s4 s5 s6 s7 : Int) : DT (V × Option Gw.Log × Option Blk) :=
  .leaf (.slice 10 0 8 2 none, some (⟨me, some [⟨d0.id, d0.nick⟩, ⟨d1.id, d1.nick⟩, ⟨d2.id, d2.nick⟩, ⟨d3.id, d3.nick⟩, ⟨d4.id, d4.nick⟩, ⟨d5.id, d5.nick⟩, ⟨d6.id, d6.nick⟩, ⟨d7.id, d7.nick⟩], some [s0, s1, s2, s3, s4, s5, s6, s7], none⟩ : Gw.Log), some (.cells false [.int .u32 d0.id, .str d0.nick, .int .u32 d1.id, .str d1.nick, .int .u32 d2.id, .str d2.nick, .int .u32 d3.id, .str d3.nick, .int .u32 d4.id, .str d4.nick, .int .u32 d5.id, .str d5.nick, .int .u32 d6.id, .str d6.nick, .int .u32 d7.id, .str d7.nick]))
set_option maxRecDepth 1000000 in
theorem treeAll8_eq (me : Int) (d0 d1 d2 d3 d4 d5 d6 d7 : Gw.Device) (s0 s1 s2 s3 s4 s5 s6 s7 : Int) : funT (mkXT pxM noOX) (mkXP pxM) (mkX pxM noOX) D (fun _ => noOrc) (fun _ => []) 12 noOrc [] noLt (dOf 51) [.ptr 3 0] (((openAt (smallH [.o 0 (.log ⟨me, some [d0, d1, d2, d3, d4, d5, d6, d7], some [s0, s1, s2, s3, s4, s5, s6, s7], none⟩)]) 3 (.log ⟨me, some [d0, d1, d2, d3, d4, d5, d6, d7], some [s0, s1, s2, s3, s4, s5, s6, s7], none⟩)).put 4 (some (.cells false ([d0, d1, d2, d3, d4, d5, d6, d7].flatMap Gw.Device.vs)))).put 5 (some (.cells false ([s0, s1, s2, s3, s4, s5, s6, s7].map (V.int .i64))))) (obsR readLogX) = treeAll8 me d0 d1 d2 d3 d4 d5 d6 d7 s0 s1 s2 s3 s4 s5 s6 s7 := by kernel_rfl
theorem runAll8 (me : Int) (d0 d1 d2 d3 d4 d5 d6 d7 : Gw.Device) (s0 s1 s2 s3 s4 s5 s6 s7 : Int) : Run Tryz.prog 51 [.ptr 3 0] (((openAt (smallH [.o 0 (.log ⟨me, some [d0, d1, d2, d3, d4, d5, d6, d7], some [s0, s1, s2, s3, s4, s5, s6, s7], none⟩)]) 3 (.log ⟨me, some [d0, d1, d2, d3, d4, d5, d6, d7], some [s0, s1, s2, s3, s4, s5, s6, s7], none⟩)).put 4 (some (.cells false ([d0, d1, d2, d3, d4, d5, d6, d7].flatMap Gw.Device.vs)))).put 5 (some (.cells false ([s0, s1, s2, s3, s4, s5, s6, s7].map (V.int .i64))))) fun r h => Gw.Ends [.o 0 (.log ⟨me, some [d0, d1, d2, d3, d4, d5, d6, d7], some [s0, s1, s2, s3, s4, s5, s6, s7], none⟩)] [.log ⟨me, some [d0, d1, d2, d3, d4, d5, d6, d7], some [s0, s1, s2, s3, s4, s5, s6, s7], none⟩] [.devs [d0, d1, d2, d3, d4, d5, d6, d7]] [.s 0 8 2] r h :=
  runMono (run_plainU mixed tabM tabD (dIs (by kernel_rfl)) (treeAll8_eq me d0 d1 d2 d3 d4 d5 d6 d7 s0 s1 s2 s3 s4 s5 s6 s7) (Q := fun p => p = (.slice 10 0 8 2 none, some (⟨me, some [d0, d1, d2, d3, d4, d5, d6, d7], some [s0, s1, s2, s3, s4, s5, s6, s7], none⟩ : Gw.Log), some (.cells false [.int .u32 d0.id, .str d0.nick, .int .u32 d1.id, .str d1.nick, .int .u32 d2.id, .str d2.nick, .int .u32 d3.id, .str d3.nick, .int .u32 d4.id, .str d4.nick, .int .u32 d5.id, .str d5.nick, .int .u32 d6.id, .str d6.nick, .int .u32 d7.id, .str d7.nick]))) (by obtain ⟨a0, b0⟩ := d0; obtain ⟨a1, b1⟩ := d1; obtain ⟨a2, b2⟩ := d2; obtain ⟨a3, b3⟩ := d3; obtain ⟨a4, b4⟩ := d4; obtain ⟨a5, b5⟩ := d5; obtain ⟨a6, b6⟩ := d6; obtain ⟨a7, b7⟩ := d7; unfold treeAll8; simp [DT.sat])) fun r h hq => by
    unfold obsR at hq
    split at hq
    · simp only [Prod.mk.injEq, V.slice.injEq] at hq
      obtain ⟨⟨rfl, rfl, rfl, rfl, rfl⟩, hr, hb⟩ := hq
      obtain ⟨ws, ids, h1, h2, h3, h4, h5⟩ := readLogX_ok hr
      exact ends_s h1 h2 h3 h4 (by decide) (h5 _ (by simp)) hb rfl (flats_devs [d0, d1, d2, d3, d4, d5, d6, d7])
    · rename_i hne
      simp only [Prod.mk.injEq] at hq
      exact absurd hq.1 (hne _ _ _ _ _)
def treeAll9 (me : Int) (d0 d1 d2 d3 d4 d5 d6 d7 d8 : Gw.Device) (s0 s1 s2 s3 s4 s5 s6 s7 s8 : Int) : DT (V × Option Gw.Log × Option Blk) :=
  .leaf (.slice 10 0 9 2 none, some (⟨me, some [⟨d0.id, d0.nick⟩, ⟨d1.id, d1.nick⟩, ⟨d2.id, d2.nick⟩, ⟨d3.id, d3.nick⟩, ⟨d4.id, d4.nick⟩, ⟨d5.id, d5.nick⟩, ⟨d6.id, d6.nick⟩, ⟨d7.id, d7.nick⟩, ⟨d8.id, d8.nick⟩], some [s0, s1, s2, s3, s4, s5, s6, s7, s8], none⟩ : Gw.Log), some (.cells false [.int .u32 d0.id, .str d0.nick, .int .u32 d1.id, .str d1.nick, .int .u32 d2.id, .str d2.nick, .int .u32 d3.id, .str d3.nick, .int .u32 d4.id, .str d4.nick, .int .u32 d5.id, .str d5.nick, .int .u32 d6.id, .str d6.nick, .int .u32 d7.id, .str d7.nick, .int .u32 d8.id, .str d8.nick]))
set_option maxRecDepth 1000000 in
theorem treeAll9_eq (me : Int) (d0 d1 d2 d3 d4 d5 d6 d7 d8 : Gw.Device) (s0 s1 s2 s3 s4 s5 s6 s7 s8 : Int) : funT (mkXT pxM noOX) (mkXP pxM) (mkX pxM noOX) D (fun _ => noOrc) (fun _ => []) 12 noOrc [] noLt (dOf 51) [.ptr 3 0] (((openAt (smallH [.o 0 (.log ⟨me, some [d0, d1, d2, d3, d4, d5, d6, d7, d8], some [s0, s1, s2, s3, s4, s5, s6, s7, s8], none⟩)]) 3 (.log ⟨me, some [d0, d1, d2, d3, d4, d5, d6, d7, d8], some [s0, s1, s2, s3, s4, s5, s6, s7, s8], none⟩)).put 4 (some (.cells false ([d0, d1, d2, d3, d4, d5, d6, d7, d8].flatMap Gw.Device.vs)))).put 5 (some (.cells false ([s0, s1, s2, s3, s4, s5, s6, s7, s8].map (V.int .i64))))) (obsR readLogX) = treeAll9 me d0 d1 d2 d3 d4 d5 d6 d7 d8 s0 s1 s2 s3 s4 s5 s6 s7 s8 := by kernel_rfl
theorem runAll9 (me : Int) (d0 d1 d2 d3 d4 d5 d6 d7 d8 : Gw.Device) (s0 s1 s2 s3 s4 s5 s6 s7 s8 : Int) : Run Tryz.prog 51 [.ptr 3 0] (((openAt (smallH [.o 0 (.log ⟨me, some [d0, d1, d2, d3, d4, d5, d6, d7, d8], some [s0, s1, s2, s3, s4, s5, s6, s7, s8], none⟩)]) 3 (.log ⟨me, some [d0, d1, d2, d3, d4, d5, d6, d7, d8], some [s0, s1, s2, s3, s4, s5, s6, s7, s8], none⟩)).put 4 (some (.cells false ([d0, d1, d2, d3, d4, d5, d6, d7, d8].flatMap Gw.Device.vs)))).put 5 (some (.cells false ([s0, s1, s2, s3, s4, s5, s6, s7, s8].map (V.int .i64))))) fun r h => Gw.Ends [.o 0 (.log ⟨me, some [d0, d1, d2, d3, d4, d5, d6, d7, d8], some [s0, s1, s2, s3, s4, s5, s6, s7, s8], none⟩)] [.log ⟨me, some [d0, d1, d2, d3, d4, d5, d6, d7, d8], some [s0, s1, s2, s3, s4, s5, s6, s7, s8], none⟩] [.devs [d0, d1, d2, d3, d4, d5, d6, d7, d8]] [.s 0 9 2] r h :=
  runMono (run_plainU mixed tabM tabD (dIs (by kernel_rfl)) (treeAll9_eq me d0 d1 d2 d3 d4 d5 d6 d7 d8 s0 s1 s2 s3 s4 s5 s6 s7 s8) (Q := fun p => p = (.slice 10 0 9 2 none, some (⟨me, some [d0, d1, d2, d3, d4, d5, d6, d7, d8], some [s0, s1, s2, s3, s4, s5, s6, s7, s8], none⟩ : Gw.Log), some (.cells false [.int .u32 d0.id, .str d0.nick, .int .u32 d1.id, .str d1.nick, .int .u32 d2.id, .str d2.nick, .int .u32 d3.id, .str d3.nick, .int .u32 d4.id, .str d4.nick, .int .u32 d5.id, .str d5.nick, .int .u32 d6.id, .str d6.nick, .int .u32 d7.id, .str d7.nick, .int .u32 d8.id, .str d8.nick]))) (by obtain ⟨a0, b0⟩ := d0; obtain ⟨a1, b1⟩ := d1; obtain ⟨a2, b2⟩ := d2; obtain ⟨a3, b3⟩ := d3; obtain ⟨a4, b4⟩ := d4; obtain ⟨a5, b5⟩ := d5; obtain ⟨a6, b6⟩ := d6; obtain ⟨a7, b7⟩ := d7; obtain ⟨a8, b8⟩ := d8; unfold treeAll9; simp [DT.sat])) fun r h hq => by
    unfold obsR at hq
    split at hq
    · simp only [Prod.mk.injEq, V.slice.injEq] at hq
      obtain ⟨⟨rfl, rfl, rfl, rfl, rfl⟩, hr, hb⟩ := hq
      obtain ⟨ws, ids, h1, h2, h3, h4, h5⟩ := readLogX_ok hr
      exact ends_s h1 h2 h3 h4 (by decide) (h5 _ (by simp)) hb rfl (flats_devs [d0, d1, d2, d3, d4, d5, d6, d7, d8])
    · rename_i hne
      simp only [Prod.mk.injEq] at hq
      exact absurd hq.1 (hne _ _ _ _ _)
def treeAll10 (me : Int) (d0 d1 d2 d3 d4 d5 d6 d7 d8 d9 : Gw.Device) (s0 s1 s2 s3 s4 s5 s6 s7 s8 s9 : Int) : DT (V × Option Gw.Log × Option Blk) :=
  .leaf (.slice 10 0 10 2 none, some (⟨me, some [⟨d0.id, d0.nick⟩, ⟨d1.id, d1.nick⟩, ⟨d2.id, d2.nick⟩, ⟨d3.id, d3.nick⟩, ⟨d4.id, d4.nick⟩, ⟨d5.id, d5.nick⟩, ⟨d6.id, d6.nick⟩, ⟨d7.id, d7.nick⟩, ⟨d8.id, d8.nick⟩, ⟨d9.id, d9.nick⟩], some [s0, s1, s2, s3, s4, s5, s6, s7, s8, s9], none⟩ : Gw.Log), some (.cells false [.int .u32 d0.id, .str d0.nick, .int .u32 d1.id, .str d1.nick, .int .u32 d2.id, .str d2.nick, .int .u32 d3.id, .str d3.nick, .int .u32 d4.id, .str d4.nick, .int .u32 d5.id, .str d5.nick, .int .u32 d6.id, .str d6.nick, .int .u32 d7.id, .str d7.nick, .int .u32 d8.id, .str d8.nick, .int .u32 d9.id, .str d9.nick]))
set_option maxRecDepth 1000000 in
theorem treeAll10_eq (me : Int) (d0 d1 d2 d3 d4 d5 d6 d7 d8 d9 : Gw.Device) (s0 s1 s2 s3 s4 s5 s6 s7 s8 s9 : Int) : funT (mkXT pxM noOX) (mkXP pxM) (mkX pxM noOX) D (fun _ => noOrc) (fun _ => []) 12 noOrc [] noLt (dOf 51) [.ptr 3 0] (((openAt (smallH [.o 0 (.log ⟨me, some [d0, d1, d2, d3, d4, d5, d6, d7, d8, d9], some [s0, s1, s2, s3, s4, s5, s6, s7, s8, s9], none⟩)]) 3 (.log ⟨me, some [d0, d1, d2, d3, d4, d5, d6, d7, d8, d9], some [s0, s1, s2, s3, s4, s5, s6, s7, s8, s9], none⟩)).put 4 (some (.cells false ([d0, d1, d2, d3, d4, d5, d6, d7, d8, d9].flatMap Gw.Device.vs)))).put 5 (some (.cells false ([s0, s1, s2, s3, s4, s5, s6, s7, s8, s9].map (V.int .i64))))) (obsR readLogX) = treeAll10 me d0 d1 d2 d3 d4 d5 d6 d7 d8 d9 s0 s1 s2 s3 s4 s5 s6 s7 s8 s9 := by kernel_rfl
theorem runAll10 (me : Int) (d0 d1 d2 d3 d4 d5 d6 d7 d8 d9 : Gw.Device) (s0 s1 s2 s3 s4 s5 s6 s7 s8 s9 : Int) : Run Tryz.prog 51 [.ptr 3 0] (((openAt (smallH [.o 0 (.log ⟨me, some [d0, d1, d2, d3, d4, d5, d6, d7, d8, d9], some [s0, s1, s2, s3, s4, s5, s6, s7, s8, s9], none⟩)]) 3 (.log ⟨me, some [d0, d1, d2, d3, d4, d5, d6, d7, d8, d9], some [s0, s1, s2, s3, s4, s5, s6, s7, s8, s9], none⟩)).put 4 (some (.cells false ([d0, d1, d2, d3, d4, d5, d6, d7, d8, d9].flatMap Gw.Device.vs)))).put 5 (some (.cells false ([s0, s1, s2, s3, s4, s5, s6, s7, s8, s9].map (V.int .i64))))) fun r h => Gw.Ends [.o 0 (.log ⟨me, some [d0, d1, d2, d3, d4, d5, d6, d7, d8, d9], some [s0, s1, s2, s3, s4, s5, s6, s7, s8, s9], none⟩)] [.log ⟨me, some [d0, d1, d2, d3, d4, d5, d6, d7, d8, d9], some [s0, s1, s2, s3, s4, s5, s6, s7, s8, s9], none⟩] [.devs [d0, d1, d2, d3, d4, d5, d6, d7, d8, d9]] [.s 0 10 2] r h :=
  runMono (run_plainU mixed tabM tabD (dIs (by kernel_rfl)) (treeAll10_eq me d0 d1 d2 d3 d4 d5 d6 d7 d8 d9 s0 s1 s2 s3 s4 s5 s6 s7 s8 s9) (Q := fun p => p = (.slice 10 0 10 2 none, some (⟨me, some [d0, d1, d2, d3, d4, d5, d6, d7, d8, d9], some [s0, s1, s2, s3, s4, s5, s6, s7, s8, s9], none⟩ : Gw.Log), some (.cells false [.int .u32 d0.id, .str d0.nick, .int .u32 d1.id, .str d1.nick, .int .u32 d2.id, .str d2.nick, .int .u32 d3.id, .str d3.nick, .int .u32 d4.id, .str d4.nick, .int .u32 d5.id, .str d5.nick, .int .u32 d6.id, .str d6.nick, .int .u32 d7.id, .str d7.nick, .int .u32 d8.id, .str d8.nick, .int .u32 d9.id, .str d9.nick]))) (by obtain ⟨a0, b0⟩ := d0; obtain ⟨a1, b1⟩ := d1; obtain ⟨a2, b2⟩ := d2; obtain ⟨a3, b3⟩ := d3; obtain ⟨a4, b4⟩ := d4; obtain ⟨a5, b5⟩ := d5; obtain ⟨a6, b6⟩ := d6; obtain ⟨a7, b7⟩ := d7; obtain ⟨a8, b8⟩ := d8; obtain ⟨a9, b9⟩ := d9; unfold treeAll10; simp [DT.sat])) fun r h hq => by
    unfold obsR at hq
    split at hq
    · simp only [Prod.mk.injEq, V.slice.injEq] at hq
      obtain ⟨⟨rfl, rfl, rfl, rfl, rfl⟩, hr, hb⟩ := hq
      obtain ⟨ws, ids, h1, h2, h3, h4, h5⟩ := readLogX_ok hr
      exact ends_s h1 h2 h3 h4 (by decide) (h5 _ (by simp)) hb rfl (flats_devs [d0, d1, d2, d3, d4, d5, d6, d7, d8, d9])
    · rename_i hne
      simp only [Prod.mk.injEq] at hq
      exact absurd hq.1 (hne _ _ _ _ _)
def treeAll11 (me : Int) (d0 d1 d2 d3 d4 d5 d6 d7 d8 d9 d10 : Gw.Device) (s0 s1 s2 s3 s4 s5 s6 s7 s8 s9 s10 : Int) : DT (V × Option Gw.Log × Option Blk) :=
  .leaf (.slice 10 0 11 2 none, some (⟨me, some [⟨d0.id, d0.nick⟩, ⟨d1.id, d1.nick⟩, ⟨d2.id, d2.nick⟩, ⟨d3.id, d3.nick⟩, ⟨d4.id, d4.nick⟩, ⟨d5.id, d5.nick⟩, ⟨d6.id, d6.nick⟩, ⟨d7.id, d7.nick⟩, ⟨d8.id, d8.nick⟩, ⟨d9.id, d9.nick⟩, ⟨d10.id, d10.nick⟩], some [s0, s1, s2, s3, s4, s5, s6, s7, s8, s9, s10], none⟩ : Gw.Log), some (.cells false [.int .u32 d0.id, .str d0.nick, .int .u32 d1.id, .str d1.nick, .int .u32 d2.id, .str d2.nick, .int .u32 d3.id, .str d3.nick, .int .u32 d4.id, .str d4.nick, .int .u32 d5.id, .str d5.nick, .int .u32 d6.id, .str d6.nick, .int .u32 d7.id, .str d7.nick, .int .u32 d8.id, .str d8.nick, .int .u32 d9.id, .str d9.nick, .int .u32 d10.id, .str d10.nick]))
set_option maxRecDepth 1000000 in
theorem treeAll11_eq (me : Int) (d0 d1 d2 d3 d4 d5 d6 d7 d8 d9 d10 : Gw.Device) (s0 s1 s2 s3 s4 s5 s6 s7 s8 s9 s10 : Int) : funT (mkXT pxM noOX) (mkXP pxM) (mkX pxM noOX) D (fun _ => noOrc) (fun _ => []) 12 noOrc [] noLt (dOf 51) [.ptr 3 0] (((openAt (smallH [.o 0 (.log ⟨me, some [d0, d1, d2, d3, d4, d5, d6, d7, d8, d9, d10], some [s0, s1, s2, s3, s4, s5, s6, s7, s8, s9, s10], none⟩)]) 3 (.log ⟨me, some [d0, d1, d2, d3, d4, d5, d6, d7, d8, d9, d10], some [s0, s1, s2, s3, s4, s5, s6, s7, s8, s9, s10], none⟩)).put 4 (some (.cells false ([d0, d1, d2, d3, d4, d5, d6, d7, d8, d9, d10].flatMap Gw.Device.vs)))).put 5 (some (.cells false ([s0, s1, s2, s3, s4, s5, s6, s7, s8, s9, s10].map (V.int .i64))))) (obsR readLogX) = treeAll11 me d0 d1 d2 d3 d4 d5 d6 d7 d8 d9 d10 s0 s1 s2 s3 s4 s5 s6 s7 s8 s9 s10 := by kernel_rfl
theorem runAll11 (me : Int) (d0 d1 d2 d3 d4 d5 d6 d7 d8 d9 d10 : Gw.Device) (s0 s1 s2 s3 s4 s5 s6 s7 s8 s9 s10 : Int) : Run Tryz.prog 51 [.ptr 3 0] (((openAt (smallH [.o 0 (.log ⟨me, some [d0, d1, d2, d3, d4, d5, d6, d7, d8, d9, d10], some [s0, s1, s2, s3, s4, s5, s6, s7, s8, s9, s10], none⟩)]) 3 (.log ⟨me, some [d0, d1, d2, d3, d4, d5, d6, d7, d8, d9, d10], some [s0, s1, s2, s3, s4, s5, s6, s7, s8, s9, s10], none⟩)).put 4 (some (.cells false ([d0, d1, d2, d3, d4, d5, d6, d7, d8, d9, d10].flatMap Gw.Device.vs)))).put 5 (some (.cells false ([s0, s1, s2, s3, s4, s5, s6, s7, s8, s9, s10].map (V.int .i64))))) fun r h => Gw.Ends [.o 0 (.log ⟨me, some [d0, d1, d2, d3, d4, d5, d6, d7, d8, d9, d10], some [s0, s1, s2, s3, s4, s5, s6, s7, s8, s9, s10], none⟩)] [.log ⟨me, some [d0, d1, d2, d3, d4, d5, d6, d7, d8, d9, d10], some [s0, s1, s2, s3, s4, s5, s6, s7, s8, s9, s10], none⟩] [.devs [d0, d1, d2, d3, d4, d5, d6, d7, d8, d9, d10]] [.s 0 11 2] r h :=
  runMono (run_plainU mixed tabM tabD (dIs (by kernel_rfl)) (treeAll11_eq me d0 d1 d2 d3 d4 d5 d6 d7 d8 d9 d10 s0 s1 s2 s3 s4 s5 s6 s7 s8 s9 s10) (Q := fun p => p = (.slice 10 0 11 2 none, some (⟨me, some [d0, d1, d2, d3, d4, d5, d6, d7, d8, d9, d10], some [s0, s1, s2, s3, s4, s5, s6, s7, s8, s9, s10], none⟩ : Gw.Log), some (.cells false [.int .u32 d0.id, .str d0.nick, .int .u32 d1.id, .str d1.nick, .int .u32 d2.id, .str d2.nick, .int .u32 d3.id, .str d3.nick, .int .u32 d4.id, .str d4.nick, .int .u32 d5.id, .str d5.nick, .int .u32 d6.id, .str d6.nick, .int .u32 d7.id, .str d7.nick, .int .u32 d8.id, .str d8.nick, .int .u32 d9.id, .str d9.nick, .int .u32 d10.id, .str d10.nick]))) (by obtain ⟨a0, b0⟩ := d0; obtain ⟨a1, b1⟩ := d1; obtain ⟨a2, b2⟩ := d2; obtain ⟨a3, b3⟩ := d3; obtain ⟨a4, b4⟩ := d4; obtain ⟨a5, b5⟩ := d5; obtain ⟨a6, b6⟩ := d6; obtain ⟨a7, b7⟩ := d7; obtain ⟨a8, b8⟩ := d8; obtain ⟨a9, b9⟩ := d9; obtain ⟨a10, b10⟩ := d10; unfold treeAll11; simp [DT.sat])) fun r h hq => by
    unfold obsR at hq
    split at hq
    · simp only [Prod.mk.injEq, V.slice.injEq] at hq
      obtain ⟨⟨rfl, rfl, rfl, rfl, rfl⟩, hr, hb⟩ := hq
      obtain ⟨ws, ids, h1, h2, h3, h4, h5⟩ := readLogX_ok hr
      exact ends_s h1 h2 h3 h4 (by decide) (h5 _ (by simp)) hb rfl (flats_devs [d0, d1, d2, d3, d4, d5, d6, d7, d8, d9, d10])
    · rename_i hne
      simp only [Prod.mk.injEq] at hq
      exact absurd hq.1 (hne _ _ _ _ _)
def treeAll12 (me : Int) (d0 d1 d2 d3 d4 d5 d6 d7 d8 d9 d10 d11 : Gw.Device) (s0 s1 s2 s3 s4 s5 s6 s7 s8 s9 s10 s11 : Int) : DT (V × Option Gw.Log × Option Blk) :=
  .leaf (.slice 10 0 12 2 none, some (⟨me, some [⟨d0.id, d0.nick⟩, ⟨d1.id, d1.nick⟩, ⟨d2.id, d2.nick⟩, ⟨d3.id, d3.nick⟩, ⟨d4.id, d4.nick⟩, ⟨d5.id, d5.nick⟩, ⟨d6.id, d6.nick⟩, ⟨d7.id, d7.nick⟩, ⟨d8.id, d8.nick⟩, ⟨d9.id, d9.nick⟩, ⟨d10.id, d10.nick⟩, ⟨d11.id, d11.nick⟩], some [s0, s1, s2, s3, s4, s5, s6, s7, s8, s9, s10, s11], none⟩ : Gw.Log), some (.cells false [.int .u32 d0.id, .str d0.nick, .int .u32 d1.id, .str d1.nick, .int .u32 d2.id, .str d2.nick, .int .u32 d3.id, .str d3.nick, .int .u32 d4.id, .str d4.nick, .int .u32 d5.id, .str d5.nick, .int .u32 d6.id, .str d6.nick, .int .u32 d7.id, .str d7.nick, .int .u32 d8.id, .str d8.nick, .int .u32 d9.id, .str d9.nick, .int .u32 d10.id, .str d10.nick, .int .u32 d11.id, .str d11.nick]))
set_option maxRecDepth 1000000 in
theorem treeAll12_eq (me : Int) (d0 d1 d2 d3 d4 d5 d6 d7 d8 d9 d10 d11 : Gw.Device) (s0 s1 s2 s3 s4 s5 s6 s7 s8 s9 s10 s11 : Int) : funT (mkXT pxM noOX) (mkXP pxM) (mkX pxM noOX) D (fun _ => noOrc) (fun _ => []) 12 noOrc [] noLt (dOf 51) [.ptr 3 0] (((openAt (smallH [.o 0 (.log ⟨me, some [d0, d1, d2, d3, d4, d5, d6, d7, d8, d9, d10, d11], some [s0, s1, s2, s3, s4, s5, s6, s7, s8, s9, s10, s11], none⟩)]) 3 (.log ⟨me, some [d0, d1, d2, d3, d4, d5, d6, d7, d8, d9, d10, d11], some [s0, s1, s2, s3, s4, s5, s6, s7, s8, s9, s10, s11], none⟩)).put 4 (some (.cells false ([d0, d1, d2, d3, d4, d5, d6, d7, d8, d9, d10, d11].flatMap Gw.Device.vs)))).put 5 (some (.cells false ([s0, s1, s2, s3, s4, s5, s6, s7, s8, s9, s10, s11].map (V.int .i64))))) (obsR readLogX) = treeAll12 me d0 d1 d2 d3 d4 d5 d6 d7 d8 d9 d10 d11 s0 s1 s2 s3 s4 s5 s6 s7 s8 s9 s10 s11 := by kernel_rfl
theorem runAll12 (me : Int) (d0 d1 d2 d3 d4 d5 d6 d7 d8 d9 d10 d11 : Gw.Device) (s0 s1 s2 s3 s4 s5 s6 s7 s8 s9 s10 s11 : Int) : Run Tryz.prog 51 [.ptr 3 0] (((openAt (smallH [.o 0 (.log ⟨me, some [d0, d1, d2, d3, d4, d5, d6, d7, d8, d9, d10, d11], some [s0, s1, s2, s3, s4, s5, s6, s7, s8, s9, s10, s11], none⟩)]) 3 (.log ⟨me, some [d0, d1, d2, d3, d4, d5, d6, d7, d8, d9, d10, d11], some [s0, s1, s2, s3, s4, s5, s6, s7, s8, s9, s10, s11], none⟩)).put 4 (some (.cells false ([d0, d1, d2, d3, d4, d5, d6, d7, d8, d9, d10, d11].flatMap Gw.Device.vs)))).put 5 (some (.cells false ([s0, s1, s2, s3, s4, s5, s6, s7, s8, s9, s10, s11].map (V.int .i64))))) fun r h => Gw.Ends [.o 0 (.log ⟨me, some [d0, d1, d2, d3, d4, d5, d6, d7, d8, d9, d10, d11], some [s0, s1, s2, s3, s4, s5, s6, s7, s8, s9, s10, s11], none⟩)] [.log ⟨me, some [d0, d1, d2, d3, d4, d5, d6, d7, d8, d9, d10, d11], some [s0, s1, s2, s3, s4, s5, s6, s7, s8, s9, s10, s11], none⟩] [.devs [d0, d1, d2, d3, d4, d5, d6, d7, d8, d9, d10, d11]] [.s 0 12 2] r h :=
  runMono (run_plainU mixed tabM tabD (dIs (by kernel_rfl)) (treeAll12_eq me d0 d1 d2 d3 d4 d5 d6 d7 d8 d9 d10 d11 s0 s1 s2 s3 s4 s5 s6 s7 s8 s9 s10 s11) (Q := fun p => p = (.slice 10 0 12 2 none, some (⟨me, some [d0, d1, d2, d3, d4, d5, d6, d7, d8, d9, d10, d11], some [s0, s1, s2, s3, s4, s5, s6, s7, s8, s9, s10, s11], none⟩ : Gw.Log), some (.cells false [.int .u32 d0.id, .str d0.nick, .int .u32 d1.id, .str d1.nick, .int .u32 d2.id, .str d2.nick, .int .u32 d3.id, .str d3.nick, .int .u32 d4.id, .str d4.nick, .int .u32 d5.id, .str d5.nick, .int .u32 d6.id, .str d6.nick, .int .u32 d7.id, .str d7.nick, .int .u32 d8.id, .str d8.nick, .int .u32 d9.id, .str d9.nick, .int .u32 d10.id, .str d10.nick, .int .u32 d11.id, .str d11.nick]))) (by obtain ⟨a0, b0⟩ := d0; obtain ⟨a1, b1⟩ := d1; obtain ⟨a2, b2⟩ := d2; obtain ⟨a3, b3⟩ := d3; obtain ⟨a4, b4⟩ := d4; obtain ⟨a5, b5⟩ := d5; obtain ⟨a6, b6⟩ := d6; obtain ⟨a7, b7⟩ := d7; obtain ⟨a8, b8⟩ := d8; obtain ⟨a9, b9⟩ := d9; obtain ⟨a10, b10⟩ := d10; obtain ⟨a11, b11⟩ := d11; unfold treeAll12; simp [DT.sat])) fun r h hq => by
    unfold obsR at hq
    split at hq
    · simp only [Prod.mk.injEq, V.slice.injEq] at hq
      obtain ⟨⟨rfl, rfl, rfl, rfl, rfl⟩, hr, hb⟩ := hq
      obtain ⟨ws, ids, h1, h2, h3, h4, h5⟩ := readLogX_ok hr
      exact ends_s h1 h2 h3 h4 (by decide) (h5 _ (by simp)) hb rfl (flats_devs [d0, d1, d2, d3, d4, d5, d6, d7, d8, d9, d10, d11])
    · rename_i hne
      simp only [Prod.mk.injEq] at hq
      exact absurd hq.1 (hne _ _ _ _ _)
def treeClash3_0 (me : Int) (d0 d1 d2 : Gw.Device) (s0 s1 s2 : Int) : DT (V × Option Gw.Log × Option Blk) :=
  .leaf (.nils, some (⟨me, some [⟨d0.id, d0.nick⟩, ⟨d1.id, d1.nick⟩, ⟨d2.id, d2.nick⟩], some [s0, s1, s2], none⟩ : Gw.Log), none)
set_option maxRecDepth 1000000 in
theorem treeClash3_0_eq (me : Int) (d0 d1 d2 : Gw.Device) (s0 s1 s2 : Int) : funT (mkXT pxM noOX) (mkXP pxM) (mkX pxM noOX) D (fun _ => noOrc) (fun _ => []) 12 noOrc [] noLt (dOf 38) [.ptr 3 0] (((openAt (smallH [.o 0 (.log ⟨me, some [d0, d1, d2], some [s0, s1, s2], none⟩)]) 3 (.log ⟨me, some [d0, d1, d2], some [s0, s1, s2], none⟩)).put 4 (some (.cells false ([d0, d1, d2].flatMap Gw.Device.vs)))).put 5 (some (.cells false ([s0, s1, s2].map (V.int .i64))))) (obsR readLogX) = treeClash3_0 me d0 d1 d2 s0 s1 s2 := by kernel_rfl
theorem runClash3_0 (me : Int) (d0 d1 d2 : Gw.Device) (s0 s1 s2 : Int) : Run Tryz.prog 38 [.ptr 3 0] (((openAt (smallH [.o 0 (.log ⟨me, some [d0, d1, d2], some [s0, s1, s2], none⟩)]) 3 (.log ⟨me, some [d0, d1, d2], some [s0, s1, s2], none⟩)).put 4 (some (.cells false ([d0, d1, d2].flatMap Gw.Device.vs)))).put 5 (some (.cells false ([s0, s1, s2].map (V.int .i64))))) fun r h => Gw.Ends [.o 0 (.log ⟨me, some [d0, d1, d2], some [s0, s1, s2], none⟩)] [.log ⟨me, some [d0, d1, d2], some [s0, s1, s2], none⟩] [] [.f .nils] r h :=
  runMono (run_plainU mixed tabM tabD (dIs (by kernel_rfl)) (treeClash3_0_eq me d0 d1 d2 s0 s1 s2) (Q := fun p => p = (.nils, some (⟨me, some [d0, d1, d2], some [s0, s1, s2], none⟩ : Gw.Log), none)) (by obtain ⟨a0, b0⟩ := d0; obtain ⟨a1, b1⟩ := d1; obtain ⟨a2, b2⟩ := d2; unfold treeClash3_0; simp [DT.sat])) fun r h hq => by
    unfold obsR at hq
    split at hq
    · simp only [Prod.mk.injEq, reduceCtorEq, false_and] at hq
    · simp only [Prod.mk.injEq] at hq
      obtain ⟨rfl, hr, _⟩ := hq
      obtain ⟨ws, ids, h1, h2, h3, h4, _⟩ := readLogX_ok hr
      exact ends_o h1 h2 h3 h4
def treeClash4_0 (me : Int) (d0 d1 d2 d3 : Gw.Device) (s0 s1 s2 s3 : Int) : DT (V × Option Gw.Log × Option Blk) :=
  .leaf (.nils, some (⟨me, some [⟨d0.id, d0.nick⟩, ⟨d1.id, d1.nick⟩, ⟨d2.id, d2.nick⟩, ⟨d3.id, d3.nick⟩], some [s0, s1, s2, s3], none⟩ : Gw.Log), none)
set_option maxRecDepth 1000000 in
theorem treeClash4_0_eq (me : Int) (d0 d1 d2 d3 : Gw.Device) (s0 s1 s2 s3 : Int) : funT (mkXT pxM noOX) (mkXP pxM) (mkX pxM noOX) D (fun _ => noOrc) (fun _ => []) 12 noOrc [] noLt (dOf 38) [.ptr 3 0] (((openAt (smallH [.o 0 (.log ⟨me, some [d0, d1, d2, d3], some [s0, s1, s2, s3], none⟩)]) 3 (.log ⟨me, some [d0, d1, d2, d3], some [s0, s1, s2, s3], none⟩)).put 4 (some (.cells false ([d0, d1, d2, d3].flatMap Gw.Device.vs)))).put 5 (some (.cells false ([s0, s1, s2, s3].map (V.int .i64))))) (obsR readLogX) = treeClash4_0 me d0 d1 d2 d3 s0 s1 s2 s3 := by kernel_rfl
theorem runClash4_0 (me : Int) (d0 d1 d2 d3 : Gw.Device) (s0 s1 s2 s3 : Int) : Run Tryz.prog 38 [.ptr 3 0] (((openAt (smallH [.o 0 (.log ⟨me, some [d0, d1, d2, d3], some [s0, s1, s2, s3], none⟩)]) 3 (.log ⟨me, some [d0, d1, d2, d3], some [s0, s1, s2, s3], none⟩)).put 4 (some (.cells false ([d0, d1, d2, d3].flatMap Gw.Device.vs)))).put 5 (some (.cells false ([s0, s1, s2, s3].map (V.int .i64))))) fun r h => Gw.Ends [.o 0 (.log ⟨me, some [d0, d1, d2, d3], some [s0, s1, s2, s3], none⟩)] [.log ⟨me, some [d0, d1, d2, d3], some [s0, s1, s2, s3], none⟩] [] [.f .nils] r h :=
  runMono (run_plainU mixed tabM tabD (dIs (by kernel_rfl)) (treeClash4_0_eq me d0 d1 d2 d3 s0 s1 s2 s3) (Q := fun p => p = (.nils, some (⟨me, some [d0, d1, d2, d3], some [s0, s1, s2, s3], none⟩ : Gw.Log), none)) (by obtain ⟨a0, b0⟩ := d0; obtain ⟨a1, b1⟩ := d1; obtain ⟨a2, b2⟩ := d2; obtain ⟨a3, b3⟩ := d3; unfold treeClash4_0; simp [DT.sat])) fun r h hq => by
    unfold obsR at hq
    split at hq
    · simp only [Prod.mk.injEq, reduceCtorEq, false_and] at hq
    · simp only [Prod.mk.injEq] at hq
      obtain ⟨rfl, hr, _⟩ := hq
      obtain ⟨ws, ids, h1, h2, h3, h4, _⟩ := readLogX_ok hr
      exact ends_o h1 h2 h3 h4
def treeClash5_0 (me : Int) (d0 d1 d2 d3 d4 : Gw.Device) (s0 s1 s2 s3 s4 : Int) : DT (V × Option Gw.Log × Option Blk) :=
  .leaf (.nils, some (⟨me, some [⟨d0.id, d0.nick⟩, ⟨d1.id, d1.nick⟩, ⟨d2.id, d2.nick⟩, ⟨d3.id, d3.nick⟩, ⟨d4.id, d4.nick⟩], some [s0, s1, s2, s3, s4], none⟩ : Gw.Log), none)
set_option maxRecDepth 1000000 in
theorem treeClash5_0_eq (me : Int) (d0 d1 d2 d3 d4 : Gw.Device) (s0 s1 s2 s3 s4 : Int) : funT (mkXT pxM noOX) (mkXP pxM) (mkX pxM noOX) D (fun _ => noOrc) (fun _ => []) 12 noOrc [] noLt (dOf 38) [.ptr 3 0] (((openAt (smallH [.o 0 (.log ⟨me, some [d0, d1, d2, d3, d4], some [s0, s1, s2, s3, s4], none⟩)]) 3 (.log ⟨me, some [d0, d1, d2, d3, d4], some [s0, s1, s2, s3, s4], none⟩)).put 4 (some (.cells false ([d0, d1, d2, d3, d4].flatMap Gw.Device.vs)))).put 5 (some (.cells false ([s0, s1, s2, s3, s4].map (V.int .i64))))) (obsR readLogX) = treeClash5_0 me d0 d1 d2 d3 d4 s0 s1 s2 s3 s4 := by kernel_rfl
theorem runClash5_0 (me : Int) (d0 d1 d2 d3 d4 : Gw.Device) (s0 s1 s2 s3 s4 : Int) : Run Tryz.prog 38 [.ptr 3 0] (((openAt (smallH [.o 0 (.log ⟨me, some [d0, d1, d2, d3, d4], some [s0, s1, s2, s3, s4], none⟩)]) 3 (.log ⟨me, some [d0, d1, d2, d3, d4], some [s0, s1, s2, s3, s4], none⟩)).put 4 (some (.cells false ([d0, d1, d2, d3, d4].flatMap Gw.Device.vs)))).put 5 (some (.cells false ([s0, s1, s2, s3, s4].map (V.int .i64))))) fun r h => Gw.Ends [.o 0 (.log ⟨me, some [d0, d1, d2, d3, d4], some [s0, s1, s2, s3, s4], none⟩)] [.log ⟨me, some [d0, d1, d2, d3, d4], some [s0, s1, s2, s3, s4], none⟩] [] [.f .nils] r h :=
  runMono (run_plainU mixed tabM tabD (dIs (by kernel_rfl)) (treeClash5_0_eq me d0 d1 d2 d3 d4 s0 s1 s2 s3 s4) (Q := fun p => p = (.nils, some (⟨me, some [d0, d1, d2, d3, d4], some [s0, s1, s2, s3, s4], none⟩ : Gw.Log), none)) (by obtain ⟨a0, b0⟩ := d0; obtain ⟨a1, b1⟩ := d1; obtain ⟨a2, b2⟩ := d2; obtain ⟨a3, b3⟩ := d3; obtain ⟨a4, b4⟩ := d4; unfold treeClash5_0; simp [DT.sat])) fun r h hq => by
    unfold obsR at hq
    split at hq
    · simp only [Prod.mk.injEq, reduceCtorEq, false_and] at hq
    · simp only [Prod.mk.injEq] at hq
      obtain ⟨rfl, hr, _⟩ := hq
      obtain ⟨ws, ids, h1, h2, h3, h4, _⟩ := readLogX_ok hr
      exact ends_o h1 h2 h3 h4
def treeClash6_0 (me : Int) (d0 d1 d2 d3 d4 d5 : Gw.Device) (s0 s1 s2 s3 s4 s5 : Int) : DT (V × Option Gw.Log × Option Blk) :=
  .leaf (.nils, some (⟨me, some [⟨d0.id, d0.nick⟩, ⟨d1.id, d1.nick⟩, ⟨d2.id, d2.nick⟩, ⟨d3.id, d3.nick⟩, ⟨d4.id, d4.nick⟩, ⟨d5.id, d5.nick⟩], some [s0, s1, s2, s3, s4, s5], none⟩ : Gw.Log), none)
set_option maxRecDepth 1000000 in
theorem treeClash6_0_eq (me : Int) (d0 d1 d2 d3 d4 d5 : Gw.Device) (s0 s1 s2 s3 s4 s5 : Int) : funT (mkXT pxM noOX) (mkXP pxM) (mkX pxM noOX) D (fun _ => noOrc) (fun _ => []) 12 noOrc [] noLt (dOf 38) [.ptr 3 0] (((openAt (smallH [.o 0 (.log ⟨me, some [d0, d1, d2, d3, d4, d5], some [s0, s1, s2, s3, s4, s5], none⟩)]) 3 (.log ⟨me, some [d0, d1, d2, d3, d4, d5], some [s0, s1, s2, s3, s4, s5], none⟩)).put 4 (some (.cells false ([d0, d1, d2, d3, d4, d5].flatMap Gw.Device.vs)))).put 5 (some (.cells false ([s0, s1, s2, s3, s4, s5].map (V.int .i64))))) (obsR readLogX) = treeClash6_0 me d0 d1 d2 d3 d4 d5 s0 s1 s2 s3 s4 s5 := by kernel_rfl
theorem runClash6_0 (me : Int) (d0 d1 d2 d3 d4 d5 : Gw.Device) (s0 s1 s2 s3 s4 s5 : Int) : Run Tryz.prog 38 [.ptr 3 0] (((openAt (smallH [.o 0 (.log ⟨me, some [d0, d1, d2, d3, d4, d5], some [s0, s1, s2, s3, s4, s5], none⟩)]) 3 (.log ⟨me, some [d0, d1, d2, d3, d4, d5], some [s0, s1, s2, s3, s4, s5], none⟩)).put 4 (some (.cells false ([d0, d1, d2, d3, d4, d5].flatMap Gw.Device.vs)))).put 5 (some (.cells false ([s0, s1, s2, s3, s4, s5].map (V.int .i64))))) fun r h => Gw.Ends [.o 0 (.log ⟨me, some [d0, d1, d2, d3, d4, d5], some [s0, s1, s2, s3, s4, s5], none⟩)] [.log ⟨me, some [d0, d1, d2, d3, d4, d5], some [s0, s1, s2, s3, s4, s5], none⟩] [] [.f .nils] r h :=
  runMono (run_plainU mixed tabM tabD (dIs (by kernel_rfl)) (treeClash6_0_eq me d0 d1 d2 d3 d4 d5 s0 s1 s2 s3 s4 s5) (Q := fun p => p = (.nils, some (⟨me, some [d0, d1, d2, d3, d4, d5], some [s0, s1, s2, s3, s4, s5], none⟩ : Gw.Log), none)) (by obtain ⟨a0, b0⟩ := d0; obtain ⟨a1, b1⟩ := d1; obtain ⟨a2, b2⟩ := d2; obtain ⟨a3, b3⟩ := d3; obtain ⟨a4, b4⟩ := d4; obtain ⟨a5, b5⟩ := d5; unfold treeClash6_0; simp [DT.sat])) fun r h hq => by
    unfold obsR at hq
    split at hq
    · simp only [Prod.mk.injEq, reduceCtorEq, false_and] at hq
    · simp only [Prod.mk.injEq] at hq
      obtain ⟨rfl, hr, _⟩ := hq
      obtain ⟨ws, ids, h1, h2, h3, h4, _⟩ := readLogX_ok hr
      exact ends_o h1 h2 h3 h4
def treeClash7_0 (me : Int) (d0 d1 d2 d3 d4 d5 d6 : Gw.Device) (s0 s1 s2 s3 s4 s5 s6 : Int) : DT (V × Option Gw.Log × Option Blk) :=
  .leaf (.nils, some (⟨me, some [⟨d0.id, d0.nick⟩, ⟨d1.id, d1.nick⟩, ⟨d2.id, d2.nick⟩, ⟨d3.id, d3.nick⟩, ⟨d4.id, d4.nick⟩, ⟨d5.id, d5.nick⟩, ⟨d6.id, d6.nick⟩], some [s0, s1, s2, s3, s4, s5, s6], none⟩ : Gw.Log), none)
set_option maxRecDepth 1000000 in
theorem treeClash7_0_eq (me : Int) (d0 d1 d2 d3 d4 d5 d6 : Gw.Device) (s0 s1 s2 s3 s4 s5 s6 : Int) : funT (mkXT pxM noOX) (mkXP pxM) (mkX pxM noOX) D (fun _ => noOrc) (fun _ => []) 12 noOrc [] noLt (dOf 38) [.ptr 3 0] (((openAt (smallH [.o 0 (.log ⟨me, some [d0, d1, d2, d3, d4, d5, d6], some [s0, s1, s2, s3, s4, s5, s6], none⟩)]) 3 (.log ⟨me, some [d0, d1, d2, d3, d4, d5, d6], some [s0, s1, s2, s3, s4, s5, s6], none⟩)).put 4 (some (.cells false ([d0, d1, d2, d3, d4, d5, d6].flatMap Gw.Device.vs)))).put 5 (some (.cells false ([s0, s1, s2, s3, s4, s5, s6].map (V.int .i64))))) (obsR readLogX) = treeClash7_0 me d0 d1 d2 d3 d4 d5 d6 s0 s1 s2 s3 s4 s5 s6 := by kernel_rfl
theorem runClash7_0 (me : Int) (d0 d1 d2 d3 d4 d5 d6 : Gw.Device) (s0 s1 s2 s3 s4 s5 s6 : Int) : Run Tryz.prog 38 [.ptr 3 0] (((openAt (smallH [.o 0 (.log ⟨me, some [d0, d1, d2, d3, d4, d5, d6], some [s0, s1, s2, s3, s4, s5, s6], none⟩)]) 3 (.log ⟨me, some [d0, d1, d2, d3, d4, d5, d6], some [s0, s1, s2, s3, s4, s5, s6], none⟩)).put 4 (some (.cells false ([d0, d1, d2, d3, d4, d5, d6].flatMap Gw.Device.vs)))).put 5 (some (.cells false ([s0, s1, s2, s3, s4, s5, s6].map (V.int .i64))))) fun r h => Gw.Ends [.o 0 (.log ⟨me, some [d0, d1, d2, d3, d4, d5, d6], some [s0, s1, s2, s3, s4, s5, s6], none⟩)] [.log ⟨me, some [d0, d1, d2, d3, d4, d5, d6], some [s0, s1, s2, s3, s4, s5, s6], none⟩] [] [.f .nils] r h :=
  runMono (run_plainU mixed tabM tabD (dIs (by kernel_rfl)) (treeClash7_0_eq me d0 d1 d2 d3 d4 d5 d6 s0 s1 s2 s3 s4 s5 s6) (Q := fun p => p = (.nils, some (⟨me, some [d0, d1, d2, d3, d4, d5, d6], some [s0, s1, s2, s3, s4, s5, s6], none⟩ : Gw.Log), none)) (by obtain ⟨a0, b0⟩ := d0; obtain ⟨a1, b1⟩ := d1; obtain ⟨a2, b2⟩ := d2; obtain ⟨a3, b3⟩ := d3; obtain ⟨a4, b4⟩ := d4; obtain ⟨a5, b5⟩ := d5; obtain ⟨a6, b6⟩ := d6; unfold treeClash7_0; simp [DT.sat])) fun r h hq => by
    unfold obsR at hq
    split at hq
    · simp only [Prod.mk.injEq, reduceCtorEq, false_and] at hq
    · simp only [Prod.mk.injEq] at hq
      obtain ⟨rfl, hr, _⟩ := hq
      obtain ⟨ws, ids, h1, h2, h3, h4, _⟩ := readLogX_ok hr
      exact ends_o h1 h2 h3 h4
def treeClash8_0 (me : Int) (d0 d1 d2 d3 d4 d5 d6 d7 : Gw.Device) (s0 s1 s2 s3 s4 s5 s6 s7 : Int) : DT (V × Option Gw.Log × Option Blk) :=
  .leaf (.nils, some (⟨me, some [⟨d0.id, d0.nick⟩, ⟨d1.id, d1.nick⟩, ⟨d2.id, d2.nick⟩, ⟨d3.id, d3.nick⟩, ⟨d4.id, d4.nick⟩, ⟨d5.id, d5.nick⟩, ⟨d6.id, d6.nick⟩, ⟨d7.id, d7.nick⟩], some [s0, s1, s2, s3, s4, s5, s6, s7], none⟩ : Gw.Log), none)
set_option maxRecDepth 1000000 in
theorem treeClash8_0_eq (me : Int) (d0 d1 d2 d3 d4 d5 d6 d7 : Gw.Device) (s0 s1 s2 s3 s4 s5 s6 s7 : Int) : funT (mkXT pxM noOX) (mkXP pxM) (mkX pxM noOX) D (fun _ => noOrc) (fun _ => []) 12 noOrc [] noLt (dOf 38) [.ptr 3 0] (((openAt (smallH [.o 0 (.log ⟨me, some [d0, d1, d2, d3, d4, d5, d6, d7], some [s0, s1, s2, s3, s4, s5, s6, s7], none⟩)]) 3 (.log ⟨me, some [d0, d1, d2, d3, d4, d5, d6, d7], some [s0, s1, s2, s3, s4, s5, s6, s7], none⟩)).put 4 (some (.cells false ([d0, d1, d2, d3, d4, d5, d6, d7].flatMap Gw.Device.vs)))).put 5 (some (.cells false ([s0, s1, s2, s3, s4, s5, s6, s7].map (V.int .i64))))) (obsR readLogX) = treeClash8_0 me d0 d1 d2 d3 d4 d5 d6 d7 s0 s1 s2 s3 s4 s5 s6 s7 := by kernel_rfl
theorem runClash8_0 (me : Int) (d0 d1 d2 d3 d4 d5 d6 d7 : Gw.Device) (s0 s1 s2 s3 s4 s5 s6 s7 : Int) : Run Tryz.prog 38 [.ptr 3 0] (((openAt (smallH [.o 0 (.log ⟨me, some [d0, d1, d2, d3, d4, d5, d6, d7], some [s0, s1, s2, s3, s4, s5, s6, s7], none⟩)]) 3 (.log ⟨me, some [d0, d1, d2, d3, d4, d5, d6, d7], some [s0, s1, s2, s3, s4, s5, s6, s7], none⟩)).put 4 (some (.cells false ([d0, d1, d2, d3, d4, d5, d6, d7].flatMap Gw.Device.vs)))).put 5 (some (.cells false ([s0, s1, s2, s3, s4, s5, s6, s7].map (V.int .i64))))) fun r h => Gw.Ends [.o 0 (.log ⟨me, some [d0, d1, d2, d3, d4, d5, d6, d7], some [s0, s1, s2, s3, s4, s5, s6, s7], none⟩)] [.log ⟨me, some [d0, d1, d2, d3, d4, d5, d6, d7], some [s0, s1, s2, s3, s4, s5, s6, s7], none⟩] [] [.f .nils] r h :=
  runMono (run_plainU mixed tabM tabD (dIs (by kernel_rfl)) (treeClash8_0_eq me d0 d1 d2 d3 d4 d5 d6 d7 s0 s1 s2 s3 s4 s5 s6 s7) (Q := fun p => p = (.nils, some (⟨me, some [d0, d1, d2, d3, d4, d5, d6, d7], some [s0, s1, s2, s3, s4, s5, s6, s7], none⟩ : Gw.Log), none)) (by obtain ⟨a0, b0⟩ := d0; obtain ⟨a1, b1⟩ := d1; obtain ⟨a2, b2⟩ := d2; obtain ⟨a3, b3⟩ := d3; obtain ⟨a4, b4⟩ := d4; obtain ⟨a5, b5⟩ := d5; obtain ⟨a6, b6⟩ := d6; obtain ⟨a7, b7⟩ := d7; unfold treeClash8_0; simp [DT.sat])) fun r h hq => by
    unfold obsR at hq
    split at hq
    · simp only [Prod.mk.injEq, reduceCtorEq, false_and] at hq
    · simp only [Prod.mk.injEq] at hq
      obtain ⟨rfl, hr, _⟩ := hq
      obtain ⟨ws, ids, h1, h2, h3, h4, _⟩ := readLogX_ok hr
      exact ends_o h1 h2 h3 h4
def treeClash9_0 (me : Int) (d0 d1 d2 d3 d4 d5 d6 d7 d8 : Gw.Device) (s0 s1 s2 s3 s4 s5 s6 s7 s8 : Int) : DT (V × Option Gw.Log × Option Blk) :=
  .leaf (.nils, some (⟨me, some [⟨d0.id, d0.nick⟩, ⟨d1.id, d1.nick⟩, ⟨d2.id, d2.nick⟩, ⟨d3.id, d3.nick⟩, ⟨d4.id, d4.nick⟩, ⟨d5.id, d5.nick⟩, ⟨d6.id, d6.nick⟩, ⟨d7.id, d7.nick⟩, ⟨d8.id, d8.nick⟩], some [s0, s1, s2, s3, s4, s5, s6, s7, s8], none⟩ : Gw.Log), none)
set_option maxRecDepth 1000000 in
theorem treeClash9_0_eq (me : Int) (d0 d1 d2 d3 d4 d5 d6 d7 d8 : Gw.Device) (s0 s1 s2 s3 s4 s5 s6 s7 s8 : Int) : funT (mkXT pxM noOX) (mkXP pxM) (mkX pxM noOX) D (fun _ => noOrc) (fun _ => []) 12 noOrc [] noLt (dOf 38) [.ptr 3 0] (((openAt (smallH [.o 0 (.log ⟨me, some [d0, d1, d2, d3, d4, d5, d6, d7, d8], some [s0, s1, s2, s3, s4, s5, s6, s7, s8], none⟩)]) 3 (.log ⟨me, some [d0, d1, d2, d3, d4, d5, d6, d7, d8], some [s0, s1, s2, s3, s4, s5, s6, s7, s8], none⟩)).put 4 (some (.cells false ([d0, d1, d2, d3, d4, d5, d6, d7, d8].flatMap Gw.Device.vs)))).put 5 (some (.cells false ([s0, s1, s2, s3, s4, s5, s6, s7, s8].map (V.int .i64))))) (obsR readLogX) = treeClash9_0 me d0 d1 d2 d3 d4 d5 d6 d7 d8 s0 s1 s2 s3 s4 s5 s6 s7 s8 := by kernel_rfl
theorem runClash9_0 (me : Int) (d0 d1 d2 d3 d4 d5 d6 d7 d8 : Gw.Device) (s0 s1 s2 s3 s4 s5 s6 s7 s8 : Int) : Run Tryz.prog 38 [.ptr 3 0] (((openAt (smallH [.o 0 (.log ⟨me, some [d0, d1, d2, d3, d4, d5, d6, d7, d8], some [s0, s1, s2, s3, s4, s5, s6, s7, s8], none⟩)]) 3 (.log ⟨me, some [d0, d1, d2, d3, d4, d5, d6, d7, d8], some [s0, s1, s2, s3, s4, s5, s6, s7, s8], none⟩)).put 4 (some (.cells false ([d0, d1, d2, d3, d4, d5, d6, d7, d8].flatMap Gw.Device.vs)))).put 5 (some (.cells false ([s0, s1, s2, s3, s4, s5, s6, s7, s8].map (V.int .i64))))) fun r h => Gw.Ends [.o 0 (.log ⟨me, some [d0, d1, d2, d3, d4, d5, d6, d7, d8], some [s0, s1, s2, s3, s4, s5, s6, s7, s8], none⟩)] [.log ⟨me, some [d0, d1, d2, d3, d4, d5, d6, d7, d8], some [s0, s1, s2, s3, s4, s5, s6, s7, s8], none⟩] [] [.f .nils] r h :=
  runMono (run_plainU mixed tabM tabD (dIs (by kernel_rfl)) (treeClash9_0_eq me d0 d1 d2 d3 d4 d5 d6 d7 d8 s0 s1 s2 s3 s4 s5 s6 s7 s8) (Q := fun p => p = (.nils, some (⟨me, some [d0, d1, d2, d3, d4, d5, d6, d7, d8], some [s0, s1, s2, s3, s4, s5, s6, s7, s8], none⟩ : Gw.Log), none)) (by obtain ⟨a0, b0⟩ := d0; obtain ⟨a1, b1⟩ := d1; obtain ⟨a2, b2⟩ := d2; obtain ⟨a3, b3⟩ := d3; obtain ⟨a4, b4⟩ := d4; obtain ⟨a5, b5⟩ := d5; obtain ⟨a6, b6⟩ := d6; obtain ⟨a7, b7⟩ := d7; obtain ⟨a8, b8⟩ := d8; unfold treeClash9_0; simp [DT.sat])) fun r h hq => by
    unfold obsR at hq
    split at hq
    · simp only [Prod.mk.injEq, reduceCtorEq, false_and] at hq
    · simp only [Prod.mk.injEq] at hq
      obtain ⟨rfl, hr, _⟩ := hq
      obtain ⟨ws, ids, h1, h2, h3, h4, _⟩ := readLogX_ok hr
      exact ends_o h1 h2 h3 h4
def treeClash10_0 (me : Int) (d0 d1 d2 d3 d4 d5 d6 d7 d8 d9 : Gw.Device) (s0 s1 s2 s3 s4 s5 s6 s7 s8 s9 : Int) : DT (V × Option Gw.Log × Option Blk) :=
  .leaf (.nils, some (⟨me, some [⟨d0.id, d0.nick⟩, ⟨d1.id, d1.nick⟩, ⟨d2.id, d2.nick⟩, ⟨d3.id, d3.nick⟩, ⟨d4.id, d4.nick⟩, ⟨d5.id, d5.nick⟩, ⟨d6.id, d6.nick⟩, ⟨d7.id, d7.nick⟩, ⟨d8.id, d8.nick⟩, ⟨d9.id, d9.nick⟩], some [s0, s1, s2, s3, s4, s5, s6, s7, s8, s9], none⟩ : Gw.Log), none)
set_option maxRecDepth 1000000 in
theorem treeClash10_0_eq (me : Int) (d0 d1 d2 d3 d4 d5 d6 d7 d8 d9 : Gw.Device) (s0 s1 s2 s3 s4 s5 s6 s7 s8 s9 : Int) : funT (mkXT pxM noOX) (mkXP pxM) (mkX pxM noOX) D (fun _ => noOrc) (fun _ => []) 12 noOrc [] noLt (dOf 38) [.ptr 3 0] (((openAt (smallH [.o 0 (.log ⟨me, some [d0, d1, d2, d3, d4, d5, d6, d7, d8, d9], some [s0, s1, s2, s3, s4, s5, s6, s7, s8, s9], none⟩)]) 3 (.log ⟨me, some [d0, d1, d2, d3, d4, d5, d6, d7, d8, d9], some [s0, s1, s2, s3, s4, s5, s6, s7, s8, s9], none⟩)).put 4 (some (.cells false ([d0, d1, d2, d3, d4, d5, d6, d7, d8, d9].flatMap Gw.Device.vs)))).put 5 (some (.cells false ([s0, s1, s2, s3, s4, s5, s6, s7, s8, s9].map (V.int .i64))))) (obsR readLogX) = treeClash10_0 me d0 d1 d2 d3 d4 d5 d6 d7 d8 d9 s0 s1 s2 s3 s4 s5 s6 s7 s8 s9 := by kernel_rfl
theorem runClash10_0 (me : Int) (d0 d1 d2 d3 d4 d5 d6 d7 d8 d9 : Gw.Device) (s0 s1 s2 s3 s4 s5 s6 s7 s8 s9 : Int) : Run Tryz.prog 38 [.ptr 3 0] (((openAt (smallH [.o 0 (.log ⟨me, some [d0, d1, d2, d3, d4, d5, d6, d7, d8, d9], some [s0, s1, s2, s3, s4, s5, s6, s7, s8, s9], none⟩)]) 3 (.log ⟨me, some [d0, d1, d2, d3, d4, d5, d6, d7, d8, d9], some [s0, s1, s2, s3, s4, s5, s6, s7, s8, s9], none⟩)).put 4 (some (.cells false ([d0, d1, d2, d3, d4, d5, d6, d7, d8, d9].flatMap Gw.Device.vs)))).put 5 (some (.cells false ([s0, s1, s2, s3, s4, s5, s6, s7, s8, s9].map (V.int .i64))))) fun r h => Gw.Ends [.o 0 (.log ⟨me, some [d0, d1, d2, d3, d4, d5, d6, d7, d8, d9], some [s0, s1, s2, s3, s4, s5, s6, s7, s8, s9], none⟩)] [.log ⟨me, some [d0, d1, d2, d3, d4, d5, d6, d7, d8, d9], some [s0, s1, s2, s3, s4, s5, s6, s7, s8, s9], none⟩] [] [.f .nils] r h :=
  runMono (run_plainU mixed tabM tabD (dIs (by kernel_rfl)) (treeClash10_0_eq me d0 d1 d2 d3 d4 d5 d6 d7 d8 d9 s0 s1 s2 s3 s4 s5 s6 s7 s8 s9) (Q := fun p => p = (.nils, some (⟨me, some [d0, d1, d2, d3, d4, d5, d6, d7, d8, d9], some [s0, s1, s2, s3, s4, s5, s6, s7, s8, s9], none⟩ : Gw.Log), none)) (by obtain ⟨a0, b0⟩ := d0; obtain ⟨a1, b1⟩ := d1; obtain ⟨a2, b2⟩ := d2; obtain ⟨a3, b3⟩ := d3; obtain ⟨a4, b4⟩ := d4; obtain ⟨a5, b5⟩ := d5; obtain ⟨a6, b6⟩ := d6; obtain ⟨a7, b7⟩ := d7; obtain ⟨a8, b8⟩ := d8; obtain ⟨a9, b9⟩ := d9; unfold treeClash10_0; simp [DT.sat])) fun r h hq => by
    unfold obsR at hq
    split at hq
    · simp only [Prod.mk.injEq, reduceCtorEq, false_and] at hq
    · simp only [Prod.mk.injEq] at hq
      obtain ⟨rfl, hr, _⟩ := hq
      obtain ⟨ws, ids, h1, h2, h3, h4, _⟩ := readLogX_ok hr
      exact ends_o h1 h2 h3 h4
def treeClash11_0 (me : Int) (d0 d1 d2 d3 d4 d5 d6 d7 d8 d9 d10 : Gw.Device) (s0 s1 s2 s3 s4 s5 s6 s7 s8 s9 s10 : Int) : DT (V × Option Gw.Log × Option Blk) :=
  .leaf (.nils, some (⟨me, some [⟨d0.id, d0.nick⟩, ⟨d1.id, d1.nick⟩, ⟨d2.id, d2.nick⟩, ⟨d3.id, d3.nick⟩, ⟨d4.id, d4.nick⟩, ⟨d5.id, d5.nick⟩, ⟨d6.id, d6.nick⟩, ⟨d7.id, d7.nick⟩, ⟨d8.id, d8.nick⟩, ⟨d9.id, d9.nick⟩, ⟨d10.id, d10.nick⟩], some [s0, s1, s2, s3, s4, s5, s6, s7, s8, s9, s10], none⟩ : Gw.Log), none)
set_option maxRecDepth 1000000 in
theorem treeClash11_0_eq (me : Int) (d0 d1 d2 d3 d4 d5 d6 d7 d8 d9 d10 : Gw.Device) (s0 s1 s2 s3 s4 s5 s6 s7 s8 s9 s10 : Int) : funT (mkXT pxM noOX) (mkXP pxM) (mkX pxM noOX) D (fun _ => noOrc) (fun _ => []) 12 noOrc [] noLt (dOf 38) [.ptr 3 0] (((openAt (smallH [.o 0 (.log ⟨me, some [d0, d1, d2, d3, d4, d5, d6, d7, d8, d9, d10], some [s0, s1, s2, s3, s4, s5, s6, s7, s8, s9, s10], none⟩)]) 3 (.log ⟨me, some [d0, d1, d2, d3, d4, d5, d6, d7, d8, d9, d10], some [s0, s1, s2, s3, s4, s5, s6, s7, s8, s9, s10], none⟩)).put 4 (some (.cells false ([d0, d1, d2, d3, d4, d5, d6, d7, d8, d9, d10].flatMap Gw.Device.vs)))).put 5 (some (.cells false ([s0, s1, s2, s3, s4, s5, s6, s7, s8, s9, s10].map (V.int .i64))))) (obsR readLogX) = treeClash11_0 me d0 d1 d2 d3 d4 d5 d6 d7 d8 d9 d10 s0 s1 s2 s3 s4 s5 s6 s7 s8 s9 s10 := by kernel_rfl
theorem runClash11_0 (me : Int) (d0 d1 d2 d3 d4 d5 d6 d7 d8 d9 d10 : Gw.Device) (s0 s1 s2 s3 s4 s5 s6 s7 s8 s9 s10 : Int) : Run Tryz.prog 38 [.ptr 3 0] (((openAt (smallH [.o 0 (.log ⟨me, some [d0, d1, d2, d3, d4, d5, d6, d7, d8, d9, d10], some [s0, s1, s2, s3, s4, s5, s6, s7, s8, s9, s10], none⟩)]) 3 (.log ⟨me, some [d0, d1, d2, d3, d4, d5, d6, d7, d8, d9, d10], some [s0, s1, s2, s3, s4, s5, s6, s7, s8, s9, s10], none⟩)).put 4 (some (.cells false ([d0, d1, d2, d3, d4, d5, d6, d7, d8, d9, d10].flatMap Gw.Device.vs)))).put 5 (some (.cells false ([s0, s1, s2, s3, s4, s5, s6, s7, s8, s9, s10].map (V.int .i64))))) fun r h => Gw.Ends [.o 0 (.log ⟨me, some [d0, d1, d2, d3, d4, d5, d6, d7, d8, d9, d10], some [s0, s1, s2, s3, s4, s5, s6, s7, s8, s9, s10], none⟩)] [.log ⟨me, some [d0, d1, d2, d3, d4, d5, d6, d7, d8, d9, d10], some [s0, s1, s2, s3, s4, s5, s6, s7, s8, s9, s10], none⟩] [] [.f .nils] r h :=
  runMono (run_plainU mixed tabM tabD (dIs (by kernel_rfl)) (treeClash11_0_eq me d0 d1 d2 d3 d4 d5 d6 d7 d8 d9 d10 s0 s1 s2 s3 s4 s5 s6 s7 s8 s9 s10) (Q := fun p => p = (.nils, some (⟨me, some [d0, d1, d2, d3, d4, d5, d6, d7, d8, d9, d10], some [s0, s1, s2, s3, s4, s5, s6, s7, s8, s9, s10], none⟩ : Gw.Log), none)) (by obtain ⟨a0, b0⟩ := d0; obtain ⟨a1, b1⟩ := d1; obtain ⟨a2, b2⟩ := d2; obtain ⟨a3, b3⟩ := d3; obtain ⟨a4, b4⟩ := d4; obtain ⟨a5, b5⟩ := d5; obtain ⟨a6, b6⟩ := d6; obtain ⟨a7, b7⟩ := d7; obtain ⟨a8, b8⟩ := d8; obtain ⟨a9, b9⟩ := d9; obtain ⟨a10, b10⟩ := d10; unfold treeClash11_0; simp [DT.sat])) fun r h hq => by
    unfold obsR at hq
    split at hq
    · simp only [Prod.mk.injEq, reduceCtorEq, false_and] at hq
    · simp only [Prod.mk.injEq] at hq
      obtain ⟨rfl, hr, _⟩ := hq
      obtain ⟨ws, ids, h1, h2, h3, h4, _⟩ := readLogX_ok hr
      exact ends_o h1 h2 h3 h4
def treeClash12_0 (me : Int) (d0 d1 d2 d3 d4 d5 d6 d7 d8 d9 d10 d11 : Gw.Device) (s0 s1 s2 s3 s4 s5 s6 s7 s8 s9 s10 s11 : Int) : DT (V × Option Gw.Log × Option Blk) :=
  .leaf (.nils, some (⟨me, some [⟨d0.id, d0.nick⟩, ⟨d1.id, d1.nick⟩, ⟨d2.id, d2.nick⟩, ⟨d3.id, d3.nick⟩, ⟨d4.id, d4.nick⟩, ⟨d5.id, d5.nick⟩, ⟨d6.id, d6.nick⟩, ⟨d7.id, d7.nick⟩, ⟨d8.id, d8.nick⟩, ⟨d9.id, d9.nick⟩, ⟨d10.id, d10.nick⟩, ⟨d11.id, d11.nick⟩], some [s0, s1, s2, s3, s4, s5, s6, s7, s8, s9, s10, s11], none⟩ : Gw.Log), none)
set_option maxRecDepth 1000000 in
theorem treeClash12_0_eq (me : Int) (d0 d1 d2 d3 d4 d5 d6 d7 d8 d9 d10 d11 : Gw.Device) (s0 s1 s2 s3 s4 s5 s6 s7 s8 s9 s10 s11 : Int) : funT (mkXT pxM noOX) (mkXP pxM) (mkX pxM noOX) D (fun _ => noOrc) (fun _ => []) 12 noOrc [] noLt (dOf 38) [.ptr 3 0] (((openAt (smallH [.o 0 (.log ⟨me, some [d0, d1, d2, d3, d4, d5, d6, d7, d8, d9, d10, d11], some [s0, s1, s2, s3, s4, s5, s6, s7, s8, s9, s10, s11], none⟩)]) 3 (.log ⟨me, some [d0, d1, d2, d3, d4, d5, d6, d7, d8, d9, d10, d11], some [s0, s1, s2, s3, s4, s5, s6, s7, s8, s9, s10, s11], none⟩)).put 4 (some (.cells false ([d0, d1, d2, d3, d4, d5, d6, d7, d8, d9, d10, d11].flatMap Gw.Device.vs)))).put 5 (some (.cells false ([s0, s1, s2, s3, s4, s5, s6, s7, s8, s9, s10, s11].map (V.int .i64))))) (obsR readLogX) = treeClash12_0 me d0 d1 d2 d3 d4 d5 d6 d7 d8 d9 d10 d11 s0 s1 s2 s3 s4 s5 s6 s7 s8 s9 s10 s11 := by kernel_rfl
theorem runClash12_0 (me : Int) (d0 d1 d2 d3 d4 d5 d6 d7 d8 d9 d10 d11 : Gw.Device) (s0 s1 s2 s3 s4 s5 s6 s7 s8 s9 s10 s11 : Int) : Run Tryz.prog 38 [.ptr 3 0] (((openAt (smallH [.o 0 (.log ⟨me, some [d0, d1, d2, d3, d4, d5, d6, d7, d8, d9, d10, d11], some [s0, s1, s2, s3, s4, s5, s6, s7, s8, s9, s10, s11], none⟩)]) 3 (.log ⟨me, some [d0, d1, d2, d3, d4, d5, d6, d7, d8, d9, d10, d11], some [s0, s1, s2, s3, s4, s5, s6, s7, s8, s9, s10, s11], none⟩)).put 4 (some (.cells false ([d0, d1, d2, d3, d4, d5, d6, d7, d8, d9, d10, d11].flatMap Gw.Device.vs)))).put 5 (some (.cells false ([s0, s1, s2, s3, s4, s5, s6, s7, s8, s9, s10, s11].map (V.int .i64))))) fun r h => Gw.Ends [.o 0 (.log ⟨me, some [d0, d1, d2, d3, d4, d5, d6, d7, d8, d9, d10, d11], some [s0, s1, s2, s3, s4, s5, s6, s7, s8, s9, s10, s11], none⟩)] [.log ⟨me, some [d0, d1, d2, d3, d4, d5, d6, d7, d8, d9, d10, d11], some [s0, s1, s2, s3, s4, s5, s6, s7, s8, s9, s10, s11], none⟩] [] [.f .nils] r h :=
  runMono (run_plainU mixed tabM tabD (dIs (by kernel_rfl)) (treeClash12_0_eq me d0 d1 d2 d3 d4 d5 d6 d7 d8 d9 d10 d11 s0 s1 s2 s3 s4 s5 s6 s7 s8 s9 s10 s11) (Q := fun p => p = (.nils, some (⟨me, some [d0, d1, d2, d3, d4, d5, d6, d7, d8, d9, d10, d11], some [s0, s1, s2, s3, s4, s5, s6, s7, s8, s9, s10, s11], none⟩ : Gw.Log), none)) (by obtain ⟨a0, b0⟩ := d0; obtain ⟨a1, b1⟩ := d1; obtain ⟨a2, b2⟩ := d2; obtain ⟨a3, b3⟩ := d3; obtain ⟨a4, b4⟩ := d4; obtain ⟨a5, b5⟩ := d5; obtain ⟨a6, b6⟩ := d6; obtain ⟨a7, b7⟩ := d7; obtain ⟨a8, b8⟩ := d8; obtain ⟨a9, b9⟩ := d9; obtain ⟨a10, b10⟩ := d10; obtain ⟨a11, b11⟩ := d11; unfold treeClash12_0; simp [DT.sat])) fun r h hq => by
    unfold obsR at hq
    split at hq
    · simp only [Prod.mk.injEq, reduceCtorEq, false_and] at hq
    · simp only [Prod.mk.injEq] at hq
      obtain ⟨rfl, hr, _⟩ := hq
      obtain ⟨ws, ids, h1, h2, h3, h4, _⟩ := readLogX_ok hr
      exact ends_o h1 h2 h3 h4
set_option maxHeartbeats 4000000 in
theorem ansAddW : AnsO Tryz.prog 37 (fun args h => (gC pAddW args h).run) := by
  refine ansC fun ys x q hq hp => ?_
  unfold pAddW at hq
  split at hq
  · rename_i a b c d e f L
    simp only [Option.some.injEq] at hq
    subst hq
    simp only at hp ⊢
    generalize hx : (⟨a, b, c, d, e, f⟩ : Gw.Xid) = x
    have hv : [V.int .u32 a, .int .u32 b, .int .i64 c, .int .i64 d, .bool e, .str f] = x.vs := by subst hx; rfl
    rw [hv]
    obtain ⟨me, dv, sl, cl⟩ := L
    obtain ⟨rfl, ⟨rfl, rfl⟩ | ⟨ds, ss, rfl, rfl, hss, h1, h2⟩⟩ := hp
    · exact ⟨rfl, rfl, _, opL0_0 me, runAdd0_0 me x⟩
    have hc : ds.length = 1 ∨ ds.length = 2 ∨ ds.length = 3 ∨ ds.length = 4 ∨ ds.length = 5 ∨ ds.length = 6 ∨ ds.length = 7 ∨ ds.length = 8 ∨ ds.length = 9 ∨ ds.length = 10 ∨ ds.length = 11 := by omega
    rcases hc with hl | hl | hl | hl | hl | hl | hl | hl | hl | hl | hl
    · obtain ⟨d0, rfl⟩ := exL1 hl
      obtain ⟨s0, rfl⟩ := exL1 (hss.trans hl)
      exact ⟨rfl, rfl, _, opL1_0 me d0 s0, runAdd1_0 me d0 s0 x⟩
    · obtain ⟨d0, d1, rfl⟩ := exL2 hl
      obtain ⟨s0, s1, rfl⟩ := exL2 (hss.trans hl)
      exact ⟨rfl, rfl, _, opL2_0 me d0 d1 s0 s1, runAdd2_0 me d0 d1 s0 s1 x⟩
    · obtain ⟨d0, d1, d2, rfl⟩ := exL3 hl
      obtain ⟨s0, s1, s2, rfl⟩ := exL3 (hss.trans hl)
      exact ⟨rfl, rfl, _, opL3_0 me d0 d1 d2 s0 s1 s2, runAdd3_0 me d0 d1 d2 s0 s1 s2 x⟩
    · obtain ⟨d0, d1, d2, d3, rfl⟩ := exL4 hl
      obtain ⟨s0, s1, s2, s3, rfl⟩ := exL4 (hss.trans hl)
      exact ⟨rfl, rfl, _, opL4_0 me d0 d1 d2 d3 s0 s1 s2 s3, runAdd4_0 me d0 d1 d2 d3 s0 s1 s2 s3 x⟩
    · obtain ⟨d0, d1, d2, d3, d4, rfl⟩ := exL5 hl
      obtain ⟨s0, s1, s2, s3, s4, rfl⟩ := exL5 (hss.trans hl)
      exact ⟨rfl, rfl, _, opL5_0 me d0 d1 d2 d3 d4 s0 s1 s2 s3 s4, runAdd5_0 me d0 d1 d2 d3 d4 s0 s1 s2 s3 s4 x⟩
    · obtain ⟨d0, d1, d2, d3, d4, d5, rfl⟩ := exL6 hl
      obtain ⟨s0, s1, s2, s3, s4, s5, rfl⟩ := exL6 (hss.trans hl)
      exact ⟨rfl, rfl, _, opL6_0 me d0 d1 d2 d3 d4 d5 s0 s1 s2 s3 s4 s5, runAdd6_0 me d0 d1 d2 d3 d4 d5 s0 s1 s2 s3 s4 s5 x⟩
    · obtain ⟨d0, d1, d2, d3, d4, d5, d6, rfl⟩ := exL7 hl
      obtain ⟨s0, s1, s2, s3, s4, s5, s6, rfl⟩ := exL7 (hss.trans hl)
      exact ⟨rfl, rfl, _, opL7_0 me d0 d1 d2 d3 d4 d5 d6 s0 s1 s2 s3 s4 s5 s6, runAdd7_0 me d0 d1 d2 d3 d4 d5 d6 s0 s1 s2 s3 s4 s5 s6 x⟩
    · obtain ⟨d0, d1, d2, d3, d4, d5, d6, d7, rfl⟩ := exL8 hl
      obtain ⟨s0, s1, s2, s3, s4, s5, s6, s7, rfl⟩ := exL8 (hss.trans hl)
      exact ⟨rfl, rfl, _, opL8_0 me d0 d1 d2 d3 d4 d5 d6 d7 s0 s1 s2 s3 s4 s5 s6 s7, runAdd8_0 me d0 d1 d2 d3 d4 d5 d6 d7 s0 s1 s2 s3 s4 s5 s6 s7 x⟩
    · obtain ⟨d0, d1, d2, d3, d4, d5, d6, d7, d8, rfl⟩ := exL9 hl
      obtain ⟨s0, s1, s2, s3, s4, s5, s6, s7, s8, rfl⟩ := exL9 (hss.trans hl)
      exact ⟨rfl, rfl, _, opL9_0 me d0 d1 d2 d3 d4 d5 d6 d7 d8 s0 s1 s2 s3 s4 s5 s6 s7 s8, runAdd9_0 me d0 d1 d2 d3 d4 d5 d6 d7 d8 s0 s1 s2 s3 s4 s5 s6 s7 s8 x⟩
    · obtain ⟨d0, d1, d2, d3, d4, d5, d6, d7, d8, d9, rfl⟩ := exL10 hl
      obtain ⟨s0, s1, s2, s3, s4, s5, s6, s7, s8, s9, rfl⟩ := exL10 (hss.trans hl)
      exact ⟨rfl, rfl, _, opL10_0 me d0 d1 d2 d3 d4 d5 d6 d7 d8 d9 s0 s1 s2 s3 s4 s5 s6 s7 s8 s9, runAdd10_0 me d0 d1 d2 d3 d4 d5 d6 d7 d8 d9 s0 s1 s2 s3 s4 s5 s6 s7 s8 s9 x⟩
    · obtain ⟨d0, d1, d2, d3, d4, d5, d6, d7, d8, d9, d10, rfl⟩ := exL11 hl
      obtain ⟨s0, s1, s2, s3, s4, s5, s6, s7, s8, s9, s10, rfl⟩ := exL11 (hss.trans hl)
      exact ⟨rfl, rfl, _, opL11_0 me d0 d1 d2 d3 d4 d5 d6 d7 d8 d9 d10 s0 s1 s2 s3 s4 s5 s6 s7 s8 s9 s10, runAdd11_0 me d0 d1 d2 d3 d4 d5 d6 d7 d8 d9 d10 s0 s1 s2 s3 s4 s5 s6 s7 s8 s9 s10 x⟩
  · cases hq
set_option maxHeartbeats 4000000 in
theorem ansAllW : AnsO Tryz.prog 51 (fun args h => (gR pAllW args h).run) := by
  refine ansR fun ys x q hq hp => ?_
  unfold pAllW at hq
  split at hq
  · rename_i L
    simp only [Option.some.injEq] at hq
    subst hq
    simp only at hp ⊢
    obtain ⟨me, dv, sl, cl⟩ := L
    obtain ⟨rfl, ⟨rfl, rfl⟩ | ⟨ds, ss, rfl, rfl, hss, h1, h2⟩⟩ := hp
    · exact ⟨rfl, _, opL0_0 me, runAll0 me⟩
    have hc : ds.length = 1 ∨ ds.length = 2 ∨ ds.length = 3 ∨ ds.length = 4 ∨ ds.length = 5 ∨ ds.length = 6 ∨ ds.length = 7 ∨ ds.length = 8 ∨ ds.length = 9 ∨ ds.length = 10 ∨ ds.length = 11 ∨ ds.length = 12 := by omega
    rcases hc with hl | hl | hl | hl | hl | hl | hl | hl | hl | hl | hl | hl
    · obtain ⟨d0, rfl⟩ := exL1 hl
      obtain ⟨s0, rfl⟩ := exL1 (hss.trans hl)
      exact ⟨rfl, _, opL1_0 me d0 s0, runAll1 me d0 s0⟩
    · obtain ⟨d0, d1, rfl⟩ := exL2 hl
      obtain ⟨s0, s1, rfl⟩ := exL2 (hss.trans hl)
      exact ⟨rfl, _, opL2_0 me d0 d1 s0 s1, runAll2 me d0 d1 s0 s1⟩
    · obtain ⟨d0, d1, d2, rfl⟩ := exL3 hl
      obtain ⟨s0, s1, s2, rfl⟩ := exL3 (hss.trans hl)
      exact ⟨rfl, _, opL3_0 me d0 d1 d2 s0 s1 s2, runAll3 me d0 d1 d2 s0 s1 s2⟩
    · obtain ⟨d0, d1, d2, d3, rfl⟩ := exL4 hl
      obtain ⟨s0, s1, s2, s3, rfl⟩ := exL4 (hss.trans hl)
      exact ⟨rfl, _, opL4_0 me d0 d1 d2 d3 s0 s1 s2 s3, runAll4 me d0 d1 d2 d3 s0 s1 s2 s3⟩
    · obtain ⟨d0, d1, d2, d3, d4, rfl⟩ := exL5 hl
      obtain ⟨s0, s1, s2, s3, s4, rfl⟩ := exL5 (hss.trans hl)
      exact ⟨rfl, _, opL5_0 me d0 d1 d2 d3 d4 s0 s1 s2 s3 s4, runAll5 me d0 d1 d2 d3 d4 s0 s1 s2 s3 s4⟩
    · obtain ⟨d0, d1, d2, d3, d4, d5, rfl⟩ := exL6 hl
      obtain ⟨s0, s1, s2, s3, s4, s5, rfl⟩ := exL6 (hss.trans hl)
      exact ⟨rfl, _, opL6_0 me d0 d1 d2 d3 d4 d5 s0 s1 s2 s3 s4 s5, runAll6 me d0 d1 d2 d3 d4 d5 s0 s1 s2 s3 s4 s5⟩
    · obtain ⟨d0, d1, d2, d3, d4, d5, d6, rfl⟩ := exL7 hl
      obtain ⟨s0, s1, s2, s3, s4, s5, s6, rfl⟩ := exL7 (hss.trans hl)
      exact ⟨rfl, _, opL7_0 me d0 d1 d2 d3 d4 d5 d6 s0 s1 s2 s3 s4 s5 s6, runAll7 me d0 d1 d2 d3 d4 d5 d6 s0 s1 s2 s3 s4 s5 s6⟩
    · obtain ⟨d0, d1, d2, d3, d4, d5, d6, d7, rfl⟩ := exL8 hl
      obtain ⟨s0, s1, s2, s3, s4, s5, s6, s7, rfl⟩ := exL8 (hss.trans hl)
      exact ⟨rfl, _, opL8_0 me d0 d1 d2 d3 d4 d5 d6 d7 s0 s1 s2 s3 s4 s5 s6 s7, runAll8 me d0 d1 d2 d3 d4 d5 d6 d7 s0 s1 s2 s3 s4 s5 s6 s7⟩
    · obtain ⟨d0, d1, d2, d3, d4, d5, d6, d7, d8, rfl⟩ := exL9 hl
      obtain ⟨s0, s1, s2, s3, s4, s5, s6, s7, s8, rfl⟩ := exL9 (hss.trans hl)
      exact ⟨rfl, _, opL9_0 me d0 d1 d2 d3 d4 d5 d6 d7 d8 s0 s1 s2 s3 s4 s5 s6 s7 s8, runAll9 me d0 d1 d2 d3 d4 d5 d6 d7 d8 s0 s1 s2 s3 s4 s5 s6 s7 s8⟩
    · obtain ⟨d0, d1, d2, d3, d4, d5, d6, d7, d8, d9, rfl⟩ := exL10 hl
      obtain ⟨s0, s1, s2, s3, s4, s5, s6, s7, s8, s9, rfl⟩ := exL10 (hss.trans hl)
      exact ⟨rfl, _, opL10_0 me d0 d1 d2 d3 d4 d5 d6 d7 d8 d9 s0 s1 s2 s3 s4 s5 s6 s7 s8 s9, runAll10 me d0 d1 d2 d3 d4 d5 d6 d7 d8 d9 s0 s1 s2 s3 s4 s5 s6 s7 s8 s9⟩
    · obtain ⟨d0, d1, d2, d3, d4, d5, d6, d7, d8, d9, d10, rfl⟩ := exL11 hl
      obtain ⟨s0, s1, s2, s3, s4, s5, s6, s7, s8, s9, s10, rfl⟩ := exL11 (hss.trans hl)
      exact ⟨rfl, _, opL11_0 me d0 d1 d2 d3 d4 d5 d6 d7 d8 d9 d10 s0 s1 s2 s3 s4 s5 s6 s7 s8 s9 s10, runAll11 me d0 d1 d2 d3 d4 d5 d6 d7 d8 d9 d10 s0 s1 s2 s3 s4 s5 s6 s7 s8 s9 s10⟩
    · obtain ⟨d0, d1, d2, d3, d4, d5, d6, d7, d8, d9, d10, d11, rfl⟩ := exL12 hl
      obtain ⟨s0, s1, s2, s3, s4, s5, s6, s7, s8, s9, s10, s11, rfl⟩ := exL12 (hss.trans hl)
      exact ⟨rfl, _, opL12_0 me d0 d1 d2 d3 d4 d5 d6 d7 d8 d9 d10 d11 s0 s1 s2 s3 s4 s5 s6 s7 s8 s9 s10 s11, runAll12 me d0 d1 d2 d3 d4 d5 d6 d7 d8 d9 d10 d11 s0 s1 s2 s3 s4 s5 s6 s7 s8 s9 s10 s11⟩
  · cases hq
set_option maxHeartbeats 4000000 in
theorem ansClW : AnsO Tryz.prog 38 (fun args h => (gR pClW args h).run) := by
  refine ansR fun ys x q hq hp => ?_
  unfold pClW at hq
  split at hq
  · rename_i L
    simp only [Option.some.injEq] at hq
    subst hq
    simp only at hp ⊢
    obtain ⟨me, dv, sl, cl⟩ := L
    obtain ⟨rfl, ⟨rfl, rfl⟩ | ⟨ds, ss, rfl, rfl, hss, h1, h2⟩⟩ := hp
    · exact ⟨rfl, _, opL0_0 me, runClash0_0 me⟩
    have hc : ds.length = 1 ∨ ds.length = 2 ∨ ds.length = 3 ∨ ds.length = 4 ∨ ds.length = 5 ∨ ds.length = 6 ∨ ds.length = 7 ∨ ds.length = 8 ∨ ds.length = 9 ∨ ds.length = 10 ∨ ds.length = 11 ∨ ds.length = 12 := by omega
    rcases hc with hl | hl | hl | hl | hl | hl | hl | hl | hl | hl | hl | hl
    · obtain ⟨d0, rfl⟩ := exL1 hl
      obtain ⟨s0, rfl⟩ := exL1 (hss.trans hl)
      exact ⟨rfl, _, opL1_0 me d0 s0, runClash1_0 me d0 s0⟩
    · obtain ⟨d0, d1, rfl⟩ := exL2 hl
      obtain ⟨s0, s1, rfl⟩ := exL2 (hss.trans hl)
      exact ⟨rfl, _, opL2_0 me d0 d1 s0 s1, runClash2_0 me d0 d1 s0 s1⟩
    · obtain ⟨d0, d1, d2, rfl⟩ := exL3 hl
      obtain ⟨s0, s1, s2, rfl⟩ := exL3 (hss.trans hl)
      exact ⟨rfl, _, opL3_0 me d0 d1 d2 s0 s1 s2, runClash3_0 me d0 d1 d2 s0 s1 s2⟩
    · obtain ⟨d0, d1, d2, d3, rfl⟩ := exL4 hl
      obtain ⟨s0, s1, s2, s3, rfl⟩ := exL4 (hss.trans hl)
      exact ⟨rfl, _, opL4_0 me d0 d1 d2 d3 s0 s1 s2 s3, runClash4_0 me d0 d1 d2 d3 s0 s1 s2 s3⟩
    · obtain ⟨d0, d1, d2, d3, d4, rfl⟩ := exL5 hl
      obtain ⟨s0, s1, s2, s3, s4, rfl⟩ := exL5 (hss.trans hl)
      exact ⟨rfl, _, opL5_0 me d0 d1 d2 d3 d4 s0 s1 s2 s3 s4, runClash5_0 me d0 d1 d2 d3 d4 s0 s1 s2 s3 s4⟩
    · obtain ⟨d0, d1, d2, d3, d4, d5, rfl⟩ := exL6 hl
      obtain ⟨s0, s1, s2, s3, s4, s5, rfl⟩ := exL6 (hss.trans hl)
      exact ⟨rfl, _, opL6_0 me d0 d1 d2 d3 d4 d5 s0 s1 s2 s3 s4 s5, runClash6_0 me d0 d1 d2 d3 d4 d5 s0 s1 s2 s3 s4 s5⟩
    · obtain ⟨d0, d1, d2, d3, d4, d5, d6, rfl⟩ := exL7 hl
      obtain ⟨s0, s1, s2, s3, s4, s5, s6, rfl⟩ := exL7 (hss.trans hl)
      exact ⟨rfl, _, opL7_0 me d0 d1 d2 d3 d4 d5 d6 s0 s1 s2 s3 s4 s5 s6, runClash7_0 me d0 d1 d2 d3 d4 d5 d6 s0 s1 s2 s3 s4 s5 s6⟩
    · obtain ⟨d0, d1, d2, d3, d4, d5, d6, d7, rfl⟩ := exL8 hl
      obtain ⟨s0, s1, s2, s3, s4, s5, s6, s7, rfl⟩ := exL8 (hss.trans hl)
      exact ⟨rfl, _, opL8_0 me d0 d1 d2 d3 d4 d5 d6 d7 s0 s1 s2 s3 s4 s5 s6 s7, runClash8_0 me d0 d1 d2 d3 d4 d5 d6 d7 s0 s1 s2 s3 s4 s5 s6 s7⟩
    · obtain ⟨d0, d1, d2, d3, d4, d5, d6, d7, d8, rfl⟩ := exL9 hl
      obtain ⟨s0, s1, s2, s3, s4, s5, s6, s7, s8, rfl⟩ := exL9 (hss.trans hl)
      exact ⟨rfl, _, opL9_0 me d0 d1 d2 d3 d4 d5 d6 d7 d8 s0 s1 s2 s3 s4 s5 s6 s7 s8, runClash9_0 me d0 d1 d2 d3 d4 d5 d6 d7 d8 s0 s1 s2 s3 s4 s5 s6 s7 s8⟩
    · obtain ⟨d0, d1, d2, d3, d4, d5, d6, d7, d8, d9, rfl⟩ := exL10 hl
      obtain ⟨s0, s1, s2, s3, s4, s5, s6, s7, s8, s9, rfl⟩ := exL10 (hss.trans hl)
      exact ⟨rfl, _, opL10_0 me d0 d1 d2 d3 d4 d5 d6 d7 d8 d9 s0 s1 s2 s3 s4 s5 s6 s7 s8 s9, runClash10_0 me d0 d1 d2 d3 d4 d5 d6 d7 d8 d9 s0 s1 s2 s3 s4 s5 s6 s7 s8 s9⟩
    · obtain ⟨d0, d1, d2, d3, d4, d5, d6, d7, d8, d9, d10, rfl⟩ := exL11 hl
      obtain ⟨s0, s1, s2, s3, s4, s5, s6, s7, s8, s9, s10, rfl⟩ := exL11 (hss.trans hl)
      exact ⟨rfl, _, opL11_0 me d0 d1 d2 d3 d4 d5 d6 d7 d8 d9 d10 s0 s1 s2 s3 s4 s5 s6 s7 s8 s9 s10, runClash11_0 me d0 d1 d2 d3 d4 d5 d6 d7 d8 d9 d10 s0 s1 s2 s3 s4 s5 s6 s7 s8 s9 s10⟩
    · obtain ⟨d0, d1, d2, d3, d4, d5, d6, d7, d8, d9, d10, d11, rfl⟩ := exL12 hl
      obtain ⟨s0, s1, s2, s3, s4, s5, s6, s7, s8, s9, s10, s11, rfl⟩ := exL12 (hss.trans hl)
      exact ⟨rfl, _, opL12_0 me d0 d1 d2 d3 d4 d5 d6 d7 d8 d9 d10 d11 s0 s1 s2 s3 s4 s5 s6 s7 s8 s9 s10 s11, runClash12_0 me d0 d1 d2 d3 d4 d5 d6 d7 d8 d9 d10 d11 s0 s1 s2 s3 s4 s5 s6 s7 s8 s9 s10 s11⟩
  · cases hq
end Go.Proofs.YtjnhaaolbcmdbaaGreatDoor
