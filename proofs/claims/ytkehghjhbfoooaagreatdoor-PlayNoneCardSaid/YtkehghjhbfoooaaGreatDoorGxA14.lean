/- Operations that turn memory: copy and append. -/
import Derived.Test.YtkehghjhbfoooaaGreatDoorGxA13
noncomputable section
namespace Gw
open Go Go.RowKit

section
variable {P : Program} {ρ : Rho} {B : Nat → Prop}

theorem byteVs_VRs (ρ : Rho) : ∀ bs : List UInt8, VRs ρ (byteVs bs) (bs.map fun b => Value.int .u8 b.toNat)
  | [] => by simp [byteVs, VRs]
  | b :: bs => VRs.cons (by simp only [VR]) (byteVs_VRs ρ bs)
theorem byteVs_length : ∀ bs : List UInt8, (byteVs bs).length = bs.length
  | [] => rfl
  | b :: bs => by simp [byteVs, byteVs_length bs]

theorem run_firstCells_str (size n : Nat) (s : List UInt8) (w : World) : (Builtin.firstCells size n (.string ⟨⟨s⟩⟩)).run P w = .ok ((s.take n).map fun b => Value.int .u8 b.toNat).toArray w := by
  simp only [Builtin.firstCells, Sem.run_pure]
  congr 1
  apply Array.ext'
  simp [ByteArray.data_extract]

theorem turns_copy {e : TypeId} {n : Nat} {ats : Array TypeId} {ty t : TypeId} {d s v : V} {D S : Value} {h h' : Heap} {w : World} (H : HR B ρ h w) (h0 : ats[0]? = some t) (hu : P.underlying t = some (.slice e)) (hn : szOf P e = some n)
    (hs : copyV h n d s = some (v, h')) (hd : VR ρ d D) (hx : VR ρ s S) : Turns P B ρ h' w v (do pure (.value (← Builtin.copy_ ats ty #[D, S]))) := by
  -- nothing is copied
  have zero : ∀ (base : Option Addr) (dLen dCap : Nat) (sl : Nat), D = .slice base dLen dCap → (Builtin.lenOf S).run P w = .ok sl w → Nat.min sl dLen = 0 → ((Builtin.firstCells n 0 S).run P w = .ok #[] w) →
      Turns P B ρ h w (.int .i64 0) (do pure (.value (← Builtin.copy_ ats ty #[D, S]))) := by
    intro base dLen dCap sl hD hl hm hf
    subst hD
    refine Turns.of ?_ (by simp only [VR]) (Le.refl _) H (Keeps.refl _ _) (x := .int .i64 0)
    simp only [Builtin.copy_, h0]
    cases base <;> simp [run_underlying hu, hl, hm, run_szOf hn, hf, goInt, storeCells]
  have f0 : ∀ (A : Addr) (len k : Nat), (Builtin.firstCells n 0 (.slice (some A) len k)).run P w = .ok #[] w := fun A len k => by simp [Builtin.firstCells, loadCells, loadCellsFrom]
  have fn : (Builtin.firstCells n 0 (.slice none 0 0)).run P w = .ok #[] w := by simp [Builtin.firstCells]
  have fs : ∀ b, (Builtin.firstCells n 0 (.string b)).run P w = .ok #[] w := fun b => by
    obtain ⟨⟨b⟩⟩ := b
    rw [run_firstCells_str]; rfl
  unfold copyV at hs
  split at hs
  · simp only [VR] at hd
    split at hs
    · simp only [Option.some.injEq, Prod.mk.injEq] at hs; obtain ⟨rfl, rfl⟩ := hs
      simp only [VR] at hx; subst hx
      exact zero none 0 0 0 hd rfl (by simp) fn
    · split at hs
      case isFalse => cases hs
      simp only [Option.some.injEq, Prod.mk.injEq] at hs; obtain ⟨rfl, rfl⟩ := hs
      simp only [VR] at hx
      obtain ⟨A, k, rfl, _⟩ := hx
      exact zero none 0 0 _ hd rfl (by simp) (f0 _ _ _)
    · split at hs
      case isFalse => cases hs
      simp only [Option.some.injEq, Prod.mk.injEq] at hs; obtain ⟨rfl, rfl⟩ := hs
      simp only [VR] at hx; subst hx
      exact zero none 0 0 _ hd rfl (by simp) (fs _)
    · cases hs
  · rename_i id off len e' cp
    split at hs
    case isFalse => cases hs
    rename_i he; subst he
    simp only [VR] at hd
    obtain ⟨A, k, hD, hsr⟩ := hd
    split at hs
    · simp only [Option.some.injEq, Prod.mk.injEq] at hs; obtain ⟨rfl, rfl⟩ := hs
      simp only [VR] at hx; subst hx
      exact zero _ _ _ 0 hD rfl (by simp) fn
    · rename_i id' off' m e'' cp'
      split at hs
      case isFalse => cases hs
      rename_i he; subst he
      simp only [VR] at hx
      obtain ⟨A', k', rfl, hsr'⟩ := hx
      split at hs
      · rename_i hmin
        simp only [Option.some.injEq, Prod.mk.injEq] at hs; obtain ⟨rfl, rfl⟩ := hs
        exact zero _ _ _ m hD rfl hmin (f0 _ _ _)
      · rename_i hmin
        simp only [Option.bind_eq_some_iff, Option.map_eq_some_iff, Prod.mk.injEq] at hs
        obtain ⟨vs, hvs, h2, hw, rfl, rfl⟩ := hs
        have hmle : Nat.min m len ≤ k' := Nat.le_trans (Nat.min_le_left _ _) hsr'.1
        obtain ⟨cs, g1, g2, g3⟩ := H.slice (P := P) hsr' hmle hvs
        have hlpos : 0 < len := by
          rcases Nat.eq_zero_or_pos len with h0 | h0
          · subst h0; simp at hmin
          · exact h0
        obtain ⟨L, hL, hA, _⟩ := hsr.at (by have := hsr.1; omega)
        obtain ⟨w', k1, k2, k3⟩ := H.wrote (P := P) hw g1 hL
        subst hD; subst hA
        refine Turns.of ?_ (by simp only [VR]) (Le.refl _) k2 k3 (x := .int .i64 (Nat.min m len : Nat))
        have hfc : (Builtin.firstCells e'' (Nat.min m len) (.slice (some A') m k')).run P w = .ok cs.toArray w := by simp only [Builtin.firstCells]; exact g3 w rfl
        simp only [Builtin.copy_, h0, List.getElem?_toArray, List.getElem?_cons_zero, List.getElem?_cons_succ]
        simp only [Sem.run_bind, run_underlying hu, Result.andThen_ok, Builtin.lenOf, Sem.run_pure, run_szOf hn, hfc, k1, goInt]
    · rename_i bs
      split at hs
      case isFalse => cases hs
      rename_i he; subst he
      simp only [VR] at hx; subst hx
      split at hs
      · rename_i hmin
        simp only [Option.some.injEq, Prod.mk.injEq] at hs; obtain ⟨rfl, rfl⟩ := hs
        exact zero _ _ _ bs.length hD rfl hmin (fs _)
      · rename_i hmin
        simp only [Option.map_eq_some_iff, Prod.mk.injEq] at hs
        obtain ⟨h2, hw, rfl, rfl⟩ := hs
        have hlpos : 0 < len := by
          rcases Nat.eq_zero_or_pos len with h0 | h0
          · subst h0; simp at hmin
          · exact h0
        obtain ⟨L, hL, hA, _⟩ := hsr.at (by have := hsr.1; omega)
        obtain ⟨w', k1, k2, k3⟩ := H.wrote (P := P) hw (byteVs_VRs ρ _) hL
        subst hD; subst hA
        refine Turns.of ?_ (by simp only [VR]) (Le.refl _) k2 k3 (x := .int .i64 (Nat.min bs.length len : Nat))
        have hfc := run_firstCells_str (P := P) 1 (Nat.min bs.length len) bs w
        have hsz : (⟨⟨bs⟩⟩ : ByteArray).size = bs.length := rfl
        simp only [Builtin.copy_, h0, List.getElem?_toArray, List.getElem?_cons_zero, List.getElem?_cons_succ]
        simp only [Sem.run_bind, run_underlying hu, Result.andThen_ok, Builtin.lenOf, Sem.run_pure, run_szOf hn, hsz, hfc, k1, goInt]
    · cases hs
  · cases hs

/-- Cells are stored behind a slice's own, if there is any. -/
def Stored (P : Program) (w : World) (base : Option Addr) (d : Nat) (xs : List Value) (w' : World) : Prop :=
  match base with
  | some a => (storeCells (a.add d) xs).run P w = .ok () w'
  | none => w' = w

/-- The model's append of a slice's elements, or of a string's bytes, in the ways that it goes. -/
theorem run_append_x {w : World} {e t u ty : TypeId} {esz : Nat} {X : Value} {xs : List Value} {n : Nat} {ats : Array TypeId} {i : TypeInfo} {z0 : Value}
    (h0 : ats[0]? = some t) (h1 : ats[1]? = some u) (hu : P.underlying t = some (.slice e)) (hk : P.underlying u = some .string ∨ ∃ e', P.underlying u = some (.slice e')) (hn : szOf P e = some esz) (hi : P.info? e = some i) (hz : ∀ w, (zeroValue e).run P w = .ok z0 w)
    (hl : (Builtin.lenOf X).run P w = .ok n w) (hc : ∀ w', w'.heap = w.heap → (Builtin.firstCells esz n X).run P w' = .ok xs.toArray w') (base : Option Addr) (sLen sCap : Nat) :
    (∀ w', sLen + n ≤ sCap → Stored P w base (sLen * esz) xs w' → (Builtin.append_ ats ty #[.slice base sLen sCap, X]).run P w = .ok (.slice base (sLen + n) sCap) w') ∧
    (∀ olds : List Value, sCap < sLen + n → (sLen + n) * i.bytes ≤ 70368744177664 → (sLen + n : Nat) ≤ 9223372036854775807 → (∀ w', w'.heap = w.heap → (Builtin.firstCells esz sLen (.slice base sLen sCap)).run P w' = .ok olds.toArray w') →
      (Builtin.append_ ats ty #[.slice base sLen sCap, X]).run P w = .ok (.slice (some ⟨w.heap.size, 0, none⟩) (sLen + n) (grownCap w (sLen + n) sCap e))
        { w with heap := w.heap.push (.cells (olds.toArray ++ xs.toArray ++ Builtin.zeroCells z0.cells (grownCap w (sLen + n) sCap e - (sLen + n))) e), drawn := w.drawn + 1 }) := by
  have hkk : ∃ d, P.underlying u = some d ∧ (∀ k, d ≠ .int k) := by
    rcases hk with hk | ⟨e', hk⟩
    · exact ⟨_, hk, fun k => by simp⟩
    · exact ⟨_, hk, fun k => by simp⟩
  obtain ⟨d, hd, hnd⟩ := hkk
  have hti : ∀ w, (typeInfo e).run P w = .ok i w := fun w => by simp [typeInfo, hi]
  refine ⟨fun w' hle hst => ?_, fun olds hgt hb h63 hold => ?_⟩
  · cases base with
    | none =>
      simp only [Stored] at hst; subst hst
      simp only [Builtin.append_, h0, h1, List.getElem?_toArray, List.getElem?_cons_zero, List.getElem?_cons_succ]
      simp only [Sem.run_bind, run_underlying hu, run_underlying hd, Result.andThen_ok, run_szOf hn, Sem.run_pure, Bool.false_eq_true, if_false, hl, if_pos hle, Bool.not_false, if_true, hc _ rfl]
    | some a =>
      simp only [Stored] at hst
      simp only [Builtin.append_, h0, h1, List.getElem?_toArray, List.getElem?_cons_zero, List.getElem?_cons_succ]
      simp only [Sem.run_bind, run_underlying hu, run_underlying hd, Result.andThen_ok, run_szOf hn, Sem.run_pure, Bool.false_eq_true, if_false, hl, if_pos hle, Bool.not_false, if_true, hc _ rfl, hst]
  · have hfit := growslice_fits (need := sLen + n) (old := sCap) (bytes := i.bytes) hgt (by omega)
    have hmax : IntKind.i64.max = 9223372036854775807 := by decide
    have hc1 : ¬ (((sLen + n : Nat) : Int) > IntKind.i64.max ∧ (false = true ∨ i.bytes = 0)) := by rw [hmax]; omega
    have hc2 : ¬ (Builtin.nextslicecap (sLen + n) sCap * i.bytes > 2 ^ 48) := by
      have : (2 : Nat) ^ 48 = 281474976710656 := by decide
      omega
    have hA := hc { w with drawn := w.drawn + 1 } rfl
    have hO := hold { w with drawn := w.drawn + 1 } rfl
    have hng : ¬ (sLen + n ≤ sCap) := by omega
    simp only [Builtin.append_, h0, h1, List.getElem?_toArray, List.getElem?_cons_zero, List.getElem?_cons_succ]
    simp only [Sem.run_bind, run_underlying hu, run_underlying hd, Result.andThen_ok, run_szOf hn, Sem.run_pure, Bool.false_eq_true, if_false, hl, if_neg hng, hti]
    rw [if_neg (by simpa using hc1)]
    simp only [Sem.run_bind, hti, Result.andThen_ok, if_neg hc2, run_choose, Question.forced, Bool.false_eq_true, if_false, run_askRoom, Bool.not_false, if_true, hO, hA, hz, Sem.run_pure, run_newRow, grownCap]

/-- The model's append of so many zero values. -/
theorem run_append_z {w : World} {e t u ty : TypeId} {esz : Nat} {k : IntKind} {l : Int} {n : Nat} {ats : Array TypeId} {i : TypeInfo} {z0 : Value}
    (h0 : ats[0]? = some t) (h1 : ats[1]? = some u) (hu : P.underlying t = some (.slice e)) (hk : ∃ k, P.underlying u = some (.int k)) (hn : szOf P e = some esz) (hesz : esz ≠ 0) (hi : P.info? e = some i) (hz : ∀ w, (zeroValue e).run P w = .ok z0 w)
    (hl0 : 0 ≤ l) (hl1 : l ≤ 70368744177664) (hl2 : l * i.bytes ≤ 70368744177664) (hln : n = l.toNat) (base : Option Addr) (sLen sCap : Nat) :
    (∀ w', sLen + n ≤ sCap → Stored P w base (sLen * esz) (Builtin.zeroCells z0.cells n).toList w' → (Builtin.append_ ats ty #[.slice base sLen sCap, .int k l]).run P w = .ok (.slice base (sLen + n) sCap) w') ∧
    (∀ olds : List Value, sCap < sLen + n → (sLen + n) * i.bytes ≤ 70368744177664 → (sLen + n : Nat) ≤ 9223372036854775807 → (∀ w', w'.heap = w.heap → (Builtin.firstCells esz sLen (.slice base sLen sCap)).run P w' = .ok olds.toArray w') →
      (Builtin.append_ ats ty #[.slice base sLen sCap, .int k l]).run P w = .ok (.slice (some ⟨w.heap.size, 0, none⟩) (sLen + n) (grownCap w (sLen + n) sCap e))
        { w with heap := w.heap.push (.cells (olds.toArray ++ Builtin.zeroCells z0.cells n ++ Builtin.zeroCells z0.cells (grownCap w (sLen + n) sCap e - (sLen + n))) e), drawn := w.drawn + 1 }) := by
  obtain ⟨kk, hd⟩ := hk
  have hti : ∀ w, (typeInfo e).run P w = .ok i w := fun w => by simp [typeInfo, hi]
  have hw : IntKind.i64.wrap l = l := wrap_in hl0 (by omega)
  have hn1 : ¬ (l < 0) := by omega
  have hn2 : ¬ (l * (i.bytes : Int) > 2 ^ 48) := by omega
  have hcells : ∀ w, (if n * esz = 0 then pure #[] else (do pure (Builtin.zeroCells (← zeroValue e).cells n)) : Sem (Array Value)).run P w = .ok (Builtin.zeroCells z0.cells n) w := by
    intro w
    split
    · rename_i h
      have : n = 0 := by
        rcases Nat.mul_eq_zero.1 h with h | h
        · exact h
        · exact absurd h hesz
      subst this
      simp [Builtin.zeroCells]
    · simp [hz]
  subst hln
  have hai : ∀ w, (asInt (.int k l)).run P w = .ok l w := fun _ => rfl
  refine ⟨fun w' hle hst => ?_, fun olds hgt hb h63 hold => ?_⟩
  · have hcw := hcells w
    simp only [bind_pure_comp] at hcw
    cases base with
    | none =>
      simp only [Stored] at hst; subst hst
      simp only [Builtin.append_, h0, h1, List.getElem?_toArray, List.getElem?_cons_zero, List.getElem?_cons_succ]
      simp only [Sem.run_bind, run_underlying hu, run_underlying hd, Result.andThen_ok, run_szOf hn, Sem.run_pure, hai, hw, if_neg hn1, hti, if_neg hn2, if_pos hle, if_true, Bool.not_true, Bool.false_eq_true, if_false, bind_pure_comp, Sem.run_map, hcw]
    | some a =>
      simp only [Stored] at hst
      simp only [Builtin.append_, h0, h1, List.getElem?_toArray, List.getElem?_cons_zero, List.getElem?_cons_succ]
      simp only [Sem.run_bind, run_underlying hu, run_underlying hd, Result.andThen_ok, run_szOf hn, Sem.run_pure, hai, hw, if_neg hn1, hti, if_neg hn2, if_pos hle, if_true, Bool.not_true, Bool.false_eq_true, if_false, bind_pure_comp, hcw, Sem.run_map, hst]
  · have hfit := growslice_fits (need := sLen + l.toNat) (old := sCap) (bytes := i.bytes) hgt (by omega)
    have hmax : IntKind.i64.max = 9223372036854775807 := by decide
    have hc1 : ¬ (((sLen + l.toNat : Nat) : Int) > IntKind.i64.max ∧ (True ∨ i.bytes = 0)) := by rw [hmax]; omega
    have hc2 : ¬ (Builtin.nextslicecap (sLen + l.toNat) sCap * i.bytes > 2 ^ 48) := by
      have : (2 : Nat) ^ 48 = 281474976710656 := by decide
      omega
    have hA := hcells { w with drawn := w.drawn + 1 }
    simp only [bind_pure_comp] at hA
    have hO := hold { w with drawn := w.drawn + 1 } rfl
    have hng : ¬ (sLen + l.toNat ≤ sCap) := by omega
    simp only [Builtin.append_, h0, h1, List.getElem?_toArray, List.getElem?_cons_zero, List.getElem?_cons_succ]
    simp only [Sem.run_bind, run_underlying hu, run_underlying hd, Result.andThen_ok, run_szOf hn, Sem.run_pure, hai, hw, if_neg hn1, hti, if_neg hn2, if_neg hng, if_true, Bool.not_true, Bool.false_eq_true, if_false]
    rw [if_neg hc1]
    simp only [Sem.run_bind, hti, Result.andThen_ok, if_neg hc2, run_choose, Question.forced, Bool.false_eq_true, if_false, run_askRoom, hO, bind_pure_comp, hA, hz, Sem.run_map, run_newRow, grownCap]

/-- A block that was given away is taken up again, under a new number, from another place on. -/
theorem HR.alias {h : Heap} {w : World} (H : HR B ρ h w) {id : Nat} {b0 : Blk} {L : Loc} (hg : h.get id = some b0) (hrw : b0.rw = true) (hL : ρ id = some L) (hp0 : b0.plain = true) (hB : ¬ B L.b) {o : Obj} {d : Nat} {b1 : Blk} (hp1 : b1.plain = true)
    (hb : ∀ ρ', Le ρ ρ' → BR B ρ' ⟨L.b, L.o + d, L.z⟩ { w with heap := w.heap.setIfInBounds L.b o } b1) :
    Le ρ (fun j => if j = h.n then some ⟨L.b, L.o + d, L.z⟩ else ρ j) ∧
    HR B (fun j => if j = h.n then some ⟨L.b, L.o + d, L.z⟩ else ρ j) (((h.put id (some .dead)).put h.n (some b1)).up 1) { w with heap := w.heap.setIfInBounds L.b o } ∧ Keeps B w { w with heap := w.heap.setIfInBounds L.b o } := by
  have hne : id ≠ h.n := by intro e; have := H.top id (by omega); rw [this] at hg; cases hg
  have hρ := H.new h.n (H.top h.n (Nat.le_refl _))
  have hle : Le ρ (fun j => if j = h.n then some ⟨L.b, L.o + d, L.z⟩ else ρ j) := by
    intro j M hj
    by_cases hji : j = h.n
    · subst hji; rw [hρ] at hj; cases hj
    · simp [hji, hj]
  obtain ⟨K, hbel⟩ := H.write (o := o) (b1 := .dead) hg hrw hp0 rfl hL hB trivial
  have hF0 : Foot w L b0 [L.b] := (Foot.plain hp0 _).2 rfl
  have get_eq : ∀ j, (((h.put id (some .dead)).put h.n (some b1)).up 1).get j = if j = h.n then some b1 else (h.put id (some .dead)).get j := by
    intro j; rw [Heap.get_up, Heap.get_put]
  -- what is none of these two is as it was
  have oth : ∀ k c M, k ≠ id → h.get k = some c → c ≠ .dead → ρ k = some M → ∀ G, Foot { w with heap := w.heap.setIfInBounds L.b o } M c G → L.b ∉ G := by
    intro k c M hki hk hcd hM G hG hin
    obtain ⟨G', hG', _⟩ := H.foot hk hM
    have hnot : L.b ∉ G' := H.inj id k b0 c L M hg hk (Ne.symm hki) hrw hcd hL hM _ G' hF0 hG' L.b (by simp)
    have : G' = G := hG'.congr (fun x hx => by
      have hne : L.b ≠ x := fun e => hnot (e ▸ hx)
      simp [Array.getElem?_setIfInBounds_ne hne]) hG
    subst this
    exact hnot hin
  refine ⟨hle, ⟨fun j b hj => ?_, fun j k b c Lj Mk hj hk hn hbw hcd h1 h2 F G hF hG => ?_, fun j hj => ?_, fun j hj => ?_, fun j Lj hj => ?_, K.low⟩, hbel⟩
  · rw [get_eq] at hj
    by_cases hji : j = h.n
    · subst hji; simp at hj; subst hj; exact ⟨_, by simp, hb _ hle⟩
    · rw [if_neg hji] at hj
      obtain ⟨Lj, g1, g2⟩ := K.blk j b hj
      exact ⟨Lj, by simp [hji, g1], g2.mono hle⟩
  · rw [get_eq] at hj hk
    by_cases hji : j = h.n
    · subst hji
      rw [if_neg (Ne.symm hn)] at hk
      simp at h1; subst h1
      simp at hj; subst hj
      simp [Ne.symm hn] at h2
      rw [(Foot.plain hp1 _).1 hF]
      -- k is another block: not the one that was given away
      rw [Heap.get_put] at hk
      by_cases hki : k = id
      · rw [if_pos hki] at hk; simp only [Option.some.injEq] at hk; exact absurd hk.symm hcd
      · rw [if_neg hki] at hk
        intro x hx; simp at hx; subst hx
        exact oth k c Mk hki hk hcd h2 G hG
    · rw [if_neg hji] at hj
      simp [hji] at h1
      by_cases hki : k = h.n
      · subst hki
        simp at h2; subst h2
        simp at hk; subst hk
        rw [(Foot.plain hp1 _).1 hG]
        rw [Heap.get_put] at hj
        by_cases hjd : j = id
        · rw [if_pos hjd] at hj; simp only [Option.some.injEq] at hj; subst hj; simp [Blk.rw] at hbw
        · rw [if_neg hjd] at hj
          intro x hx hx'; simp at hx'; subst hx'
          exact oth j b Lj hjd hj (by intro e; subst e; simp [Blk.rw] at hbw) h1 F hF hx
      · rw [if_neg hki] at hk
        simp [hki] at h2
        exact K.inj j k b c Lj Mk hj hk hn hbw hcd h1 h2 F G hF hG
  · rw [get_eq] at hj
    by_cases hji : j = h.n
    · subst hji; simp at hj
    · rw [if_neg hji] at hj; simp [hji, K.new j hj]
  · simp only [Heap.up_n, Heap.put_n] at hj
    rw [get_eq, if_neg (by omega)]
    exact K.top j (by simp only [Heap.put_n]; omega)
  · by_cases hji : j = h.n
    · simp [hji] at hj; subst hj; exact K.lt id L hL
    · simp [hji] at hj; exact K.lt j Lj hj

/-- The two ways of the model's append, whatever is added. -/
structure App (P : Program) (w : World) (e : TypeId) (esz bytes : Nat) (z0 : Value) (ats : Array TypeId) (ty : TypeId) (X : Value) (xs : List Value) (n : Nat) : Prop where
  stay : ∀ (base : Option Addr) (sLen sCap : Nat) (w' : World), sLen + n ≤ sCap → Stored P w base (sLen * esz) xs w' → (Builtin.append_ ats ty #[.slice base sLen sCap, X]).run P w = .ok (.slice base (sLen + n) sCap) w'
  grow : ∀ (base : Option Addr) (sLen sCap : Nat) (olds : List Value), sCap < sLen + n → (sLen + n) * bytes ≤ 70368744177664 → (sLen + n : Nat) ≤ 9223372036854775807 → (∀ w', w'.heap = w.heap → (Builtin.firstCells esz sLen (.slice base sLen sCap)).run P w' = .ok olds.toArray w') →
      (Builtin.append_ ats ty #[.slice base sLen sCap, X]).run P w = .ok (.slice (some ⟨w.heap.size, 0, none⟩) (sLen + n) (grownCap w (sLen + n) sCap e))
        { w with heap := w.heap.push (.cells (olds.toArray ++ xs.toArray ++ Builtin.zeroCells z0.cells (grownCap w (sLen + n) sCap e - (sLen + n))) e), drawn := w.drawn + 1 }

theorem turns_append {w : World} {e ty : TypeId} {esz bytes : Nat} {z0 : Value} {ats : Array TypeId} {X : Value} {xs : List Value} {vs : List V} {n : Nat} {h h' : Heap} {s v : V} {S : Value} (A : App P w e esz bytes z0 ats ty X xs n) (H : HR B ρ h w)
    (hz : z0.cells.size = esz) (hbytes : 0 < bytes) (hv : VRs ρ vs xs) (hlen : xs.length = n * esz) (hs : appendV h esz bytes s vs n = some (v, h')) (hS : VR ρ s S) : Turns P B ρ h' w v (do pure (.value (← Builtin.append_ ats ty #[S, X]))) := by
  have b63 : ∀ m : Nat, m * bytes ≤ 70368744177664 → m ≤ 9223372036854775807 := by
    intro m hm
    have : m * 1 ≤ m * bytes := Nat.mul_le_mul_left m hbytes
    omega
  unfold appendV at hs
  split at hs
  case isFalse => cases hs
  rename_i hone
  split at hs
  · -- nil
    simp only [VR] at hS; subst hS
    split at hs
    · rename_i h0
      simp only [Option.some.injEq, Prod.mk.injEq] at hs; obtain ⟨rfl, rfl⟩ := hs
      subst h0
      exact Turns.of (A.stay none 0 0 w (by omega) (by simp only [Stored])) (by simp only [VR]) (Le.refl _) H (Keeps.refl _ _)
    · rename_i h0
      split at hs
      case isFalse => cases hs
      rename_i hb
      simp only [Option.some.injEq, Prod.mk.injEq] at hs; obtain ⟨rfl, rfl⟩ := hs
      have hrun := A.grow none 0 0 [] (by omega) (by simpa using hb) (by simpa using b63 n hb) (fun w' _ => by simp [Builtin.firstCells])
      simp only [Nat.zero_add] at hrun
      have hcap := grownCap_ge w n 0 e
      have hi : h.get h.n = none := H.top h.n (Nat.le_refl _)
      have H' := H.up 1
      have hsize : (([] : List Value).toArray ++ xs.toArray ++ Builtin.zeroCells z0.cells (grownCap w n 0 e - n)).size = grownCap w n 0 e * esz := by
        simp only [Array.size_append, List.size_toArray, Builtin.zeroCells, Array.size_map, Array.size_range, hz, hlen]
        simp only [List.length_nil, Nat.zero_add, ← Nat.add_mul]
        congr 1; omega
      obtain ⟨g1, g2, g3⟩ := H'.make (i := h.n) (by simp [Heap.up_n]) (by rw [Heap.get_up]; exact hi) (b := .cells false vs) rfl (L := ⟨w.heap.size, 0, (([] : List Value).toArray ++ xs.toArray ++ Builtin.zeroCells z0.cells (grownCap w n 0 e - n)).size⟩) rfl
        (w' := { w with heap := w.heap.push (.cells (([] : List Value).toArray ++ xs.toArray ++ Builtin.zeroCells z0.cells (grownCap w n 0 e - n)) e), drawn := w.drawn + 1 }) rfl rfl rfl rfl
        (BR_new hv ⟨(Builtin.zeroCells z0.cells (grownCap w n 0 e - n)).toList, by simp⟩ (e := e) (fz := (0, 0)) (by simp) H.fresh (.inl rfl))
      rw [Heap.put_up] at g2
      refine Turns.of hrun ?_ g1 g2 g3
      simp only [VR]
      exact ⟨_, _, rfl, hcap, fun c hc => (by cases hc), ⟨⟨w.heap.size, 0, (([] : List Value).toArray ++ xs.toArray ++ Builtin.zeroCells z0.cells (grownCap w n 0 e - n)).size⟩, by simp, by simp, .inr ⟨by simp, by simp only [hsize]; omega⟩⟩⟩
  · rename_i id off len e' cp
    split at hs
    case isFalse => cases hs
    rename_i he; subst he
    have hS' := hS
    simp only [VR] at hS
    obtain ⟨a, k, rfl, hsr⟩ := hS
    split at hs
    · rename_i h0
      simp only [Option.some.injEq, Prod.mk.injEq] at hs; obtain ⟨rfl, rfl⟩ := hs
      subst h0
      have hxs : xs = [] := List.eq_nil_of_length_eq_zero (by rw [hlen]; simp)
      subst hxs
      exact Turns.of (A.stay (some a) len k w (by have := hsr.1; omega) (by simp [Stored, storeCells])) hS' (Le.refl _) H (Keeps.refl _ _)
    · rename_i h0
      split at hs
      case isFalse => cases hs
      rename_i hb
      -- how the model's append grows, the old cells known
      have grows : ∀ (h1 : Heap) (old : List V) (olds : List Value), HR B ρ h1 w → k < len + n → VRs ρ old olds → olds.length = len * e' → (∀ w', w'.heap = w.heap → (Builtin.firstCells e' len (.slice (some a) len k)).run P w' = .ok olds.toArray w') →
          Turns P B ρ ((h1.put h1.n (some (.cells false (old ++ vs)))).up 1) w (.slice h1.n 0 (len + n) e' none) (do pure (.value (← Builtin.append_ ats ty #[.slice (some a) len k, X]))) := by
        intro h1 old olds H1 hgt hold hol hfc
        have hrun := A.grow (some a) len k olds hgt hb (b63 _ hb) hfc
        have hcap := grownCap_ge w (len + n) k e
        have hi : h1.get h1.n = none := H1.top h1.n (Nat.le_refl _)
        have H' := H1.up 1
        have hsize : (olds.toArray ++ xs.toArray ++ Builtin.zeroCells z0.cells (grownCap w (len + n) k e - (len + n))).size = grownCap w (len + n) k e * e' := by
          simp only [Array.size_append, List.size_toArray, Builtin.zeroCells, Array.size_map, Array.size_range, hz, hlen, hol]
          simp only [← Nat.add_mul]
          congr 1; omega
        obtain ⟨g1, g2, g3⟩ := H'.make (i := h1.n) (by simp [Heap.up_n]) (by rw [Heap.get_up]; exact hi) (b := .cells false (old ++ vs)) rfl (L := ⟨w.heap.size, 0, (olds.toArray ++ xs.toArray ++ Builtin.zeroCells z0.cells (grownCap w (len + n) k e - (len + n))).size⟩) rfl
          (w' := { w with heap := w.heap.push (.cells (olds.toArray ++ xs.toArray ++ Builtin.zeroCells z0.cells (grownCap w (len + n) k e - (len + n))) e), drawn := w.drawn + 1 }) rfl rfl rfl rfl
          (BR_new (hold.append hv) ⟨(Builtin.zeroCells z0.cells (grownCap w (len + n) k e - (len + n))).toList, by simp⟩ (e := e) (fz := (0, 0)) (by simp) H1.fresh (.inl rfl))
        rw [Heap.put_up] at g2
        refine Turns.of hrun ?_ g1 g2 g3
        simp only [VR]
        exact ⟨_, _, rfl, hcap, fun c hc => (by cases hc), ⟨⟨w.heap.size, 0, (olds.toArray ++ xs.toArray ++ Builtin.zeroCells z0.cells (grownCap w (len + n) k e - (len + n))).size⟩, by simp, by simp, .inr ⟨by simp, by simp only [hsize]; omega⟩⟩⟩
      split at hs
      · -- the capacity is known
        rename_i c
        have hkc := hsr.2.1 c rfl
        subst hkc
        split at hs
        · rename_i hle
          simp only [Option.map_eq_some_iff, Prod.mk.injEq] at hs
          obtain ⟨h2, hw, rfl, rfl⟩ := hs
          obtain ⟨L, hL, ha, hroom⟩ := hsr.at (by omega)
          obtain ⟨w', k1, k2, k3⟩ := H.wrote (P := P) hw hv hL
          subst ha
          refine Turns.of (A.stay _ len k w' hle (by simp only [Stored]; rw [add_at]; exact k1)) ?_ (Le.refl _) k2 k3
          simp only [VR]
          exact ⟨_, _, rfl, hle, fun c hc => by simpa using hc, SR.here hL rfl hroom⟩
        · rename_i hgt
          simp only [Option.map_eq_some_iff, Prod.mk.injEq] at hs
          obtain ⟨old, hold, rfl, rfl⟩ := hs
          obtain ⟨cs, q1, q2, q3⟩ := H.slice (P := P) hsr hsr.1 hold
          exact grows h old cs H (by omega) q1 q2 fun w' he => by simp only [Builtin.firstCells]; exact q3 w' he
      · -- the capacity is open
        simp only [Option.bind_eq_some_iff, Option.map_eq_some_iff, Prod.mk.injEq] at hs
        obtain ⟨l, hl, old, hold, rfl, rfl⟩ := hs
        have hg := rowW_get hl
        have hrow : rowOf h id = some l := by simp [rowOf, hg]
        by_cases hgt : k < len + n
        · have hrd : rdN h id off (len * e') = some old := by
            unfold rdN
            split
            · rename_i h0
              rw [h0] at hold
              obtain ⟨p1, _, p3⟩ := cellsAt_some l off 0 old hold
              rw [List.eq_nil_of_length_eq_zero p3]
            · rw [hrow]; exact hold
          obtain ⟨cs, q1, q2, q3⟩ := H.slice (P := P) hsr hsr.1 hrd
          exact grows (h.put id (some .dead)) old cs (H.kill hg) hgt q1 q2 fun w' he => by simp only [Builtin.firstCells]; exact q3 w' he
        · obtain ⟨L, hL, ha, hroom⟩ := hsr.at (by omega)
          subst ha
          obtain ⟨L', hL', c, ee, fz, h1, h2, h3, h4, h5⟩ := H.blk id _ hg
          rw [hL] at hL'; simp only [Option.some.injEq] at hL'; subst hL'
          obtain ⟨hB, hfz⟩ := h5 rfl
          obtain ⟨p1, p2, p3⟩ := cellsAt_some l off (len * e') old hold
          have hmul : (len + n) * e' ≤ k * e' := Nat.mul_le_mul_right e' (by omega)
          have hadd : (len + n) * e' = len * e' + n * e' := Nat.add_mul _ _ _
          obtain ⟨c', g1, g2, g3⟩ := run_storeCells_row (P := P) L.b (L.o + (off + len * e')) ee fz xs 0 c w h1 (by omega) (by rw [h2]; exact hfz) (VRs.one hv hone)
          have hvl := VRs.length hv
          have hsz : L.b < w.heap.size := H.lt id L hL
          obtain ⟨k1, k2, k3⟩ := H.alias hg rfl hL rfl hB (o := .cells c' ee fz) (d := off) (b1 := .cells false (old ++ vs)) rfl (fun ρ' hle' => ⟨c', ee, fz, by simp [hsz], by simp only; rw [g2, h2], by simp only [List.length_append, p3]; omega, fun j v hj => by
            simp only
            rw [g3 (L.o + off + j)]
            by_cases hjo : j < len * e'
            · rw [if_neg (by omega)]
              rw [List.getElem?_append_left (by omega)] at hj
              rw [p1] at hj
              simp [hjo] at hj
              obtain ⟨x, hx, hr⟩ := h4 (off + j) v hj
              exact ⟨x, by rw [← hx]; congr 1; omega, hr.mono hle'⟩
            · rw [List.getElem?_append_right (by omega), p3] at hj
              have hjv : j - len * e' < vs.length := by
                obtain ⟨hlt, _⟩ := List.getElem?_eq_some_iff.1 hj
                exact hlt
              rw [if_pos (by omega)]
              obtain ⟨y, hy, hr⟩ := hv.get hj
              exact ⟨y, by rw [← hy]; congr 1; omega, hr.mono hle'⟩, fun _ => ⟨hB, hfz⟩⟩)
          refine Turns.of (A.stay _ len k _ (by omega) (by simp only [Stored]; rw [add_at]; exact g1)) ?_ k1 k2 k3
          simp only [VR]
          exact ⟨_, _, rfl, by omega, fun c hc => (by cases hc), ⟨⟨L.b, L.o + off, L.z⟩, by simp, by simp, .inr ⟨by simp, by simp only; omega⟩⟩⟩
  · cases hs

end

end Gw
