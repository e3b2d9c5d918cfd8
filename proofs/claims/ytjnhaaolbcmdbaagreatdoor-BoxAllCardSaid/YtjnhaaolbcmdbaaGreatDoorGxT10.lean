/- Loops with slices that move on: a slice is seen from where it begins. -/
import Derived.Test.YtjnhaaolbcmdbaaGreatDoorGxT9
namespace Gw
open Go Go.RowKit

/-- A slot's slice gets a name of its own, from where it begins. -/
def rewin1 (s : Nat) (p : List V × Heap) : List V × Heap :=
  match nth p.1 s with
  | .slice i off n e _ => match rowW p.2 i with
    | some l => (upd p.1 s (.slice p.2.n 0 n e none), ((p.2.put i (some .dead)).put p.2.n (some (.cells false ((l.drop off).take (n * e))))).up 1)
    | none => p
  | _ => p
def rewins : List Nat → List V × Heap → List V × Heap
  | [], p => p
  | s :: l, p => rewins l (rewin1 s p)

theorem upd_len : ∀ (t : List V) (s : Nat) (v : V), (upd t s v).length = t.length := fun t s v => by rw [upd_eq]; simp

theorem RelR.rewin1 {B : Nat → Prop} {ρ : Rho} {a : Act} {w : World} (s : Nat) {t : List V} {h : Heap} (R : RelR B ρ t h a w) : ∃ ρ', Le ρ ρ' ∧ RelR B ρ' (rewin1 s (t, h)).1 (rewin1 s (t, h)).2 a w := by
  unfold Gw.rewin1
  split
  · rename_i i off n e cc hs
    simp only at hs
    split
    · rename_i l hl
      have hg := rowW_get hl
      obtain ⟨L, hL, c0, et, fz, h1, h2, h3, h4, h5⟩ := R.hr.blk i _ hg
      have hx := TR.nth R.tr s
      rw [hs] at hx
      simp only [VR] at hx
      obtain ⟨ad, k, hxe, hnk, _, L', hL', hbl, hk⟩ := hx
      rw [hL] at hL'; simp only [Option.some.injEq] at hL'; subst hL'
      let d := if k = 0 then 0 else off
      have hset : w.heap.setIfInBounds L.b (.cells c0 et fz) = w.heap := by
        apply Array.ext_getElem?
        intro j
        rw [Array.getElem?_setIfInBounds]
        split
        · rename_i hj
          subst hj
          split
          · exact h1.symm
          · rename_i hnl; rw [Array.getElem?_eq_none (by omega)]
        · rfl
      have hwin : (k = 0 → (l.drop off).take (n * e) = []) ∧ (k ≠ 0 → L.o + off + ((l.drop off).take (n * e)).length ≤ L.z) := by
        refine ⟨fun h0 => ?_, fun h0 => ?_⟩
        · have : n = 0 := by omega
          subst this; simp
        · rcases hk with hk | ⟨_, hk⟩
          · exact absurd hk h0
          · have : n * e ≤ k * e := Nat.mul_le_mul_right e hnk
            simp only [List.length_take]
            omega
      obtain ⟨hle, H', _⟩ := R.hr.alias (o := .cells c0 et fz) (d := d) (b1 := .cells false ((l.drop off).take (n * e))) hg rfl hL rfl (h5 rfl).1 rfl fun ρ' hle => by
        rw [hset]
        refine ⟨c0, et, fz, h1, h2, ?_, fun j v hj => ?_, fun _ => h5 rfl⟩
        · simp only [d]
          by_cases h0 : k = 0
          · rw [if_pos h0, hwin.1 h0]; simp; omega
          · rw [if_neg h0]; exact hwin.2 h0
        · have hk0 : k ≠ 0 := by
            intro h0; rw [hwin.1 h0] at hj; simp at hj
          simp only [d, if_neg hk0]
          have hj' : l[off + j]? = some v := by
            rw [List.getElem?_take] at hj
            split at hj
            · rwa [List.getElem?_drop] at hj
            · cases hj
          obtain ⟨x, hx1, hx2⟩ := h4 (off + j) v hj'
          exact ⟨x, by rw [← hx1, Nat.add_assoc], VR.mono hle _ _ hx2⟩
      rw [hset] at H'
      refine ⟨_, hle, R.gr.mono hle, ?_, H'⟩
      simp only [TR]
      have := fills_VRs (ρ := fun j => if j = h.n then some ⟨L.b, L.o + d, L.z⟩ else ρ j) [s] [.slice h.n 0 n e none] t (VRs.mono hle _ _ R.tr) fun k' s' v h1' h2' x hx' => by
        cases k' with
        | succ k' => simp at h1'
        | zero =>
          simp at h1' h2'
          subst h1' h2'
          have hxx : a.tmps.getD s undef = x := by
            rw [Array.getD_eq_getD_getElem?, ← Array.getElem?_toList, hx']; rfl
          rw [hxx] at hxe
          simp only [VR]
          refine ⟨ad, k, hxe, hnk, fun c' hc' => (by cases hc'), ⟨L.b, L.o + d, L.z⟩, by simp, hbl, ?_⟩
          rcases hk with hk | ⟨hk1, hk2⟩
          · exact .inl hk
          · by_cases h0 : k = 0
            · exact .inl h0
            · right
              simp only [d, if_neg h0, Nat.add_zero]
              exact ⟨hk1, hk2⟩
      exact this
    · exact ⟨ρ, Le.refl _, R⟩
  · exact ⟨ρ, Le.refl _, R⟩
theorem RelR.rewins {B : Nat → Prop} {a : Act} {w : World} : ∀ (l : List Nat) {ρ : Rho} {t : List V} {h : Heap}, RelR B ρ t h a w → ∃ ρ', Le ρ ρ' ∧ RelR B ρ' (rewins l (t, h)).1 (rewins l (t, h)).2 a w
  | [], ρ, _, _, R => ⟨ρ, Le.refl _, R⟩
  | s :: l, ρ, t, h, R => by
    obtain ⟨ρ1, l1, R1⟩ := R.rewin1 s
    obtain ⟨ρ2, l2, R2⟩ := RelR.rewins l R1
    exact ⟨ρ2, l1.trans l2, R2⟩

/-- A loop; 'wins': slots whose slices are seen from where they begin. -/
structure LoopW (ι : Type) where
  nt : Nat
  fr : Ex → Frm
  wins : List Nat
  S : ι → Snap
  out : ι → DT (Ex × Snap)
  pick : Snap → ι
variable {ι : Type}
def LoopW.lt (l : LoopW ι) (t : List V) (h : Heap) : DT (Ex × List V × Heap) :=
  lookT l.nt (l.fr .normal) (rewins l.wins (t, h)).1 (rewins l.wins (t, h)).2 fun s => .ob (s = l.S (l.pick s)) ((l.out (l.pick s)).bind fun r => .leaf (r.1, mkT l.nt (l.fr r.1).live r.2.1, mkH r.2.2))
def LoopW.end_ (l : LoopW ι) (ex : Ex) (t : List V) (_ : List Nat) (h : Heap) : DT (Ex × Snap) := lookT l.nt (l.fr ex) (rewins l.wins (t, h)).1 (rewins l.wins (t, h)).2 fun s => .leaf (ex, s)
def LoopW.t0 (l : LoopW ι) (i : ι) : List V := mkT l.nt (l.fr .normal).live (l.S i).1
def LoopW.h0 (l : LoopW ι) (i : ι) : Heap := mkH (l.S i).2
def LoopW.next (l : LoopW ι) (μ : ι → Nat) (i : ι) (Pr : Ex × Snap → Prop) (r : Ex × Snap) : Prop :=
  match r.1 with
  | .normal => ∃ j, r.2 = l.S j ∧ μ j < μ i ∧ (l.out j).sat Pr
  | ex => Pr (ex, r.2)

theorem lt1_loopW {P : Program} {hint : Nat → List Nat} {m : Nat} {c : DC} (l : LoopW ι) (μ : ι → Nat) (hfr : ∀ ex, NG ≤ (l.fr ex).n0 ∧ m ≤ (l.fr ex).n0)
    (hstep : ∀ code, cCode P hint code = some c → ∀ i Pr, (l.out i).sat Pr → WpT P m code (l.t0 i) (l.h0 i) fun ex t h => (rewins l.wins (t, h)).1.length = l.nt ∧ (l.fr ex).ok (rewins l.wins (t, h)).1 (rewins l.wins (t, h)).2 = true ∧ l.next μ i Pr (ex, (l.fr ex).vs (rewins l.wins (t, h)).1 (rewins l.wins (t, h)).2, (l.fr ex).bs (rewins l.wins (t, h)).1 (rewins l.wins (t, h)).2)) :
    Lt1 P hint m l.lt c := by
  intro code hc t h Pr hs B ρ a w Q RR hQ
  obtain ⟨h1, h2, h3, h4⟩ := lookT_in hs
  obtain ⟨ρw, lw, RW⟩ := RR.rewins l.wins
  obtain ⟨ρ0, l0, R0⟩ := RW.frame (l.fr .normal) (hfr _).1 h2
  have h5 := bind_sat h4
  have l0' : LeN m ρ ρ0 := fun i L hi hL => l0 i L (Nat.lt_of_lt_of_le hi (hfr .normal).2) (lw i L hL)
  generalize hi0 : l.pick ((l.fr .normal).vs (rewins l.wins (t, h)).1 (rewins l.wins (t, h)).2, (l.fr .normal).bs (rewins l.wins (t, h)).1 (rewins l.wins (t, h)).2) = i0 at h3 h5
  let Pr' : Ex × Snap → Prop := fun r => Pr (r.1, mkT l.nt (l.fr r.1).live r.2.1, mkH r.2.2)
  have h6 : (l.out i0).sat Pr' := h5
  have R1 : RelR B ρ0 (l.t0 i0) (l.h0 i0) a w := by
    have e1 : (l.fr .normal).vs (rewins l.wins (t, h)).1 (rewins l.wins (t, h)).2 = (l.S i0).1 := by rw [← h3]
    have e2 : (l.fr .normal).bs (rewins l.wins (t, h)).1 (rewins l.wins (t, h)).2 = (l.S i0).2 := by rw [← h3]
    rw [e1, e2, h1] at R0
    exact R0
  let J : Nat → Act → World → Prop := fun n a' w' => ∃ i ρ', μ i = n ∧ (l.out i).sat Pr' ∧ LeN m ρ ρ' ∧ RelR B ρ' (l.t0 i) (l.h0 i) a' w' ∧ Keeps B w w' ∧ a'.defers = a.defers
  refine Go.wp_loop_ghost J (μ i0) ⟨i0, ρ0, rfl, h6, l0', R1, Keeps.refl _ _, rfl⟩ ?_
  rintro n a1 w1 ⟨i, ρ1, rfl, ho, hle, R, hk, hd⟩
  refine hstep code hc i Pr' ho B ρ1 a1 w1 _ R fun ex t' h' ρ' a' w' ⟨e1, e2, e3⟩ hle' R' hk' hd' => ?_
  obtain ⟨ρv, lv, RV⟩ := R'.rewins l.wins
  obtain ⟨ρ2, l2, R2⟩ := RV.frame (l.fr ex) (hfr _).1 e2
  have l2' : LeN m ρ ρ2 := (hle.trans hle').trans fun i L hi hL => l2 i L (Nat.lt_of_lt_of_le hi (hfr ex).2) (lv i L hL)
  rw [e1] at R2
  cases ex with
  | normal =>
    obtain ⟨j, e4, e5, e6⟩ := e3
    have e7 : (l.fr .normal).vs (rewins l.wins (t', h')).1 (rewins l.wins (t', h')).2 = (l.S j).1 := by rw [← e4]
    have e8 : (l.fr .normal).bs (rewins l.wins (t', h')).1 (rewins l.wins (t', h')).2 = (l.S j).2 := by rw [← e4]
    rw [e7, e8] at R2
    exact ⟨μ j, e5, j, ρ2, rfl, e6, l2', R2, hk.trans hk', hd'.trans hd⟩
  | exit x => exact hQ (.exit x) _ _ ρ2 a' w' e3 l2' R2 (hk.trans hk') (hd'.trans hd)
  | ret => exact hQ .ret _ _ ρ2 a' w' e3 l2' R2 (hk.trans hk') (hd'.trans hd)

theorem LoopW.lt1 {P : Program} (hm : P.follows .mixedOrders = true) {px : PTab} {ox : OTab} (hT : TabX P px ox) {D : Nat → Option DF} (hD : Tab P D) {hint : Nat → List Nat} {m : Nat} (l : LoopW ι) (μ : ι → Nat) (hfr : ∀ ex, NG ≤ (l.fr ex).n0 ∧ m ≤ (l.fr ex).n0)
    {k : Nat} {c : DC} (hl : (loopsIn k c).isEmpty = true) {orcs : Nat → Orc} {sts : Nat → List Nat} {n : Nat} {orc : ι → Orc} {st : List Nat} {tree : ι → DT (Ex × Snap)}
    (ht : ∀ i, codeT (callT (mkXT px ox) (mkXP px) (mkX px ox) D orcs sts (n + 1)) (callN (mkX px ox) D (n + 1)) (mkXP px) (orc i) st noLt k c (l.t0 i) [] (l.h0 i) l.end_ = tree i)
    (hs : ∀ i Pr, (l.out i).sat Pr → (tree i).sat (l.next μ i Pr)) : Lt1 P hint m l.lt c := by
  refine lt1_loopW l μ hfr fun code hc i Pr ho => ?_
  have h1 := hs i Pr ho
  rw [← ht i] at h1
  have hXs := hT.ext
  refine (codeT_wp (L := fun _ _ => False) (lt := noLt) hm (sd_call hm hXs hD (n + 1)) (fr_callN (fun f g h => (hXs f g h).1) D (n + 1)) (callT_ok (xtOk_mk px ox) (xpX_mk px ox) D orcs sts (n + 1)) (xpOk (xpX_mk px ox) D n) (fun _ _ h => h.elim) code k c hc (fun p hp => ?_) _ _ _ _ h1).mono ?_
  · rw [List.isEmpty_iff] at hl; rw [hl] at hp; simp at hp
  · rintro ex t h ⟨kn, hq⟩
    obtain ⟨e1, e2, e3⟩ := lookT_in hq
    exact ⟨e1, e2, e3⟩

/-- The same; loops in its body are gone through round by round. -/
theorem LoopW.lt1u {P : Program} (hm : P.follows .mixedOrders = true) {px : PTab} {ox : OTab} (hT : TabX P px ox) {D : Nat → Option DF} (hD : Tab P D) {hint : Nat → List Nat} {m : Nat} (l : LoopW ι) (μ : ι → Nat) (hfr : ∀ ex, NG ≤ (l.fr ex).n0 ∧ m ≤ (l.fr ex).n0)
    {k : Nat} {c : DC} {orcs : Nat → Orc} {sts : Nat → List Nat} {n : Nat} {orc : ι → Orc} {st : List Nat} {tree : ι → DT (Ex × Snap)}
    (ht : ∀ i, codeT (callT (mkXT px ox) (mkXP px) (mkX px ox) D orcs sts (n + 1)) (callN (mkX px ox) D (n + 1)) (mkXP px) (orc i) st noLt k c (l.t0 i) [] (l.h0 i) l.end_ = tree i)
    (hs : ∀ i Pr, (l.out i).sat Pr → (tree i).sat (l.next μ i Pr)) : Lt1 P hint m l.lt c := by
  refine lt1_loopW l μ hfr fun code hc i Pr ho => ?_
  have h1 := hs i Pr ho
  rw [← ht i] at h1
  have hXs := hT.ext
  refine (codeT_wp (L := fun _ _ => True) (lt := noLt) hm (sd_call hm hXs hD (n + 1)) (fr_callN (fun f g h => (hXs f g h).1) D (n + 1)) (callT_ok (xtOk_mk px ox) (xpX_mk px ox) D orcs sts (n + 1)) (xpOk (xpX_mk px ox) D n) (fun _ _ _ _ _ _ _ _ h => absurd h (fun q => q)) code k c hc (fun _ _ => trivial) _ _ _ _ h1).mono ?_
  · rintro ex t h ⟨kn, hq⟩
    obtain ⟨e1, e2, e3⟩ := lookT_in hq
    exact ⟨e1, e2, e3⟩
end Gw
