/- Loops: states are looked at through a frame; what is not in it is forgotten. -/
import Derived.Test.YtkehghjhbfoooaaGreatDoorGxT1c
import Derived.Deep.LoopGhost
noncomputable section
namespace Gw
open Go Go.RowKit

/-- Where a name is read that is to have a place of its own. -/
inductive Wy where
  | t (s : Nat)
  | c (id k : Nat)
  | d (w : Wy) (k : Nat)
def nameOf : V → Option Nat
  | .ptr i _ => some i
  | .slice i _ _ _ _ => some i
  | _ => none
def Wy.src (t : List V) (h : Heap) : Wy → Option Nat
  | .t s => nameOf (nth t s)
  | .c id k => match h.get id with
    | some (.cells _ l) => nameOf (nth l k)
    | _ => none
  | .d w k => match w.src t h with
    | some i => (match h.get i with
      | some (.cells _ l) => nameOf (nth l k)
      | _ => none)
    | none => none
/-- Slots that are looked at; the names below 'n0' stay; others are read on ways. -/
structure Frm where
  live : List Nat
  n0 : Nat
  ways : List Wy

mutual
def mskV (f : Nat → Option Nat) : V → V
  | .ptr i o => match f i with | some j => .ptr j o | none => anyV
  | .slice i o n e c => match f i with | some j => .slice j o n e c | none => anyV
  | .map i => match f i with | some j => .map j | none => anyV
  | .func n l => .func n (mskVs f l)
  | .iface t v => .iface t (mskV f v)
  | .agg l => .agg (mskVs f l)
  | .tup l => .tup (mskVs f l)
  | .bool b => .bool b
  | .int k n => .int k n
  | .str s => .str s
  | .nilp => .nilp
  | .nils => .nils
  | .nilm => .nilm
  | .nilf => .nilf
  | .nili => .nili
def mskVs (f : Nat → Option Nat) : List V → List V
  | [] => []
  | v :: l => mskV f v :: mskVs f l
end
def mskB (f : Nat → Option Nat) : Blk → Blk
  | .cells ro l => .cells ro (mskVs f l)
  | .mp _ => .dead
  | .iter s p => .iter s p
  | .obj x => .obj x
  | .dead => .dead

def srcs (t : List V) (h : Heap) : List Wy → List (Option Nat)
  | [] => []
  | w :: l => w.src t h :: srcs t h l
def idxO : List (Option Nat) → Nat → Nat → Option Nat
  | [], _, _ => none
  | some j :: l, i, b => cond (Nat.beq j i) (some b) (idxO l i (b + 1))
  | none :: l, i, b => idxO l i (b + 1)
def fnO (n0 : Nat) (ss : List (Option Nat)) (i : Nat) : Option Nat := cond (Nat.blt i n0) (some i) (idxO ss i n0)
def memO (i : Nat) : List (Option Nat) → Bool
  | [] => false
  | some j :: l => cond (Nat.beq j i) true (memO i l)
  | none :: l => memO i l
def okO (n0 : Nat) : List (Option Nat) → Bool
  | [] => true
  | none :: l => okO n0 l
  | some i :: l => cond (Nat.ble n0 i) (cond (memO i l) false (okO n0 l)) false

def obsB (f : Nat → Option Nat) (h : Heap) : List (Option Nat) → List (Option Blk)
  | [] => []
  | some i :: l => (match h.get i with | some b => some (mskB f b) | none => none) :: obsB f h l
  | none :: l => none :: obsB f h l
/-- The names 'i', .. that stay. -/
def stay : Nat → Nat → List (Option Nat)
  | _, 0 => []
  | i, n + 1 => some i :: stay (i + 1) n
def obsT (f : Nat → Option Nat) (t : List V) : List Nat → List V
  | [] => []
  | s :: l => mskV f (nth t s) :: obsT f t l
def fills : List V → List Nat → List V → List V
  | t, s :: l, v :: vs => fills (upd t s v) l vs
  | t, _, _ => t
def anys : Nat → List V
  | 0 => []
  | n + 1 => anyV :: anys n
def putsL : Heap → Nat → List (Option Blk) → Heap
  | h, _, [] => h
  | h, i, some b :: l => putsL (h.put i (some b)) (i + 1) l
  | h, i, none :: l => putsL h (i + 1) l
def mkT (n : Nat) (live : List Nat) (vs : List V) : List V := fills (anys n) live vs
def mkH (bs : List (Option Blk)) : Heap := putsL ⟨.nil, bs.length⟩ 0 bs
def Frm.all (F : Frm) (t : List V) (h : Heap) : List (Option Nat) := stay 0 F.n0 ++ srcs t h F.ways
def Frm.fn (F : Frm) (t : List V) (h : Heap) : Nat → Option Nat := fnO F.n0 (srcs t h F.ways)
def Frm.vs (F : Frm) (t : List V) (h : Heap) : List V := obsT (F.fn t h) t F.live
def Frm.bs (F : Frm) (t : List V) (h : Heap) : List (Option Blk) := obsB (F.fn t h) h (F.all t h)
def Frm.ok (F : Frm) (t : List V) (h : Heap) : Bool := okO F.n0 (srcs t h F.ways)

theorem putsL_n : ∀ (l : List (Option Blk)) (h : Heap) (i : Nat), (putsL h i l).n = h.n
  | [], _, _ => rfl
  | some b :: l, h, i => by simp only [putsL]; rw [putsL_n l]; rfl
  | none :: l, h, i => by simp only [putsL]; exact putsL_n l h (i + 1)
theorem putsL_get : ∀ (l : List (Option Blk)) (h : Heap) (i j : Nat), (∀ k, i ≤ k → h.get k = none) → (putsL h i l).get j = if i ≤ j then (l[j - i]?).getD none else h.get j
  | [], h, i, j, hn => by
    simp only [putsL, List.getElem?_nil, Option.getD_none]
    split
    · rename_i h1; exact hn j h1
    · rfl
  | o :: l, h, i, j, hn => by
    have key : ∀ h' : Heap, (∀ k, i + 1 ≤ k → h'.get k = none) → h'.get i = o → (∀ k, k < i → h'.get k = h.get k) → (putsL h' (i + 1) l).get j = if i ≤ j then ((o :: l)[j - i]?).getD none else h.get j := by
      intro h' h1 h2 h3
      rw [putsL_get l h' (i + 1) j h1]
      by_cases hj : i + 1 ≤ j
      · rw [if_pos hj, if_pos (by omega), show j - i = (j - (i + 1)) + 1 by omega]; simp
      · rw [if_neg hj]
        by_cases hji : j = i
        · subst hji; simp [h2]
        · rw [if_neg (by omega)]; exact h3 j (by omega)
    cases o with
    | none => exact key h (fun k hk => hn k (by omega)) (hn i (Nat.le_refl _)) fun _ _ => rfl
    | some b =>
      refine key (h.put i (some b)) (fun k hk => ?_) ?_ fun k hk => ?_
      · rw [Heap.get_put, if_neg (by omega)]; exact hn k (by omega)
      · rw [Heap.get_put, if_pos rfl]
      · rw [Heap.get_put, if_neg (by omega)]
theorem mkH_get (bs : List (Option Blk)) (j : Nat) : (mkH bs).get j = (bs[j]?).getD none := by
  simp only [mkH]
  rw [putsL_get bs _ 0 j (fun k _ => by simp [Heap.get, Tr.get])]
  simp
theorem mkH_n (bs : List (Option Blk)) : (mkH bs).n = bs.length := by simp only [mkH]; rw [putsL_n]

theorem stay_len : ∀ (n i : Nat), (stay i n).length = n
  | 0, _ => rfl
  | n + 1, i => by simp [stay, stay_len n (i + 1)]
theorem stay_get : ∀ (n i k : Nat), k < n → (stay i n)[k]? = some (some (i + k))
  | 0, _, _, h => by omega
  | n + 1, i, 0, _ => by simp [stay]
  | n + 1, i, k + 1, h => by simp only [stay, List.getElem?_cons_succ]; rw [stay_get n (i + 1) k (by omega)]; congr 2; omega
theorem obsB_get (f : Nat → Option Nat) (h : Heap) : ∀ (l : List (Option Nat)) (k : Nat), ((obsB f h l)[k]?).getD none = match (l[k]?).getD none with
    | some i => (h.get i).map (mskB f)
    | none => none
  | [], k => by simp [obsB]
  | some i :: l, 0 => by
    simp only [obsB, List.getElem?_cons_zero, Option.getD_some]
    cases h.get i <;> rfl
  | none :: l, 0 => by simp [obsB]
  | some i :: l, k + 1 => by simpa [obsB] using obsB_get f h l k
  | none :: l, k + 1 => by simpa [obsB] using obsB_get f h l k
theorem obsB_len (f : Nat → Option Nat) (h : Heap) : ∀ l, (obsB f h l).length = l.length
  | [] => rfl
  | some i :: l => by simp [obsB, obsB_len f h l]
  | none :: l => by simp [obsB, obsB_len f h l]
theorem idxO_some : ∀ (l : List (Option Nat)) (i b j : Nat), idxO l i b = some j → b ≤ j ∧ l[j - b]? = some (some i)
  | [], _, _, _, h => by simp [idxO] at h
  | some m :: l, i, b, j, h => by
    simp only [idxO] at h
    cases hm : Nat.beq m i with
    | true => rw [hm] at h; simp only [cond_true, Option.some.injEq] at h; subst h; have := Nat.eq_of_beq_eq_true hm; subst this; simp
    | false =>
      rw [hm] at h; simp only [cond_false] at h
      obtain ⟨h1, h2⟩ := idxO_some l i (b + 1) j h
      exact ⟨by omega, by rw [show j - b = (j - (b + 1)) + 1 by omega]; simpa using h2⟩
  | none :: l, i, b, j, h => by
    simp only [idxO] at h
    obtain ⟨h1, h2⟩ := idxO_some l i (b + 1) j h
    exact ⟨by omega, by rw [show j - b = (j - (b + 1)) + 1 by omega]; simpa using h2⟩
theorem memO_iff (i : Nat) : ∀ l, memO i l = true ↔ some i ∈ l
  | [] => by simp [memO]
  | some j :: l => by
    simp only [memO, List.mem_cons, Option.some.injEq]
    cases hj : Nat.beq j i with
    | true => have := Nat.eq_of_beq_eq_true hj; subst this; simp
    | false => have := Nat.ne_of_beq_eq_false hj; simp only [cond_false, memO_iff i l]; constructor
               · intro h; exact .inr h
               · rintro (h | h)
                 · exact absurd h.symm this
                 · exact h
  | none :: l => by simp only [memO, List.mem_cons, memO_iff i l]; simp
theorem okO_inj {n0 : Nat} : ∀ {l : List (Option Nat)}, okO n0 l = true → (∀ i, some i ∈ l → n0 ≤ i) ∧ ∀ (j k : Nat) i, l[j]? = some (some i) → l[k]? = some (some i) → j = k
  | [], _ => ⟨fun i h => by simp at h, fun j k i h => by simp at h⟩
  | none :: l, h => by
    simp only [okO] at h
    obtain ⟨h1, h2⟩ := okO_inj h
    refine ⟨fun i hi => h1 i (by simpa using hi), fun j k i hj hk => ?_⟩
    cases j <;> cases k <;> simp at hj hk
    rw [h2 _ _ i hj hk]
  | some m :: l, h => by
    simp only [okO] at h
    cases hm : Nat.ble n0 m with
    | false => rw [hm] at h; cases h
    | true =>
    rw [hm] at h; simp only [cond_true] at h
    cases hmem : memO m l with
    | true => rw [hmem] at h; cases h
    | false =>
    rw [hmem] at h; simp only [cond_false] at h
    obtain ⟨h1, h2⟩ := okO_inj h
    have hnm : some m ∉ l := fun hc => by rw [(memO_iff m l).2 hc] at hmem; cases hmem
    refine ⟨fun i hi => ?_, fun j k i hj hk => ?_⟩
    · rcases List.mem_cons.1 hi with e | e
      · cases e; exact Nat.le_of_ble_eq_true hm
      · exact h1 i e
    · cases j with
      | zero =>
        cases k with
        | zero => rfl
        | succ k =>
          simp at hj hk; subst hj
          exact absurd (List.mem_of_getElem? hk) hnm
      | succ j =>
        cases k with
        | zero =>
          simp at hj hk; subst hk
          exact absurd (List.mem_of_getElem? hj) hnm
        | succ k => simp at hj hk; rw [h2 _ _ i hj hk]

mutual
theorem VR.msk {ρ ρ' : Rho} {f : Nat → Option Nat} (hf : ∀ i j L, f i = some j → ρ i = some L → ρ' j = some L) : ∀ (v : V) (x : Value), VR ρ v x → VR ρ' (mskV f v) x
  | .bool _, _, h => by simpa only [mskV, VR] using h
  | .int _ _, _, h => by simpa only [mskV, VR] using h
  | .str _, _, h => by simpa only [mskV, VR] using h
  | .nilp, _, h => by simpa only [mskV, VR] using h
  | .nils, _, h => by simpa only [mskV, VR] using h
  | .nilm, _, h => by simpa only [mskV, VR] using h
  | .nilf, _, h => by simpa only [mskV, VR] using h
  | .nili, _, h => by simpa only [mskV, VR] using h
  | .ptr i o, x, h => by
    simp only [mskV]
    cases hi : f i with
    | none => exact VR.any _ _
    | some j => obtain ⟨L, h1, h2⟩ := h; exact ⟨L, hf i j L hi h1, h2⟩
  | .slice i o n e c, x, h => by
    simp only [mskV]
    cases hi : f i with
    | none => exact VR.any _ _
    | some j =>
      simp only [VR] at h ⊢
      obtain ⟨a, k, hx, h1, h2, L, hL, h3⟩ := h
      exact ⟨a, k, hx, h1, h2, L, hf i j L hi hL, h3⟩
  | .map i, x, h => by
    simp only [mskV]
    cases hi : f i with
    | none => exact VR.any _ _
    | some j => simp only [VR] at h ⊢; obtain ⟨L, h1, h2⟩ := h; exact ⟨L, hf i j L hi h1, h2⟩
  | .func n l, x, h => by simp only [mskV]; obtain ⟨a, h1, h2⟩ := h; exact ⟨a, h1, VRs.msk hf l a h2⟩
  | .iface t v, x, h => by simp only [mskV]; obtain ⟨y, h1, h2⟩ := h; exact ⟨y, h1, VR.msk hf v y h2⟩
  | .agg l, x, h => by simp only [mskV]; obtain ⟨a, h1, h2⟩ := h; exact ⟨a, h1, VRs.msk hf l a h2⟩
  | .tup l, x, h => by
    simp only [mskV]
    simp only [VR] at h ⊢
    rcases h with h | ⟨a, h1, h2⟩
    · left
      match l, h with
      | [.tup []], _ => rfl
    · exact .inr ⟨a, h1, VRs.msk hf l a h2⟩
theorem VRs.msk {ρ ρ' : Rho} {f : Nat → Option Nat} (hf : ∀ i j L, f i = some j → ρ i = some L → ρ' j = some L) : ∀ (l : List V) (xs : List Value), VRs ρ l xs → VRs ρ' (mskVs f l) xs
  | [], _, h => by simpa only [mskVs, VRs] using h
  | v :: l, _, h => by simp only [mskVs]; obtain ⟨y, ys, h1, h2, h3⟩ := h; exact ⟨y, ys, h1, VR.msk hf v y h2, VRs.msk hf l ys h3⟩
end

theorem mskVs_len (f : Nat → Option Nat) : ∀ l, (mskVs f l).length = l.length
  | [] => rfl
  | v :: l => by simp [mskVs, mskVs_len f l]
theorem mskVs_get {f : Nat → Option Nat} : ∀ (l : List V) (k : Nat) (v : V), (mskVs f l)[k]? = some v → ∃ u, l[k]? = some u ∧ v = mskV f u
  | [], k, v, hk => by simp [mskVs] at hk
  | u :: l, 0, v, hk => by simp [mskVs] at hk; exact ⟨u, rfl, hk.symm⟩
  | u :: l, k + 1, v, hk => by simpa using mskVs_get l k v (by simpa [mskVs] using hk)
theorem fills_VRs {ρ : Rho} {xs : List Value} : ∀ (live : List Nat) (vs t : List V), VRs ρ t xs → (∀ (k s : Nat) (v : V), live[k]? = some s → vs[k]? = some v → ∀ x, xs[s]? = some x → VR ρ v x) → VRs ρ (fills t live vs) xs
  | [], vs, t, h, _ => by cases vs <;> exact h
  | s :: l, [], t, h, _ => h
  | s :: l, v :: vs, t, h, hv => by
    simp only [fills]
    refine fills_VRs l vs _ ?_ fun k s' v' h1 h2 => hv (k + 1) s' v' (by simpa using h1) (by simpa using h2)
    rw [upd_eq]
    have hlen := VRs.length h
    refine VRs.of (by simpa using hlen) fun i u hi => ?_
    by_cases his : s = i
    · subst his
      have hlt : s < t.length := by
        rcases Nat.lt_or_ge s t.length with h' | h'
        · exact h'
        · rw [List.getElem?_eq_none (by simpa using h')] at hi; cases hi
      rw [List.getElem?_set_self hlt] at hi
      simp only [Option.some.injEq] at hi; subst hi
      obtain ⟨x, hx⟩ : ∃ x, xs[s]? = some x := ⟨xs[s]'(by omega), List.getElem?_eq_getElem (by omega)⟩
      exact ⟨x, hx, hv 0 s v rfl rfl x hx⟩
    · rw [List.getElem?_set_ne his] at hi
      exact VRs.get h hi
theorem anys_VRs (ρ : Rho) : ∀ xs : List Value, VRs ρ (anys xs.length) xs
  | [] => by simp [anys, VRs]
  | x :: xs => VRs.cons (VR.any ρ x) (anys_VRs ρ xs)
theorem obsT_get (f : Nat → Option Nat) (t : List V) : ∀ (l : List Nat) (k s : Nat) (v : V), l[k]? = some s → (obsT f t l)[k]? = some v → v = mskV f (nth t s)
  | [], k, s, v, h, _ => by simp at h
  | a :: l, 0, s, v, h, h2 => by simp [obsT] at h h2; subst h; exact h2.symm
  | a :: l, k + 1, s, v, h, h2 => obsT_get f t l k s v (by simpa using h) (by simpa [obsT] using h2)

/-- What stays in a frame is as it was. -/
theorem RelR.frame {B : Nat → Prop} {ρ : Rho} {t : List V} {h : Heap} {a : Act} {w : World} (R : RelR B ρ t h a w) (F : Frm) (hn : NG ≤ F.n0) (hok : F.ok t h = true) :
    ∃ ρ', (∀ j L, j < F.n0 → ρ j = some L → ρ' j = some L) ∧ RelR B ρ' (mkT t.length F.live (F.vs t h)) (mkH (F.bs t h)) a w := by
  obtain ⟨o1, o2⟩ := okO_inj hok
  let ss := srcs t h F.ways
  -- a name's source
  let sr : Nat → Option Nat := fun j => ((F.all t h)[j]?).getD none
  have sr_lt : ∀ j, j < F.n0 → sr j = some j := by
    intro j hj
    simp only [sr, Frm.all]
    rw [List.getElem?_append_left (by rw [stay_len]; exact hj), stay_get _ _ _ hj]
    simp
  have sr_ge : ∀ j, F.n0 ≤ j → sr j = (ss[j - F.n0]?).getD none := by
    intro j hj
    simp only [sr, Frm.all]
    rw [List.getElem?_append_right (by rw [stay_len]; exact hj), stay_len]
  have sr_inj : ∀ j k i, sr j = some i → sr k = some i → j = k := by
    intro j k i hj hk
    have src_mem : ∀ j i, F.n0 ≤ j → sr j = some i → ss[j - F.n0]? = some (some i) := by
      intro j i hj h1
      rw [sr_ge j hj] at h1
      cases h2 : ss[j - F.n0]? with
      | none => rw [h2] at h1; simp at h1
      | some o => rw [h2] at h1; simp at h1; rw [h1]
    rcases Nat.lt_or_ge j F.n0 with hj0 | hj0 <;> rcases Nat.lt_or_ge k F.n0 with hk0 | hk0
    · rw [sr_lt j hj0] at hj; rw [sr_lt k hk0] at hk; simp at hj hk; omega
    · rw [sr_lt j hj0] at hj; simp at hj; subst hj
      have := o1 _ (List.mem_of_getElem? (src_mem k _ hk0 hk)); omega
    · rw [sr_lt k hk0] at hk; simp at hk; subst hk
      have := o1 _ (List.mem_of_getElem? (src_mem j _ hj0 hj)); omega
    · have := o2 _ _ i (src_mem j i hj0 hj) (src_mem k i hk0 hk); omega
  let ρ' : Rho := fun j => (sr j).bind ρ
  have hf : ∀ i j L, F.fn t h i = some j → ρ i = some L → ρ' j = some L := by
    intro i j L hij hL
    have : sr j = some i := by
      simp only [Frm.fn, fnO] at hij
      cases hlt : Nat.blt i F.n0 with
      | true =>
        rw [hlt] at hij; simp at hij; subst hij
        exact sr_lt i (Nat.le_of_ble_eq_true hlt)
      | false =>
        rw [hlt] at hij; simp at hij
        obtain ⟨h1, h2⟩ := idxO_some _ _ _ _ hij
        rw [sr_ge j h1, h2]; rfl
    simp only [ρ', this, Option.bind_some, hL]
  have get : ∀ j b, (mkH (F.bs t h)).get j = some b → ∃ i b0, sr j = some i ∧ h.get i = some b0 ∧ b = mskB (F.fn t h) b0 := by
    intro j b hj
    rw [mkH_get, Frm.bs, obsB_get] at hj
    simp only [sr]
    cases hs : ((F.all t h)[j]?).getD none with
    | none => rw [hs] at hj; cases hj
    | some i =>
      rw [hs] at hj
      simp only [Option.map_eq_some_iff] at hj
      obtain ⟨b0, h1, h2⟩ := hj
      exact ⟨i, b0, rfl, h1, h2.symm⟩
  have gone : ∀ j, (mkH (F.bs t h)).get j = none → ρ' j = none := by
    intro j hj
    rw [mkH_get, Frm.bs, obsB_get] at hj
    simp only [ρ', sr]
    cases hs : ((F.all t h)[j]?).getD none with
    | none => rfl
    | some i =>
      rw [hs] at hj
      simp only [Option.map_eq_none_iff] at hj
      simp only [Option.bind_some]
      exact R.hr.new i hj
  refine ⟨ρ', fun j L hj hL => ?_, fun g hg => ?_, ?_, ?_⟩
  · simp only [ρ', sr_lt j hj, Option.bind_some, hL]
  · obtain ⟨z, hz⟩ := R.gr g hg
    exact ⟨z, by simp only [ρ', sr_lt g (by omega), Option.bind_some, hz]⟩
  · have hlen := VRs.length R.tr
    simp only [TR, mkT]
    rw [← hlen]
    refine fills_VRs _ _ _ (anys_VRs _ _) fun k s v h1 h2 x hx => ?_
    rw [obsT_get _ _ _ k s v h1 h2]
    refine VR.msk hf _ _ ?_
    have := TR.nth R.tr s
    rw [Array.getD_eq_getD_getElem?, ← Array.getElem?_toList, hx] at this
    exact this
  · refine { blk := fun j b hj => ?_, inj := fun j k b c L M hj hk hne hb hc hL hM X Y hX hY => ?_, new := gone, top := fun j hj => ?_, lt := fun j L hL => ?_, low := R.hr.low }
    · obtain ⟨i, b0, h1, h2, rfl⟩ := get j b hj
      obtain ⟨L, hL, hb⟩ := R.hr.blk i b0 h2
      refine ⟨L, by simp only [ρ', h1, Option.bind_some, hL], ?_⟩
      cases b0 with
      | cells ro l =>
        obtain ⟨c, e, fz, a1, a2, a3, a4, a5⟩ := hb
        refine ⟨c, e, fz, a1, a2, ?_, ?_, a5⟩
        · rw [mskVs_len]; exact a3
        · intro k v hk
          obtain ⟨u, hu, rfl⟩ := mskVs_get l k v hk
          obtain ⟨x, hx, hv⟩ := a4 k u hu
          exact ⟨x, hx, VR.msk hf _ _ hv⟩
      | iter s p => exact hb
      | mp es => trivial
      | dead => trivial
      | obj x => exact hb
    · obtain ⟨i, b0, h1, h2, rfl⟩ := get j b hj
      obtain ⟨i', c0, h1', h2', rfl⟩ := get k c hk
      simp only [ρ', h1, Option.bind_some] at hL
      simp only [ρ', h1', Option.bind_some] at hM
      have hii : i ≠ i' := by intro e; subst e; exact hne (sr_inj j k i h1 h1')
      refine R.hr.inj i i' b0 c0 L M h2 h2' hii ?_ ?_ hL hM X Y ?_ ?_
      · cases b0 <;> first | exact hb | cases hb
      · intro e; subst e; exact hc rfl
      · cases b0 <;> exact hX
      · cases c0 <;> first | exact hY | exact absurd rfl hc
    · rw [mkH_get]
      have : (F.bs t h).length ≤ j := by rw [← mkH_n]; exact hj
      rw [List.getElem?_eq_none this]; rfl
    · simp only [ρ'] at hL
      cases hs : sr j with
      | none => rw [hs] at hL; cases hL
      | some i => rw [hs] at hL; exact R.hr.lt i L hL

/-- A look at a state. -/
abbrev Snap := List V × List (Option Blk)
def lookT {α : Type} (nt : Nat) (F : Frm) (t : List V) (h : Heap) (C : Snap → DT α) : DT α :=
  cond (Nat.beq t.length nt) (cond (F.ok t h) (C (F.vs t h, F.bs t h)) .fail) .fail
theorem lookT_in {α : Type} {Q : α → Prop} {nt : Nat} {F : Frm} {t : List V} {h : Heap} {C : Snap → DT α} (hs : (lookT nt F t h C).sat Q) : t.length = nt ∧ F.ok t h = true ∧ (C (F.vs t h, F.bs t h)).sat Q := by
  unfold lookT at hs
  rcases cond_split hs with ⟨h1, hs⟩ | ⟨_, hs⟩
  · rcases cond_split hs with ⟨h2, hs⟩ | ⟨_, hs⟩
    · exact ⟨Nat.eq_of_beq_eq_true h1, h2, hs⟩
    · exact absurd hs (fun q => q)
  · exact absurd hs (fun q => q)

/-- A loop: 'S' tells its states, 'out' how it ends from each, 'fr' what is looked at. -/
structure LoopD (ι : Type) where
  nt : Nat
  fr : Ex → Frm
  S : ι → Snap
  out : ι → DT (Ex × Snap)
  pick : Snap → ι
variable {ι : Type}
def LoopD.lt (l : LoopD ι) (t : List V) (h : Heap) : DT (Ex × List V × Heap) :=
  lookT l.nt (l.fr .normal) t h fun s => .ob (s = l.S (l.pick s)) ((l.out (l.pick s)).bind fun r => .leaf (r.1, mkT l.nt (l.fr r.1).live r.2.1, mkH r.2.2))
/-- A round. -/
def LoopD.end_ (l : LoopD ι) (ex : Ex) (t : List V) (_ : List Nat) (h : Heap) : DT (Ex × Snap) := lookT l.nt (l.fr ex) t h fun s => .leaf (ex, s)
def LoopD.t0 (l : LoopD ι) (i : ι) : List V := mkT l.nt (l.fr .normal).live (l.S i).1
def LoopD.h0 (l : LoopD ι) (i : ι) : Heap := mkH (l.S i).2
/-- What a round is to come to. -/
def LoopD.next (l : LoopD ι) (μ : ι → Nat) (i : ι) (Pr : Ex × Snap → Prop) (r : Ex × Snap) : Prop :=
  match r.1 with
  | .normal => ∃ j, r.2 = l.S j ∧ μ j < μ i ∧ (l.out j).sat Pr
  | ex => Pr (ex, r.2)

theorem lt1_loop {P : Program} {hint : Nat → List Nat} {m : Nat} {c : DC} (l : LoopD ι) (μ : ι → Nat) (hfr : ∀ ex, NG ≤ (l.fr ex).n0 ∧ m ≤ (l.fr ex).n0)
    (hstep : ∀ code, cCode P hint code = some c → ∀ i Pr, (l.out i).sat Pr → WpT P m code (l.t0 i) (l.h0 i) fun ex t h => t.length = l.nt ∧ (l.fr ex).ok t h = true ∧ l.next μ i Pr (ex, (l.fr ex).vs t h, (l.fr ex).bs t h)) :
    Lt1 P hint m l.lt c := by
  intro code hc t h Pr hs B ρ a w Q RR hQ
  obtain ⟨h1, h2, h3, h4⟩ := lookT_in hs
  obtain ⟨ρ0, l0, R0⟩ := RR.frame (l.fr .normal) (hfr _).1 h2
  have h5 := bind_sat h4
  have l0' : LeN m ρ ρ0 := fun i L hi hL => l0 i L (Nat.lt_of_lt_of_le hi (hfr .normal).2) hL
  generalize hi0 : l.pick ((l.fr .normal).vs t h, (l.fr .normal).bs t h) = i0 at h3 h5
  -- what is wanted behind it
  let Pr' : Ex × Snap → Prop := fun r => Pr (r.1, mkT l.nt (l.fr r.1).live r.2.1, mkH r.2.2)
  have h6 : (l.out i0).sat Pr' := h5
  have R1 : RelR B ρ0 (l.t0 i0) (l.h0 i0) a w := by
    have e1 : (l.fr .normal).vs t h = (l.S i0).1 := by rw [← h3]
    have e2 : (l.fr .normal).bs t h = (l.S i0).2 := by rw [← h3]
    rw [e1, e2, h1] at R0
    exact R0
  let J : Nat → Act → World → Prop := fun n a' w' => ∃ i ρ', μ i = n ∧ (l.out i).sat Pr' ∧ LeN m ρ ρ' ∧ RelR B ρ' (l.t0 i) (l.h0 i) a' w' ∧ Keeps B w w' ∧ a'.defers = a.defers
  refine Go.wp_loop_ghost J (μ i0) ⟨i0, ρ0, rfl, h6, l0', R1, Keeps.refl _ _, rfl⟩ ?_
  rintro n a1 w1 ⟨i, ρ1, rfl, ho, hle, R, hk, hd⟩
  refine hstep code hc i Pr' ho B ρ1 a1 w1 _ R fun ex t' h' ρ' a' w' ⟨e1, e2, e3⟩ hle' R' hk' hd' => ?_
  obtain ⟨ρ2, l2, R2⟩ := R'.frame (l.fr ex) (hfr _).1 e2
  have l2' : LeN m ρ ρ2 := (hle.trans hle').trans fun i L hi hL => l2 i L (Nat.lt_of_lt_of_le hi (hfr ex).2) hL
  rw [e1] at R2
  cases ex with
  | normal =>
    obtain ⟨j, e4, e5, e6⟩ := e3
    have e7 : (l.fr .normal).vs t' h' = (l.S j).1 := by rw [← e4]
    have e8 : (l.fr .normal).bs t' h' = (l.S j).2 := by rw [← e4]
    rw [e7, e8] at R2
    exact ⟨μ j, e5, j, ρ2, rfl, e6, l2', R2, hk.trans hk', hd'.trans hd⟩
  | exit x => exact hQ (.exit x) _ _ ρ2 a' w' e3 l2' R2 (hk.trans hk') (hd'.trans hd)
  | ret => exact hQ .ret _ _ ρ2 a' w' e3 l2' R2 (hk.trans hk') (hd'.trans hd)
end Gw
