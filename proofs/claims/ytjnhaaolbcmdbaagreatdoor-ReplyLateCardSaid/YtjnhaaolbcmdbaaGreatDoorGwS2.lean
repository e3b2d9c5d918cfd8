/- Symbolic terms: their ranges. -/
import Derived.Test.YtjnhaaolbcmdbaaGreatDoorGwS1
namespace Gw
open Go

abbrev Rg := Option Int × Option Int
def okR (r : Rg) (n : Int) : Prop := okLo r.1 n ∧ okHi r.2 n
def meet (a b : Rg) : Rg := (maxO a.1 b.1, minO a.2 b.2)
theorem okR.meet {a b : Rg} {n : Int} (h : okR a n) (k : okR b n) : okR (Gw.meet a b) n := ⟨h.1.max k.1, h.2.min k.2⟩
theorem okR.none (n : Int) : okR (none, none) n := ⟨okLo.none n, okHi.none n⟩
theorem okR.pair {l h n : Int} (a : l ≤ n) (b : n ≤ h) : okR (some l, some h) n := ⟨fun x hx => by cases hx; exact a, fun x hx => by cases hx; exact b⟩
theorem okR.one (n : Int) : okR (some n, some n) n := okR.pair (Int.le_refl n) (Int.le_refl n)
def kRg (k : IntKind) : Rg := (some (kMin k), some (kMax k))
theorem kRg_ok (k : IntKind) (n : Int) : okR (kRg k) (wrapK k n) := okR.pair (wrapK_range k n).1 (wrapK_range k n).2

def geO (a : Option Int) (n : Int) : Bool := match a with | some x => decide (n ≤ x) | none => false
def leO (a : Option Int) (n : Int) : Bool := match a with | some x => decide (x ≤ n) | none => false
theorem geO_lo {a : Option Int} {n m : Int} (h : geO a n = true) (k : okLo a m) : n ≤ m := by
  unfold geO at h
  split at h
  · rename_i x; have := k x rfl; have := of_decide_eq_true h; omega
  · cases h
theorem leO_hi {a : Option Int} {n m : Int} (h : leO a n = true) (k : okHi a m) : m ≤ n := by
  unfold leO at h
  split at h
  · rename_i x; have := k x rfl; have := of_decide_eq_true h; omega
  · cases h

/-- Is it in the kind's range? -/
def inK (k : IntKind) (r : Rg) : Bool := geO r.1 (kMin k) && leO r.2 (kMax k)
theorem inK_id {k : IntKind} {r : Rg} {n : Int} (h : inK k r = true) (o : okR r n) : wrapK k n = n := by
  simp only [inK, Bool.and_eq_true] at h
  exact wrapK_id (geO_lo h.1 o.1) (leO_hi h.2 o.2)

def addR (a b : Rg) : Rg := (addO a.1 b.1, addO a.2 b.2)
theorem okR.add {a b : Rg} {n m : Int} (h : okR a n) (k : okR b m) : okR (addR a b) (n + m) := by
  obtain ⟨a1, a2⟩ := a; obtain ⟨b1, b2⟩ := b
  refine ⟨fun x hx => ?_, fun x hx => ?_⟩
  · cases a1 <;> cases b1 <;> simp [addR, addO] at hx
    have := h.1 _ rfl; have := k.1 _ rfl; omega
  · cases a2 <;> cases b2 <;> simp [addR, addO] at hx
    have := h.2 _ rfl; have := k.2 _ rfl; omega
def negR (a : Rg) : Rg := (a.2.map (- ·), a.1.map (- ·))
theorem okR.neg {a : Rg} {n : Int} (h : okR a n) : okR (negR a) (-n) := by
  obtain ⟨a1, a2⟩ := a
  refine ⟨fun x hx => ?_, fun x hx => ?_⟩
  · cases a2 <;> simp [negR] at hx
    have := h.2 _ rfl; omega
  · cases a1 <;> simp [negR] at hx
    have := h.1 _ rfl; omega

def mulR (a b : Rg) : Rg :=
  if geO a.1 0 && geO b.1 0 then (match a.1, b.1 with | some x, some y => some (x * y) | _, _ => some 0, match a.2, b.2 with | some x, some y => some (x * y) | _, _ => none) else (none, none)
theorem okR.mul {a b : Rg} {n m : Int} (h : okR a n) (k : okR b m) : okR (mulR a b) (n * m) := by
  unfold mulR
  split
  · rename_i hc
    simp only [Bool.and_eq_true] at hc
    have hn := geO_lo hc.1 h.1; have hm := geO_lo hc.2 k.1
    obtain ⟨a1, a2⟩ := a; obtain ⟨b1, b2⟩ := b
    refine ⟨fun x hx => ?_, fun x hx => ?_⟩
    · cases a1 with
      | none => simp [geO] at hc
      | some a1 => cases b1 with
        | none => simp [geO] at hc
        | some b1 =>
          simp at hx; subst hx
          have h1 := h.1 _ rfl; have h2 := k.1 _ rfl
          simp only [geO, decide_eq_true_eq] at hc
          exact Int.mul_le_mul h1 h2 hc.2 hn
    · cases a2 with
      | none => simp at hx
      | some a2 => cases b2 with
        | none => simp at hx
        | some b2 =>
          simp at hx; subst hx
          have h1 := h.2 _ rfl; have h2 := k.2 _ rfl
          exact Int.mul_le_mul h1 h2 hm (by omega)
  · exact okR.none _

/-- If it lies in the kind's range it is not wrapped. -/
def wrapR (k : IntKind) (r : Rg) : Rg := if inK k r then r else kRg k
theorem okR.wrap {k : IntKind} {r : Rg} {n : Int} (h : okR r n) : okR (wrapR k r) (wrapK k n) := by
  unfold wrapR
  split
  · rename_i hk; rw [inK_id hk h]; exact h
  · exact kRg_ok k n

def subHi (a : Option Int) : Option Int := match a with | some x => some (x - 1) | none => none

theorem tmod_pos {a b : Int} (h : 0 ≤ a) (k : 1 ≤ b) : 0 ≤ a.tmod b ∧ a.tmod b ≤ a ∧ a.tmod b ≤ b - 1 := by
  rw [Int.tmod_eq_emod_of_nonneg h]
  have h1 := Int.emod_nonneg a (show b ≠ 0 by omega)
  have h2 := Int.emod_lt_of_pos a (show 0 < b by omega)
  have h3 : a % b ≤ a := by
    have := Int.emod_add_mul_ediv a b
    have h4 : 0 ≤ b * (a / b) := Int.mul_nonneg (by omega) (Int.ediv_nonneg h (by omega))
    omega
  omega
theorem tdiv_pos {a b : Int} (h : 0 ≤ a) (k : 1 ≤ b) : 0 ≤ a.tdiv b ∧ a.tdiv b ≤ a := by
  rw [Int.tdiv_eq_ediv_of_nonneg h]
  exact ⟨Int.ediv_nonneg h (by omega), Int.ediv_le_self b h⟩

theorem tmod_abs {a b : Int} (k : 1 ≤ b) : -(b - 1) ≤ a.tmod b ∧ a.tmod b ≤ b - 1 := by
  have h1 := Int.tmod_lt_of_pos a (show 0 < b by omega)
  have h2 : -b < a.tmod b := by
    have := Int.tmod_lt_of_pos (-a) (show 0 < b by omega)
    rw [Int.neg_tmod] at this
    omega
  omega

def remR (a b : Rg) : Rg :=
  if geO b.1 1 then (if geO a.1 0 then (some 0, minO a.2 (subHi b.2)) else (match b.2 with | some y => some (-(y - 1)) | none => none, subHi b.2)) else (none, none)
theorem okR.rem {a b : Rg} {n m : Int} (h : okR a n) (k : okR b m) : okR (remR a b) (n.tmod m) := by
  unfold remR
  split
  · rename_i hb
    have hm := geO_lo hb k.1
    split
    · rename_i ha
      have hn := geO_lo ha h.1
      obtain ⟨t1, t2, t3⟩ := tmod_pos hn hm
      refine ⟨fun x hx => by cases hx; exact t1, okHi.min (fun x hx => by have := h.2 x hx; omega) fun x hx => ?_⟩
      unfold subHi at hx; split at hx
      · rename_i y hy; cases hx; have := k.2 y hy; omega
      · cases hx
    · obtain ⟨t1, t2⟩ := tmod_abs (a := n) hm
      refine ⟨fun x hx => ?_, fun x hx => ?_⟩
      · simp only at hx
        split at hx
        · rename_i y hy; cases hx; have := k.2 y hy; omega
        · cases hx
      · unfold subHi at hx; split at hx
        · rename_i y hy; cases hx; have := k.2 y hy; omega
        · cases hx
  · exact okR.none _

def quoHi (a b : Rg) : Option Int := match a.2, b.1 with | some x, some y => if 1 ≤ y then some (x / y) else some x | o, _ => o
def quoR (k : IntKind) (a b : Rg) : Rg :=
  if geO b.1 1 && geO a.1 0 then wrapR k (some 0, quoHi a b) else kRg k
theorem quoHi_ok {a b : Rg} {n m : Int} (h : okR a n) (k : okR b m) (hn : 0 ≤ n) (hm : 1 ≤ m) : okHi (quoHi a b) (n.tdiv m) := by
  intro x hx
  rw [Int.tdiv_eq_ediv_of_nonneg hn]
  have h0 := Int.ediv_le_self m hn
  unfold quoHi at hx
  split at hx
  · rename_i u v hu hv
    split at hx
    · rename_i hv1
      cases hx
      have h1 := h.2 _ hu; have h2 := k.1 _ hv
      rw [Int.le_ediv_iff_mul_le (by omega)]
      have h3 : n / m * v ≤ n / m * m := Int.mul_le_mul_of_nonneg_left h2 (Int.ediv_nonneg hn (by omega))
      have h4 : n / m * m ≤ n := Int.ediv_mul_le n (by omega)
      omega
    · cases hx; have := h.2 _ hu; omega
  · have := h.2 _ hx; omega
theorem okR.quo {kd : IntKind} {a b : Rg} {n m : Int} (h : okR a n) (k : okR b m) : okR (quoR kd a b) (wrapK kd (n.tdiv m)) := by
  unfold quoR
  split
  · rename_i hc
    simp only [Bool.and_eq_true] at hc
    have hm := geO_lo hc.1 k.1; have hn := geO_lo hc.2 h.1
    obtain ⟨t1, t2⟩ := tdiv_pos hn hm
    exact okR.wrap ⟨fun x hx => by cases hx; exact t1, quoHi_ok h k hn hm⟩
  · exact kRg_ok _ _

/-- Bits of numbers that are not below zero. -/
def andR (k : IntKind) (a b : Rg) : Rg := if geO a.1 0 && (geO b.1 0 && (inK k a && inK k b)) then (some 0, minO a.2 b.2) else kRg k
theorem bitsK_id {k : IntKind} {n : Int} (h0 : 0 ≤ n) (h1 : n ≤ kMax k) : (bitsK k n : Int) = n := by
  unfold bitsK
  have : n % (modK k : Int) = n := by
    apply Int.emod_eq_of_lt h0
    cases k <;> simp [modK, kMax] at * <;> omega
  rw [this]; omega
theorem okR.and {kd : IntKind} {a b : Rg} {n m : Int} (h : okR a n) (k : okR b m) : okR (andR kd a b) (wrapK kd (Nat.land (bitsK kd n) (bitsK kd m))) := by
  unfold andR
  split
  · rename_i hc
    simp only [Bool.and_eq_true, inK] at hc
    have hn := geO_lo hc.1 h.1; have hm := geO_lo hc.2.1 k.1
    have hn1 := leO_hi hc.2.2.1.2 h.2; have hm1 := leO_hi hc.2.2.2.2 k.2
    have e1 := bitsK_id hn hn1; have e2 := bitsK_id hm hm1
    have l1 : Nat.land (bitsK kd n) (bitsK kd m) ≤ bitsK kd n := Nat.and_le_left
    have l2 : Nat.land (bitsK kd n) (bitsK kd m) ≤ bitsK kd m := Nat.and_le_right
    have hk : kMin kd ≤ 0 := by cases kd <;> decide
    rw [wrapK_id (by omega) (by omega)]
    refine ⟨fun x hx => by cases hx; omega, okHi.min (fun x hx => ?_) fun x hx => ?_⟩
    · have := h.2 x hx; omega
    · have := k.2 x hx; omega
  · exact kRg_ok _ _

def shrR (a : Rg) : Rg := if geO a.1 0 then (some 0, a.2) else (none, none)

def binR (op : BinOp) (k : IntKind) (a b : Rg) : Rg :=
  match op with
  | .add => wrapR k (addR a b)
  | .sub => wrapR k (addR a (negR b))
  | .mul => wrapR k (mulR a b)
  | .rem => if geO b.1 1 then remR a b else (none, none)
  | .quo => if geO b.1 1 then quoR k a b else (none, none)
  | .and => andR k a b
  | .or | .xor | .andNot => kRg k
  | .shr => if geO b.1 0 then shrR a else (none, none)
  | .shl => if geO b.1 0 then kRg k else (none, none)
  | _ => (none, none)

theorem fdiv_pow {a : Int} (h : 0 ≤ a) (n : Nat) : 0 ≤ a.fdiv ((2 ^ n : Nat) : Int) ∧ a.fdiv ((2 ^ n : Nat) : Int) ≤ a := by
  have hp : (0 : Int) < ((2 ^ n : Nat) : Int) := by
    have := Nat.two_pow_pos n
    omega
  rw [Int.fdiv_eq_ediv_of_nonneg _ (by omega)]
  exact ⟨Int.ediv_nonneg h (by omega), Int.ediv_le_self _ h⟩

theorem binR_ok {op : BinOp} {kd : IntKind} {a b : Rg} {n m : Int} (h : okR a n) (k : okR b m) : okR (binR op kd a b) (binN op kd n m) := by
  cases op with
  | add => simp only [binR, binN, binW, binI]; exact (h.add k).wrap
  | sub => simp only [binR, binN, binW, binI]; rw [show n - m = n + -m by omega]; exact (h.add k.neg).wrap
  | mul => simp only [binR, binN, binW, binI]; exact (h.mul k).wrap
  | quo =>
    simp only [binR]
    split
    · rename_i hb; have := geO_lo hb k.1
      simp only [binN, binW, binI, if_neg (show ¬ m = 0 by omega)]; exact h.quo k
    · exact okR.none _
  | rem =>
    simp only [binR]
    split
    · rename_i hb; have := geO_lo hb k.1
      simp only [binN, binW, binI, if_neg (show ¬ m = 0 by omega)]; exact h.rem k
    · exact okR.none _
  | and => simp only [binR, binN, binW, binI]; exact h.and k
  | or => simp only [binR, binN, binW, binI]; exact kRg_ok _ _
  | xor => simp only [binR, binN, binW, binI]; exact kRg_ok _ _
  | andNot => simp only [binR, binN, binW, binI]; exact kRg_ok _ _
  | shl =>
    simp only [binR]
    split
    · rename_i hb; have := geO_lo hb k.1
      simp only [binN, binW, shlI, if_neg (show ¬ m < 0 by omega)]; exact kRg_ok _ _
    · exact okR.none _
  | shr =>
    simp only [binR]
    split
    · rename_i hb; have := geO_lo hb k.1
      simp only [binN, binW, shrI, if_neg (show ¬ m < 0 by omega), shrR]
      split
      · rename_i ha
        have hn := geO_lo ha h.1
        obtain ⟨t1, t2⟩ := fdiv_pow hn (min m.toNat (bitsOf kd))
        exact ⟨fun x hx => by cases hx; exact t1, fun x hx => by have := h.2 x hx; omega⟩
      · exact okR.none _
    · exact okR.none _
  | _ => exact okR.none _

def minR (a b : Rg) : Rg := (match a.1, b.1 with | some x, some y => some (if y < x then y else x) | _, _ => none, minO a.2 b.2)
def maxR (a b : Rg) : Rg := (maxO a.1 b.1, match a.2, b.2 with | some x, some y => some (if x < y then y else x) | _, _ => none)
theorem okR.minT {a b : Rg} {n m : Int} (h : okR a n) (k : okR b m) : okR (minR a b) (if m < n then m else n) := by
  obtain ⟨a1, a2⟩ := a; obtain ⟨b1, b2⟩ := b
  refine ⟨fun x hx => ?_, ?_⟩
  · cases a1 <;> cases b1 <;> simp [minR] at hx
    have := h.1 _ rfl; have := k.1 _ rfl
    split at hx <;> split <;> omega
  · split
    · exact okHi.min (fun x hx => by have := h.2 x hx; omega) k.2
    · exact okHi.min h.2 fun x hx => by have := k.2 x hx; omega
theorem okR.maxT {a b : Rg} {n m : Int} (h : okR a n) (k : okR b m) : okR (maxR a b) (if m > n then m else n) := by
  obtain ⟨a1, a2⟩ := a; obtain ⟨b1, b2⟩ := b
  refine ⟨?_, fun x hx => ?_⟩
  · split
    · exact okLo.max (fun x hx => by have := h.1 x hx; omega) k.1
    · exact okLo.max h.1 fun x hx => by have := k.1 x hx; omega
  · cases a2 <;> cases b2 <;> simp [maxR] at hx
    have := h.2 _ rfl; have := k.2 _ rfl
    split at hx <;> split <;> omega

/-- The range of a number. -/
def rg (pc : PC) : IT → Rg
  | .c n => (some n, some n)
  | .x i => lookR (.x i) pc.ri
  | .add a b => meet (lookR (.add a b) pc.ri) (addR (rg pc a) (rg pc b))
  | .bin op k a b => meet (lookR (.bin op k a b) pc.ri) (binR op k (rg pc a) (rg pc b))
  | .conv k a => meet (lookR (.conv k a) pc.ri) (wrapR k (rg pc a))
  | .min a b => meet (lookR (.min a b) pc.ri) (minR (rg pc a) (rg pc b))
  | .max a b => meet (lookR (.max a b) pc.ri) (maxR (rg pc a) (rg pc b))
  | .len s => meet (lookR (.len s) pc.ri) (some 0, s.hi)
  | .byte s i => meet (lookR (.byte s i) pc.ri) (some 0, some 255)

theorem rg_ok {σ : Val} {pc : PC} (h : σ.ok pc) : ∀ (t : IT), okR (rg pc t) (t.ev σ)
  | .c n => okR.one n
  | .x i => lookR_sound _ _ h.ri
  | .add a b => okR.meet (lookR_sound _ _ h.ri) ((rg_ok h a).add (rg_ok h b))
  | .bin op k a b => okR.meet (lookR_sound _ _ h.ri) (binR_ok (rg_ok h a) (rg_ok h b))
  | .conv k a => okR.meet (lookR_sound _ _ h.ri) (rg_ok h a).wrap
  | .min a b => okR.meet (lookR_sound _ _ h.ri) ((rg_ok h a).minT (rg_ok h b))
  | .max a b => okR.meet (lookR_sound _ _ h.ri) ((rg_ok h a).maxT (rg_ok h b))
  | .len s => okR.meet (lookR_sound _ _ h.ri) ⟨fun x hx => by cases hx; simp only [IT.ev]; omega, ST.hi_sound h s⟩
  | .byte s i => okR.meet (lookR_sound _ _ h.ri) (by
      simp only [IT.ev]
      cases he : (ST.ev σ s)[(IT.ev σ i).toNat]? with
      | none => exact okR.pair (by simp) (by simp)
      | some b => have := b.toNat_lt; exact okR.pair (by simp) (by simp; omega))

end Gw
