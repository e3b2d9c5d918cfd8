/- Symbolic terms: numbers, texts, truths; what is known of them; what follows. -/
import Derived.Test.YtjnhaaolbcmdbaaGreatDoorGwA2
namespace Gw
open Go

mutual
inductive IT where
  | c (n : Int)
  | x (i : Nat)
  | add (a b : IT)
  | bin (op : BinOp) (k : IntKind) (a b : IT)
  | conv (k : IntKind) (a : IT)
  | min (a b : IT)
  | max (a b : IT)
  | len (s : ST)
  | byte (s : ST) (i : IT)
inductive ST where
  | c (l : List UInt8)
  | x (i : Nat)
  | sub (s : ST) (lo hi : IT)
  | cat (a b : ST)
end

inductive BT where
  | c (b : Bool)
  | x (i : Nat)
  | p (i : Nat) (s : ST)
  | eq (a b : IT)
  | lt (a b : IT)
  | le (a b : IT)
  | eqS (a b : ST)
  | not (a : BT)

instance : Inhabited IT := ⟨.c 0⟩
instance : Inhabited ST := ⟨.c []⟩
instance : Inhabited BT := ⟨.c true⟩

/-- What the unknowns are. -/
structure Val where
  i : Nat → Int
  b : Nat → Bool
  s : Nat → List UInt8
  p : Nat → List UInt8 → Bool

/-- An operation on numbers, as a number. -/
def binW (op : BinOp) (k : IntKind) (a b : Int) : Option V :=
  match op with
  | .shl => shlI k a b
  | .shr => shrI k a b
  | op => binI op k a b
def binN (op : BinOp) (k : IntKind) (a b : Int) : Int :=
  match binW op k a b with
  | some (.int _ n) => n
  | _ => 0

mutual
def IT.ev (σ : Val) : IT → Int
  | .c n => n
  | .x i => σ.i i
  | .add a b => a.ev σ + b.ev σ
  | .bin op k a b => binN op k (a.ev σ) (b.ev σ)
  | .conv k a => wrapK k (a.ev σ)
  | .min a b => if b.ev σ < a.ev σ then b.ev σ else a.ev σ
  | .max a b => if b.ev σ > a.ev σ then b.ev σ else a.ev σ
  | .len s => (s.ev σ).length
  | .byte s i => (((s.ev σ)[(i.ev σ).toNat]?).map fun b => (b.toNat : Int)).getD 0
def ST.ev (σ : Val) : ST → List UInt8
  | .c l => l
  | .x i => σ.s i
  | .sub s lo hi => extractL (s.ev σ) (lo.ev σ).toNat (hi.ev σ).toNat
  | .cat a b => a.ev σ ++ b.ev σ
end

def BT.ev (σ : Val) : BT → Bool
  | .c b => b
  | .x i => σ.b i
  | .p i s => σ.p i (s.ev σ)
  | .eq a b => a.ev σ == b.ev σ
  | .lt a b => decide (a.ev σ < b.ev σ)
  | .le a b => decide (a.ev σ ≤ b.ev σ)
  | .eqS a b => a.ev σ == b.ev σ
  | .not a => !(a.ev σ)

mutual
def IT.beq : IT → IT → Bool
  | .c a, .c b => a == b
  | .x i, .x j => i == j
  | .add a b, .add u v => IT.beq a u && IT.beq b v
  | .bin o k a b, .bin o' k' u v => o == o' && (k == k' && (IT.beq a u && IT.beq b v))
  | .conv k a, .conv k' b => k == k' && IT.beq a b
  | .min a b, .min u v => IT.beq a u && IT.beq b v
  | .max a b, .max u v => IT.beq a u && IT.beq b v
  | .len s, .len t => ST.beq s t
  | .byte s i, .byte t j => ST.beq s t && IT.beq i j
  | _, _ => false
def ST.beq : ST → ST → Bool
  | .c a, .c b => a == b
  | .x i, .x j => i == j
  | .sub s l h, .sub t m i => ST.beq s t && (IT.beq l m && IT.beq h i)
  | .cat a b, .cat u v => ST.beq a u && ST.beq b v
  | _, _ => false
end
def BT.beq : BT → BT → Bool
  | .c a, .c b => a == b
  | .x i, .x j => i == j
  | .p i s, .p j t => i == j && ST.beq s t
  | .eq a b, .eq u v => (IT.beq a u && IT.beq b v) || (IT.beq a v && IT.beq b u)
  | .lt a b, .lt u v => IT.beq a u && IT.beq b v
  | .le a b, .le u v => IT.beq a u && IT.beq b v
  | .eqS a b, .eqS u v => (ST.beq a u && ST.beq b v) || (ST.beq a v && ST.beq b u)
  | .not a, .not b => BT.beq a b
  | _, _ => false

mutual
theorem IT.beq_sound : ∀ (a b : IT), IT.beq a b = true → a = b
  | .c a, b, h => by cases b <;> simp_all [IT.beq]
  | .x i, b, h => by cases b <;> simp_all [IT.beq]
  | .add a b, t, h => by
    cases t <;> simp only [IT.beq, Bool.and_eq_true, Bool.false_eq_true] at h
    rw [IT.beq_sound a _ h.1, IT.beq_sound b _ h.2]
  | .bin o k a b, t, h => by
    cases t <;> simp only [IT.beq, Bool.and_eq_true, Bool.false_eq_true, beq_iff_eq] at h
    rw [h.1, h.2.1, IT.beq_sound a _ h.2.2.1, IT.beq_sound b _ h.2.2.2]
  | .conv k a, t, h => by
    cases t <;> simp only [IT.beq, Bool.and_eq_true, Bool.false_eq_true, beq_iff_eq] at h
    rw [h.1, IT.beq_sound a _ h.2]
  | .min a b, t, h => by
    cases t <;> simp only [IT.beq, Bool.and_eq_true, Bool.false_eq_true] at h
    rw [IT.beq_sound a _ h.1, IT.beq_sound b _ h.2]
  | .max a b, t, h => by
    cases t <;> simp only [IT.beq, Bool.and_eq_true, Bool.false_eq_true] at h
    rw [IT.beq_sound a _ h.1, IT.beq_sound b _ h.2]
  | .len s, t, h => by
    cases t <;> simp only [IT.beq, Bool.false_eq_true] at h
    rw [ST.beq_sound s _ h]
  | .byte s i, t, h => by
    cases t <;> simp only [IT.beq, Bool.and_eq_true, Bool.false_eq_true] at h
    rw [ST.beq_sound s _ h.1, IT.beq_sound i _ h.2]
theorem ST.beq_sound : ∀ (a b : ST), ST.beq a b = true → a = b
  | .c a, b, h => by cases b <;> simp_all [ST.beq]
  | .x i, b, h => by cases b <;> simp_all [ST.beq]
  | .sub s l u, t, h => by
    cases t <;> simp only [ST.beq, Bool.and_eq_true, Bool.false_eq_true] at h
    rw [ST.beq_sound s _ h.1, IT.beq_sound l _ h.2.1, IT.beq_sound u _ h.2.2]
  | .cat a b, t, h => by
    cases t <;> simp only [ST.beq, Bool.and_eq_true, Bool.false_eq_true] at h
    rw [ST.beq_sound a _ h.1, ST.beq_sound b _ h.2]
end

theorem BT.beq_sound (σ : Val) : ∀ (a b : BT), BT.beq a b = true → a.ev σ = b.ev σ
  | .c a, b, h => by cases b <;> simp_all [BT.beq]
  | .x i, b, h => by cases b <;> simp_all [BT.beq]
  | .p i s, t, h => by
    cases t <;> simp only [BT.beq, Bool.and_eq_true, Bool.false_eq_true, beq_iff_eq] at h
    rw [h.1, ST.beq_sound s _ h.2]
  | .eq a b, t, h => by
    cases t <;> simp only [BT.beq, Bool.and_eq_true, Bool.or_eq_true, Bool.false_eq_true] at h
    rcases h with h | h
    · rw [IT.beq_sound a _ h.1, IT.beq_sound b _ h.2]
    · rw [IT.beq_sound a _ h.1, IT.beq_sound b _ h.2]
      simp only [BT.ev]
      rw [Bool.eq_iff_iff, beq_iff_eq, beq_iff_eq]; exact eq_comm
  | .lt a b, t, h => by
    cases t <;> simp only [BT.beq, Bool.and_eq_true, Bool.false_eq_true] at h
    rw [IT.beq_sound a _ h.1, IT.beq_sound b _ h.2]
  | .le a b, t, h => by
    cases t <;> simp only [BT.beq, Bool.and_eq_true, Bool.false_eq_true] at h
    rw [IT.beq_sound a _ h.1, IT.beq_sound b _ h.2]
  | .eqS a b, t, h => by
    cases t <;> simp only [BT.beq, Bool.and_eq_true, Bool.or_eq_true, Bool.false_eq_true] at h
    rcases h with h | h
    · rw [ST.beq_sound a _ h.1, ST.beq_sound b _ h.2]
    · rw [ST.beq_sound a _ h.1, ST.beq_sound b _ h.2]
      simp only [BT.ev]
      rw [Bool.eq_iff_iff, beq_iff_eq, beq_iff_eq]; exact eq_comm
  | .not a, t, h => by
    cases t <;> simp only [BT.beq, Bool.false_eq_true] at h
    rename_i b
    simp only [BT.ev, BT.beq_sound σ a b h]

/-- What is known. -/
structure PC where
  ri : List (IT × Option Int × Option Int)
  rb : List (BT × Bool)

def okLo (l : Option Int) (n : Int) : Prop := ∀ a, l = some a → a ≤ n
def okHi (h : Option Int) (n : Int) : Prop := ∀ a, h = some a → n ≤ a

/-- How long a text is, at most. -/
def sBound : Nat := 9223372036854775807
structure Val.ok (σ : Val) (pc : PC) : Prop where
  ri : ∀ f ∈ pc.ri, okLo f.2.1 (f.1.ev σ) ∧ okHi f.2.2 (f.1.ev σ)
  rb : ∀ f ∈ pc.rb, f.1.ev σ = f.2
  s : ∀ i, (σ.s i).length ≤ sBound

def maxO : Option Int → Option Int → Option Int
  | none, b => b
  | a, none => a
  | some a, some b => some (if a < b then b else a)
def minO : Option Int → Option Int → Option Int
  | none, b => b
  | a, none => a
  | some a, some b => some (if b < a then b else a)
theorem okLo.max {a b : Option Int} {n : Int} (h : okLo a n) (k : okLo b n) : okLo (maxO a b) n := by
  intro c hc
  cases a with
  | none => exact k c hc
  | some a => cases b with
    | none => exact h c hc
    | some b =>
      have h1 := h a rfl; have h2 := k b rfl
      simp only [maxO, Option.some.injEq] at hc
      subst hc; split <;> assumption
theorem okHi.min {a b : Option Int} {n : Int} (h : okHi a n) (k : okHi b n) : okHi (minO a b) n := by
  intro c hc
  cases a with
  | none => exact k c hc
  | some a => cases b with
    | none => exact h c hc
    | some b =>
      have h1 := h a rfl; have h2 := k b rfl
      simp only [minO, Option.some.injEq] at hc
      subst hc; split <;> assumption
theorem okLo.none (n : Int) : okLo none n := fun _ h => by cases h
theorem okHi.none (n : Int) : okHi none n := fun _ h => by cases h

def addO : Option Int → Option Int → Option Int
  | some a, some b => some (a + b)
  | _, _ => none

def kMin (k : IntKind) : Int :=
  match k with
  | .u8 | .u16 | .u32 | .u64 => 0
  | .i8 => -128
  | .i16 => -32768
  | .i32 => -2147483648
  | .i64 => -9223372036854775808
def kMax (k : IntKind) : Int :=
  match k with
  | .u8 => 255
  | .u16 => 65535
  | .u32 => 4294967295
  | .u64 => 18446744073709551615
  | .i8 => 127
  | .i16 => 32767
  | .i32 => 2147483647
  | .i64 => 9223372036854775807

theorem wrapK_range (k : IntKind) (n : Int) : kMin k ≤ wrapK k n ∧ wrapK k n ≤ kMax k := by
  cases k <;> simp only [kMin, kMax, wrapK] <;> (try split) <;> omega
theorem wrapK_id {k : IntKind} {n : Int} (h : kMin k ≤ n) (h' : n ≤ kMax k) : wrapK k n = n := by
  cases k <;> simp only [kMin, kMax, wrapK] at * <;> (try split) <;> omega

def lookR (t : IT) : List (IT × Option Int × Option Int) → Option Int × Option Int
  | [] => (none, none)
  | f :: l => if IT.beq f.1 t then (maxO f.2.1 (lookR t l).1, minO f.2.2 (lookR t l).2) else lookR t l

theorem lookR_sound {σ : Val} (t : IT) : ∀ (l : List (IT × Option Int × Option Int)), (∀ f ∈ l, okLo f.2.1 (f.1.ev σ) ∧ okHi f.2.2 (f.1.ev σ)) → okLo (lookR t l).1 (t.ev σ) ∧ okHi (lookR t l).2 (t.ev σ)
  | [], _ => ⟨okLo.none _, okHi.none _⟩
  | f :: l, h => by
    have ih := lookR_sound t l fun g hg => h g (by simp [hg])
    simp only [lookR]
    split
    · rename_i he
      have := h f (by simp)
      rw [IT.beq_sound _ _ he] at this
      exact ⟨this.1.max ih.1, this.2.min ih.2⟩
    · exact ih

def ST.hi : ST → Option Int
  | .c l => some l.length
  | .x _ => some sBound
  | .sub s _ _ => s.hi
  | .cat a b => addO a.hi b.hi
theorem ST.hi_sound {σ : Val} {pc : PC} (h : σ.ok pc) : ∀ (s : ST), okHi s.hi (s.ev σ).length
  | .c l => by intro a ha; simp only [ST.hi, Option.some.injEq] at ha; subst ha; simp [ST.ev]
  | .x i => by intro a ha; simp only [ST.hi, Option.some.injEq] at ha; subst ha; have := h.s i; simp only [ST.ev]; omega
  | .sub s l u => by
    intro a ha
    have := ST.hi_sound h s a ha
    simp only [ST.ev, extractL, List.length_take, List.length_drop]
    omega
  | .cat s t => by
    intro a ha
    simp only [ST.hi] at ha
    cases hs : s.hi with
    | none => simp [hs, addO] at ha
    | some x => cases ht : t.hi with
      | none => simp [hs, ht, addO] at ha
      | some y =>
        simp only [hs, ht, addO, Option.some.injEq] at ha
        have h1 := ST.hi_sound h s x hs; have h2 := ST.hi_sound h t y ht
        subst ha
        simp only [ST.ev, List.length_append]; omega

end Gw
