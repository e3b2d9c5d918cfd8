/- Symbolic values and memory. -/
import Derived.Test.YtjnhaaolbcmdbaaGreatDoorGwS3
import Derived.Test.YtjnhaaolbcmdbaaGreatDoorGwA4
namespace Gw
open Go

inductive SV where
  | bool (b : BT)
  | int (k : IntKind) (n : IT)
  | str (s : ST)
  | nilp
  | ptr (id off : Nat)
  | nils
  | slice (id off : Nat) (len : IT) (esz : Nat) (cap : Option Nat)
  | nilm
  | map (id : Nat)
  | nilf
  | func (f : Nat) (cap : List SV)
  | nili
  | iface (t : Nat) (v : SV)
  | agg (l : List SV)
  | tup (l : List SV)
instance : Inhabited SV := ⟨.nilp⟩
def sundef : SV := .tup []

inductive SBlk where
  | cells (ro : Bool) (l : List SV)
  | iter (s : List UInt8) (pos : Nat)
  | mp (es : List (SV × SV))
  | dead

/-- What stands for what: unknowns, and blocks. -/
structure Mn where
  σ : Val
  ι : Nat → Nat
  gl : ∀ g, g < NG → ι g = g
  inj : ∀ i j, ι i = ι j → i = j

mutual
def SV.cc (m : Mn) : SV → V
  | .bool b => .bool (b.ev m.σ)
  | .int k n => .int k (n.ev m.σ)
  | .str s => .str (s.ev m.σ)
  | .nilp => .nilp
  | .ptr i o => .ptr (m.ι i) o
  | .nils => .nils
  | .slice i o l e c => .slice (m.ι i) o (l.ev m.σ).toNat e c
  | .nilm => .nilm
  | .map i => .map (m.ι i)
  | .nilf => .nilf
  | .func f l => .func f (SV.ccs m l)
  | .nili => .nili
  | .iface t v => .iface t (SV.cc m v)
  | .agg l => .agg (SV.ccs m l)
  | .tup l => .tup (SV.ccs m l)
def SV.ccs (m : Mn) : List SV → List V
  | [] => []
  | v :: l => SV.cc m v :: SV.ccs m l
end

theorem SV.ccs_eq (m : Mn) : ∀ l, SV.ccs m l = l.map (SV.cc m)
  | [] => rfl
  | v :: l => by simp [SV.ccs, SV.ccs_eq m l]

mutual
def SV.beq : SV → SV → Bool
  | .bool a, .bool b => BT.beq a b
  | .int k a, .int k' b => k == k' && IT.beq a b
  | .str a, .str b => ST.beq a b
  | .nilp, .nilp => true
  | .ptr i o, .ptr j p => i == j && o == p
  | .nils, .nils => true
  | .slice i o l e c, .slice j p m f d => i == j && (o == p && (IT.beq l m && (e == f && optNatEq c d)))
  | .nilm, .nilm => true
  | .map i, .map j => i == j
  | .nilf, .nilf => true
  | .func f a, .func g b => f == g && SV.beqs a b
  | .nili, .nili => true
  | .iface t x, .iface u y => t == u && SV.beq x y
  | .agg a, .agg b => SV.beqs a b
  | .tup a, .tup b => SV.beqs a b
  | _, _ => false
def SV.beqs : List SV → List SV → Bool
  | [], [] => true
  | x :: xs, y :: ys => SV.beq x y && SV.beqs xs ys
  | _, _ => false
end

theorem optNatEq_sound {a b : Option Nat} (h : optNatEq a b = true) : a = b := by
  cases a <;> cases b <;> simp_all [optNatEq]

mutual
theorem SV.beq_ok (m : Mn) : ∀ (x y : SV), SV.beq x y = true → x.cc m = y.cc m
  | .bool a, y, h => by
    cases y <;> simp only [SV.beq, Bool.false_eq_true] at h
    simp only [SV.cc, BT.beq_sound _ _ _ h]
  | .int k a, y, h => by
    cases y <;> simp only [SV.beq, Bool.and_eq_true, beq_iff_eq, Bool.false_eq_true] at h
    rw [h.1, IT.beq_sound _ _ h.2]
  | .str a, y, h => by
    cases y <;> simp only [SV.beq, Bool.false_eq_true] at h
    rw [ST.beq_sound _ _ h]
  | .nilp, y, h => by cases y <;> simp only [SV.beq, Bool.false_eq_true] at h; rfl
  | .ptr i o, y, h => by
    cases y <;> simp only [SV.beq, Bool.and_eq_true, beq_iff_eq, Bool.false_eq_true] at h
    rw [h.1, h.2]
  | .nils, y, h => by cases y <;> simp only [SV.beq, Bool.false_eq_true] at h; rfl
  | .slice i o l e c, y, h => by
    cases y <;> simp only [SV.beq, Bool.and_eq_true, beq_iff_eq, Bool.false_eq_true] at h
    rw [h.1, h.2.1, IT.beq_sound _ _ h.2.2.1, h.2.2.2.1, optNatEq_sound h.2.2.2.2]
  | .nilm, y, h => by cases y <;> simp only [SV.beq, Bool.false_eq_true] at h; rfl
  | .map i, y, h => by
    cases y <;> simp only [SV.beq, beq_iff_eq, Bool.false_eq_true] at h
    rw [h]
  | .nilf, y, h => by cases y <;> simp only [SV.beq, Bool.false_eq_true] at h; rfl
  | .func f a, y, h => by
    cases y <;> simp only [SV.beq, Bool.and_eq_true, beq_iff_eq, Bool.false_eq_true] at h
    simp only [SV.cc]; rw [h.1, SV.beqs_ok m _ _ h.2]
  | .nili, y, h => by cases y <;> simp only [SV.beq, Bool.false_eq_true] at h; rfl
  | .iface t x, y, h => by
    cases y <;> simp only [SV.beq, Bool.and_eq_true, beq_iff_eq, Bool.false_eq_true] at h
    simp only [SV.cc]; rw [h.1, SV.beq_ok m _ _ h.2]
  | .agg a, y, h => by
    cases y <;> simp only [SV.beq, Bool.false_eq_true] at h
    simp only [SV.cc]; rw [SV.beqs_ok m _ _ h]
  | .tup a, y, h => by
    cases y <;> simp only [SV.beq, Bool.false_eq_true] at h
    simp only [SV.cc]; rw [SV.beqs_ok m _ _ h]
theorem SV.beqs_ok (m : Mn) : ∀ (x y : List SV), SV.beqs x y = true → SV.ccs m x = SV.ccs m y
  | [], y, h => by cases y <;> simp only [SV.beqs, Bool.false_eq_true] at h; rfl
  | x :: xs, y, h => by
    cases y <;> simp only [SV.beqs, Bool.and_eq_true, Bool.false_eq_true] at h
    simp only [SV.ccs]; rw [SV.beq_ok m _ _ h.1, SV.beqs_ok m _ _ h.2]
end

/-- Memory as a tree. -/
inductive STr where
  | nil
  | node (v : Option SBlk) (l r : STr)
def STr.get : STr → Nat → Option SBlk
  | .nil, _ => none
  | .node v l r, i => if i = 0 then v else if i % 2 = 1 then l.get (i / 2) else r.get (i / 2 - 1)
def STr.val : STr → Option SBlk
  | .nil => none
  | .node v _ _ => v
def STr.left : STr → STr
  | .nil => .nil
  | .node _ l _ => l
def STr.right : STr → STr
  | .nil => .nil
  | .node _ _ r => r
def STr.setF : Nat → STr → Nat → Option SBlk → STr
  | 0, t, _, _ => t
  | f + 1, t, i, b =>
    if i = 0 then .node b t.left t.right
    else if i % 2 = 1 then .node t.val (STr.setF f t.left (i / 2) b) t.right
    else .node t.val t.left (STr.setF f t.right (i / 2 - 1) b)

theorem STr.get_node (v : Option SBlk) (l r : STr) (i : Nat) : (STr.node v l r).get i = if i = 0 then v else if i % 2 = 1 then l.get (i / 2) else r.get (i / 2 - 1) := rfl
theorem STr.get_eq (t : STr) (i : Nat) : t.get i = if i = 0 then t.val else if i % 2 = 1 then t.left.get (i / 2) else t.right.get (i / 2 - 1) := by
  cases t with
  | nil => simp [STr.get, STr.val, STr.left, STr.right]
  | node v l r => rfl
theorem STr.get_setF : ∀ (f : Nat) (t : STr) (i j : Nat) (b : Option SBlk), i < f → (STr.setF f t i b).get j = if j = i then b else t.get j := by
  intro f
  induction f with
  | zero => intro t i j b h; omega
  | succ f ih =>
    intro t i j b h
    simp only [STr.setF]
    by_cases hi : i = 0
    · subst hi
      simp only [if_true, STr.get_node]
      by_cases hj : j = 0
      · simp [hj]
      · simp only [hj, if_false]; rw [STr.get_eq t j]; simp [hj]
    · simp only [hi, if_false]
      by_cases ho : i % 2 = 1
      · simp only [ho, if_true, STr.get_node]
        by_cases hj : j = 0
        · subst hj; rw [if_pos rfl, if_neg (by omega)]; rw [STr.get_eq t 0]; simp
        · simp only [hj, if_false]
          rw [STr.get_eq t j]; simp only [hj, if_false]
          by_cases hjo : j % 2 = 1
          · simp only [hjo, if_true]
            rw [ih _ _ _ _ (by omega)]
            by_cases he : j = i
            · simp [he]
            · rw [if_neg (by omega), if_neg he]
          · simp only [hjo, if_false]
            rw [if_neg (by omega)]
      · simp only [ho, if_false, STr.get_node]
        by_cases hj : j = 0
        · subst hj; rw [if_pos rfl, if_neg (by omega)]; rw [STr.get_eq t 0]; simp
        · simp only [hj, if_false]
          rw [STr.get_eq t j]; simp only [hj, if_false]
          by_cases hjo : j % 2 = 1
          · simp only [hjo, if_true]
            rw [if_neg (by omega)]
          · simp only [hjo, if_false]
            rw [ih _ _ _ _ (by omega)]
            by_cases he : j = i
            · simp [he]
            · rw [if_neg (by omega), if_neg he]


structure SHeap where
  t : STr
  n : Nat
def SHeap.get (h : SHeap) (i : Nat) : Option SBlk := h.t.get i
def SHeap.put (h : SHeap) (i : Nat) (b : Option SBlk) : SHeap := ⟨STr.setF (i + 1) h.t i b, h.n⟩
def SHeap.up (h : SHeap) (k : Nat) : SHeap := ⟨h.t, h.n + k⟩
theorem SHeap.get_put (h : SHeap) (i j : Nat) (b : Option SBlk) : (h.put i b).get j = if j = i then b else h.get j := STr.get_setF _ _ _ _ _ (by omega)

def ccE (m : Mn) : List (SV × SV) → List (V × V)
  | [] => []
  | (k, v) :: l => (k.cc m, v.cc m) :: ccE m l

/-- A block stands for a block. Of one that is only read the front may be known, and nothing else. -/
def BC (m : Mn) : SBlk → Option Blk → Prop
  | .cells false l, b => b = some (.cells false (SV.ccs m l))
  | .cells true l, b => ∃ l', b = some (.cells true (SV.ccs m l ++ l'))
  | .iter s p, b => b = some (.iter s p)
  | .mp es, b => b = some (.mp (ccE m es))
  | .dead, b => b = some .dead

structure HC (m : Mn) (sh : SHeap) (h : Heap) : Prop where
  blk : ∀ i b, sh.get i = some b → BC m b (h.get (m.ι i))
  non : ∀ i, sh.get i = none → h.get (m.ι i) = none
  n : ∀ k, m.ι (sh.n + k) = h.n + k

/-- What no name stands for does not turn. -/
def Fri (m : Mn) (h h' : Heap) : Prop := ∀ j, (∀ i, m.ι i ≠ j) → h'.get j = h.get j
theorem Fri.refl (m : Mn) (h : Heap) : Fri m h h := fun _ _ => rfl
theorem Fri.trans {m : Mn} {a b c : Heap} (h : Fri m a b) (k : Fri m b c) : Fri m a c := fun j hj => (k j hj).trans (h j hj)

theorem HC.put {m : Mn} {sh : SHeap} {h : Heap} (H : HC m sh h) (i : Nat) {b : SBlk} {c : Blk} (hb : BC m b (some c)) : HC m (sh.put i (some b)) (h.put (m.ι i) (some c)) ∧ Fri m h (h.put (m.ι i) (some c)) := by
  refine ⟨⟨fun j b' hj => ?_, fun j hj => ?_, H.n⟩, fun j hj => ?_⟩
  · rw [SHeap.get_put] at hj
    rw [Heap.get_put]
    by_cases e : j = i
    · subst e; simp at hj; subst hj; simpa using hb
    · rw [if_neg e] at hj
      rw [if_neg (fun x => e (m.inj _ _ x))]
      exact H.blk j b' hj
  · rw [SHeap.get_put] at hj
    rw [Heap.get_put]
    by_cases e : j = i
    · subst e; simp at hj
    · rw [if_neg e] at hj
      rw [if_neg (fun x => e (m.inj _ _ x))]
      exact H.non j hj
  · rw [Heap.get_put, if_neg (Ne.symm (hj i))]

theorem HC.up {m : Mn} {sh : SHeap} {h : Heap} (H : HC m sh h) (k : Nat) : HC m (sh.up k) (h.up k) :=
  ⟨H.blk, H.non, fun j => by have := H.n (k + j); simp only [SHeap.up, Heap.up]; rw [Nat.add_assoc, this, Nat.add_assoc]⟩
theorem HC.n0 {m : Mn} {sh : SHeap} {h : Heap} (H : HC m sh h) : m.ι sh.n = h.n := by simpa using H.n 0

mutual
def symV : V → Option SV
  | .bool b => some (.bool (.c b))
  | .int k n => some (.int k (.c n))
  | .str s => some (.str (.c s))
  | .nilp => some .nilp
  | .ptr i o => if i < NG then some (.ptr i o) else none
  | .nils => some .nils
  | .slice _ _ _ _ _ => none
  | .nilm => some .nilm
  | .map _ => none
  | .nilf => some .nilf
  | .func f l => (symL l).map (.func f)
  | .nili => some .nili
  | .iface t v => (symV v).map (.iface t)
  | .agg l => (symL l).map .agg
  | .tup l => (symL l).map .tup
def symL : List V → Option (List SV)
  | [] => some []
  | v :: l => (symV v).bind fun v => (symL l).map (v :: ·)
end

mutual
theorem symV_ok (m : Mn) : ∀ (v : V) {x : SV}, symV v = some x → x.cc m = v
  | .bool b, x, h => by cases h; rfl
  | .int k n, x, h => by cases h; rfl
  | .str s, x, h => by cases h; rfl
  | .nilp, x, h => by cases h; rfl
  | .ptr i o, x, h => by
    simp only [symV] at h
    split at h
    · rename_i hi; cases h; simp only [SV.cc, m.gl i hi]
    · cases h
  | .nils, x, h => by cases h; rfl
  | .slice _ _ _ _ _, x, h => by cases h
  | .nilm, x, h => by cases h; rfl
  | .map _, x, h => by cases h
  | .nilf, x, h => by cases h; rfl
  | .func f l, x, h => by
    simp only [symV, Option.map_eq_some_iff] at h
    obtain ⟨y, hy, rfl⟩ := h
    simp only [SV.cc, symL_ok m l hy]
  | .nili, x, h => by cases h; rfl
  | .iface t v, x, h => by
    simp only [symV, Option.map_eq_some_iff] at h
    obtain ⟨y, hy, rfl⟩ := h
    simp only [SV.cc, symV_ok m v hy]
  | .agg l, x, h => by
    simp only [symV, Option.map_eq_some_iff] at h
    obtain ⟨y, hy, rfl⟩ := h
    simp only [SV.cc, symL_ok m l hy]
  | .tup l, x, h => by
    simp only [symV, Option.map_eq_some_iff] at h
    obtain ⟨y, hy, rfl⟩ := h
    simp only [SV.cc, symL_ok m l hy]
theorem symL_ok (m : Mn) : ∀ (l : List V) {x : List SV}, symL l = some x → SV.ccs m x = l
  | [], x, h => by cases h; rfl
  | v :: l, x, h => by
    simp only [symL, Option.bind_eq_some_iff, Option.map_eq_some_iff] at h
    obtain ⟨y, hy, z, hz, rfl⟩ := h
    simp only [SV.ccs, symV_ok m v hy, symL_ok m l hz]
end

/-- Lists of slots. -/
def snth : List SV → Nat → SV
  | [], _ => sundef
  | v :: _, 0 => v
  | _ :: l, n + 1 => snth l n
def supd : List SV → Nat → SV → List SV
  | [], _, _ => []
  | _ :: l, 0, v => v :: l
  | x :: l, n + 1, v => x :: supd l n v
def scellAt : List SV → Nat → Option SV
  | [], _ => none
  | v :: _, 0 => some v
  | _ :: l, n + 1 => scellAt l n
def sputAt : List SV → Nat → List SV → Option (List SV)
  | l, 0, [] => some l
  | _ :: l, 0, v :: vs => (sputAt l 0 vs).map (v :: ·)
  | [], 0, _ :: _ => none
  | x :: l, n + 1, vs => (sputAt l n vs).map (x :: ·)
  | [], _ + 1, _ => none
def stakeN : List SV → Nat → Option (List SV)
  | _, 0 => some []
  | [], _ + 1 => none
  | v :: l, n + 1 => (stakeN l n).map (v :: ·)
def scellsAt : List SV → Nat → Nat → Option (List SV)
  | l, 0, k => stakeN l k
  | [], _ + 1, k => if k = 0 then some [] else none
  | _ :: l, n + 1, k => scellsAt l n k
def sputD (t : List SV) (d : Option Nat) (v : SV) : List SV :=
  match d with
  | some d => supd t d v
  | none => t

theorem snth_ok (m : Mn) : ∀ (l : List SV) (i : Nat), (snth l i).cc m = nth (SV.ccs m l) i
  | [], _ => rfl
  | _ :: _, 0 => rfl
  | _ :: l, i + 1 => snth_ok m l i
theorem supd_ok (m : Mn) : ∀ (l : List SV) (i : Nat) (v : SV), SV.ccs m (supd l i v) = upd (SV.ccs m l) i (v.cc m)
  | [], _, _ => rfl
  | _ :: _, 0, _ => rfl
  | x :: l, i + 1, v => by simp only [supd, SV.ccs, upd, supd_ok m l i v]
theorem sputD_ok (m : Mn) (l : List SV) (d : Option Nat) (v : SV) : SV.ccs m (sputD l d v) = putD (SV.ccs m l) d (v.cc m) := by
  cases d with
  | none => rfl
  | some d => exact supd_ok m l d v
theorem scellAt_ok (m : Mn) : ∀ (l : List SV) (l' : List V) (i : Nat) {v : SV}, scellAt l i = some v → cellAt (SV.ccs m l ++ l') i = some (v.cc m)
  | [], _, _, v, h => by simp [scellAt] at h
  | _ :: _, _, 0, v, h => by simp only [scellAt, Option.some.injEq] at h; subst h; rfl
  | _ :: l, l', i + 1, v, h => scellAt_ok m l l' i h
theorem stakeN_ok (m : Mn) : ∀ (l : List SV) (l' : List V) (n : Nat) {r : List SV}, stakeN l n = some r → takeN (SV.ccs m l ++ l') n = some (SV.ccs m r)
  | l, l', 0, r, h => by
    have : r = [] := by cases l <;> simp [stakeN] at h <;> first | exact h | exact h.symm
    subst this
    cases hh : SV.ccs m l ++ l' <;> rfl
  | [], _, n + 1, r, h => by simp [stakeN] at h
  | v :: l, l', n + 1, r, h => by
    simp only [stakeN, Option.map_eq_some_iff] at h
    obtain ⟨y, hy, rfl⟩ := h
    simp only [SV.ccs, List.cons_append, takeN, stakeN_ok m l l' n hy, Option.map_some]
theorem scellsAt_ok (m : Mn) : ∀ (l : List SV) (l' : List V) (o n : Nat) {r : List SV}, scellsAt l o n = some r → (n = 0 ∧ r = []) ∨ cellsAt (SV.ccs m l ++ l') o n = some (SV.ccs m r)
  | l, l', 0, n, r, h => by
    have h' : stakeN l n = some r := by cases l <;> exact h
    right
    have := stakeN_ok m l l' n h'
    cases hh : SV.ccs m l ++ l' <;> rw [hh] at this <;> exact this
  | [], l', o + 1, n, r, h => by
    simp only [scellsAt] at h
    split at h
    · rename_i hn; cases h; exact .inl ⟨hn, rfl⟩
    · cases h
  | v :: l, l', o + 1, n, r, h => by
    simp only [scellsAt] at h
    rcases scellsAt_ok m l l' o n h with h1 | h1
    · exact .inl h1
    · exact .inr h1
theorem sputAt_ok (m : Mn) : ∀ (l : List SV) (o : Nat) (vs : List SV) {r : List SV}, sputAt l o vs = some r → putAt (SV.ccs m l) o (SV.ccs m vs) = some (SV.ccs m r)
  | l, 0, [], r, h => by
    have : r = l := by cases l <;> simp [sputAt] at h <;> first | exact h.symm | exact h
    subst this
    cases r <;> rfl
  | x :: l, 0, v :: vs, r, h => by
    simp only [sputAt, Option.map_eq_some_iff] at h
    obtain ⟨y, hy, rfl⟩ := h
    simp only [SV.ccs, putAt, sputAt_ok m l 0 vs hy, Option.map_some]
  | [], 0, v :: vs, r, h => by simp [sputAt] at h
  | x :: l, o + 1, vs, r, h => by
    simp only [sputAt, Option.map_eq_some_iff] at h
    obtain ⟨y, hy, rfl⟩ := h
    simp only [SV.ccs, putAt, sputAt_ok m l o vs hy, Option.map_some]
  | [], o + 1, vs, r, h => by cases vs <;> simp [sputAt] at h

/-- Runs that part. -/
abbrev R (α : Type) := Option (List (PC × α))
def rOne {α : Type} (pc : PC) (a : α) : R α := some [(pc, a)]
def appX {α : Type} : List (PC × α) → List (PC × α) → List (PC × α)
  | [], m => m
  | x :: l, m => x :: appX l m
theorem appX_eq {α : Type} : ∀ (l m : List (PC × α)), appX l m = l ++ m
  | [], _ => rfl
  | x :: l, m => by simp [appX, appX_eq l m]
def rAll {α β : Type} (f : PC → α → R β) : List (PC × α) → R β
  | [] => some []
  | [x] => f x.1 x.2
  | x :: l => (f x.1 x.2).bind fun r => (rAll f l).map (appX r)
def rB {α β : Type} (r : R α) (f : PC → α → R β) : R β := r.bind (rAll f)

def Snd {α : Type} (σ : Val) (r : R α) (Q : α → Prop) : Prop := ∀ l, r = some l → ∃ o ∈ l, σ.ok o.1 ∧ Q o.2

theorem Snd.one {α : Type} {σ : Val} {pc : PC} {a : α} {Q : α → Prop} (h : σ.ok pc) (q : Q a) : Snd σ (rOne pc a) Q := by
  intro l hl
  cases hl
  exact ⟨_, List.mem_cons_self, h, q⟩
theorem Snd.none {α : Type} {σ : Val} {Q : α → Prop} : Snd σ (none : R α) Q := fun l hl => by cases hl
theorem Snd.opt {α β : Type} {σ : Val} {o : Option α} {f : α → R β} {Q : β → Prop} (h : ∀ a, o = some a → Snd σ (f a) Q) : Snd σ (o.bind f) Q := by
  cases o with
  | none => exact Snd.none
  | some a => exact h a rfl
theorem Snd.mono {α : Type} {σ : Val} {r : R α} {Q Q' : α → Prop} (h : Snd σ r Q) (k : ∀ a, Q a → Q' a) : Snd σ r Q' := fun l hl => let ⟨o, h1, h2, h3⟩ := h l hl; ⟨o, h1, h2, k _ h3⟩

theorem rAll_mem {α β : Type} {f : PC → α → R β} : ∀ {l : List (PC × α)} {r : List (PC × β)}, rAll f l = some r → ∀ o ∈ l, ∃ s, f o.1 o.2 = some s ∧ ∀ x ∈ s, x ∈ r
  | [], r, h, o, ho => by cases ho
  | [x], r, h, o, ho => by
    simp only [List.mem_cons, List.not_mem_nil, or_false] at ho
    subst ho
    exact ⟨r, h, fun _ h => h⟩
  | x :: y :: l, r, h, o, ho => by
    simp only [rAll, Option.bind_eq_some_iff, Option.map_eq_some_iff] at h
    obtain ⟨s, hs, u, hu, rfl⟩ := h
    rcases List.mem_cons.1 ho with rfl | ho
    · exact ⟨s, hs, fun z hz => by rw [appX_eq]; simp [hz]⟩
    · obtain ⟨s', h1, h2⟩ := rAll_mem hu o ho
      exact ⟨s', h1, fun z hz => by rw [appX_eq]; simp [h2 z hz]⟩

theorem Snd.bind {α β : Type} {σ : Val} {r : R α} {f : PC → α → R β} {P : α → Prop} {Q : β → Prop} (h : Snd σ r P) (k : ∀ pc a, σ.ok pc → P a → Snd σ (f pc a) Q) : Snd σ (rB r f) Q := by
  intro l hl
  simp only [rB, Option.bind_eq_some_iff] at hl
  obtain ⟨m, hm, hl⟩ := hl
  obtain ⟨o, h1, h2, h3⟩ := h m hm
  obtain ⟨s, h4, h5⟩ := rAll_mem hl o h1
  obtain ⟨o', h6, h7⟩ := k o.1 o.2 h2 h3 s h4
  exact ⟨o', h5 o' h6, h7⟩

def rSplit (pc : PC) (b : BT) : R Bool := some (split pc b)
theorem rSplit_ok {σ : Val} {pc : PC} (h : σ.ok pc) (b : BT) : Snd σ (rSplit pc b) fun v => b.ev σ = v := by
  intro l hl
  cases hl
  exact split_ok h b

/-- It is so. -/
def must (pc : PC) (b : BT) : Bool := match dB pc b with | some v => v | none => false
theorem must_ok {σ : Val} {pc : PC} (h : σ.ok pc) {b : BT} (hm : must pc b = true) : b.ev σ = true := by
  unfold must at hm
  split at hm
  · rename_i v hv; subst hm; exact dB_ok h b hv
  · cases hm

/-- A number, each value that it may have; so many at most. -/
def enumL (pc : PC) (t : IT) (a : Int) : Nat → List (PC × Int)
  | 0 => []
  | n + 1 => (match assume pc (.eq t (.c (a + n))) true with | o :: _ => [(o.1, a + n)] | [] => []) ++ enumL pc t a n
theorem enumL_ok {σ : Val} {pc : PC} (h : σ.ok pc) {t : IT} {a : Int} : ∀ {n : Nat}, a ≤ t.ev σ → t.ev σ < a + n → ∃ o ∈ enumL pc t a n, σ.ok o.1 ∧ t.ev σ = o.2
  | 0, h1, h2 => by omega
  | n + 1, h1, h2 => by
    by_cases e : t.ev σ = a + n
    · obtain ⟨o, ho, h3, h4⟩ := assume_ok h (b := .eq t (.c (a + n))) (v := true) (by simp [BT.ev, IT.ev, e])
      simp only [enumL]
      unfold assume at ho ⊢
      split
      · rename_i o' l' he
        split at ho
        · cases ho
        · rename_i hc
          rw [if_neg hc] at he
          simp only [List.cons.injEq] at he
          simp only [List.mem_cons, List.not_mem_nil, or_false] at ho
          refine ⟨(o'.1, a + n), by simp, ?_, e⟩
          rw [← he.1, ← ho]; exact h3
      · rename_i he
        rw [he] at ho; cases ho
    · obtain ⟨o, ho, h3⟩ := enumL_ok h (n := n) h1 (by omega)
      exact ⟨o, by simp [enumL, ho], h3⟩

def limE : Nat := 300
def rEnum (pc : PC) (t : IT) : R Int :=
  match fold pc t with
  | .c n => rOne pc n
  | _ => match rg pc t with
    | (some a, some b) => if b - a < limE then some (enumL pc t a (b - a + 1).toNat) else none
    | _ => none
theorem rEnum_ok {σ : Val} {pc : PC} (h : σ.ok pc) (t : IT) : Snd σ (rEnum pc t) fun n => t.ev σ = n := by
  unfold rEnum
  split
  · rename_i n hn
    refine Snd.one h ?_
    rw [← fold_ok h t, hn]; rfl
  · split
    · rename_i a b hr
      have := rg_ok h t
      rw [hr] at this
      have h1 := this.1 a rfl; have h2 := this.2 b rfl
      split
      · intro l hl
        cases hl
        exact enumL_ok h h1 (by omega)
      · exact Snd.none
    · exact Snd.none

end Gw
