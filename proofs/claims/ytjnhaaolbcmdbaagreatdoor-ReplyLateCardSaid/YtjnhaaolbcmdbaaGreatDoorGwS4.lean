/- Symbolic values and memory. -/
import Derived.Test.YtjnhaaolbcmdbaaGreatDoorGwS3
import Derived.Test.YtjnhaaolbcmdbaaGreatDoorGwA4
namespace Gw
open Go

inductive SV where
  | bool (b : BT)
  | int (k : IntKind) (n : IT)
  | str (s : ST)
  | nilp
  | ptr (id off : Nat)
  | nils
  | slice (id off : Nat) (len : IT) (esz : Nat) (cap : Option Nat)
  | nilm
  | map (id : Nat)
  | nilf
  | func (f : Nat) (cap : List SV)
  | nili
  | iface (t : Nat) (v : SV)
  | agg (l : List SV)
  | tup (l : List SV)
instance : Inhabited SV := ⟨.nilp⟩
def sundef : SV := .tup []

inductive SBlk where
  | cells (ro : Bool) (l : List SV)
  | iter (s : List UInt8) (pos : Nat)
  | mp (es : List (SV × SV))
  | dead

/-- What stands for what: unknowns, and blocks. -/
structure Mn where
  σ : Val
  ι : Nat → Nat
  gl : ∀ g, g < NG → ι g = g
  inj : ∀ i j, ι i = ι j → i = j

mutual
def SV.cc (m : Mn) : SV → V
  | .bool b => .bool (b.ev m.σ)
  | .int k n => .int k (n.ev m.σ)
  | .str s => .str (s.ev m.σ)
  | .nilp => .nilp
  | .ptr i o => .ptr (m.ι i) o
  | .nils => .nils
  | .slice i o l e c => .slice (m.ι i) o (l.ev m.σ).toNat e c
  | .nilm => .nilm
  | .map i => .map (m.ι i)
  | .nilf => .nilf
  | .func f l => .func f (SV.ccs m l)
  | .nili => .nili
  | .iface t v => .iface t (SV.cc m v)
  | .agg l => .agg (SV.ccs m l)
  | .tup l => .tup (SV.ccs m l)
def SV.ccs (m : Mn) : List SV → List V
  | [] => []
  | v :: l => SV.cc m v :: SV.ccs m l
end

theorem SV.ccs_eq (m : Mn) : ∀ l, SV.ccs m l = l.map (SV.cc m)
  | [] => rfl
  | v :: l => by simp [SV.ccs, SV.ccs_eq m l]

mutual
def SV.beq : SV → SV → Bool
  | .bool a, .bool b => BT.beq a b
  | .int k a, .int k' b => k == k' && IT.beq a b
  | .str a, .str b => ST.beq a b
  | .nilp, .nilp => true
  | .ptr i o, .ptr j p => i == j && o == p
  | .nils, .nils => true
  | .slice i o l e c, .slice j p m f d => i == j && (o == p && (IT.beq l m && (e == f && optNatEq c d)))
  | .nilm, .nilm => true
  | .map i, .map j => i == j
  | .nilf, .nilf => true
  | .func f a, .func g b => f == g && SV.beqs a b
  | .nili, .nili => true
  | .iface t x, .iface u y => t == u && SV.beq x y
  | .agg a, .agg b => SV.beqs a b
  | .tup a, .tup b => SV.beqs a b
  | _, _ => false
def SV.beqs : List SV → List SV → Bool
  | [], [] => true
  | x :: xs, y :: ys => SV.beq x y && SV.beqs xs ys
  | _, _ => false
end

theorem optNatEq_sound {a b : Option Nat} (h : optNatEq a b = true) : a = b := by
  cases a <;> cases b <;> simp_all [optNatEq]

mutual
theorem SV.beq_ok (m : Mn) : ∀ (x y : SV), SV.beq x y = true → x.cc m = y.cc m
  | .bool a, y, h => by
    cases y <;> simp only [SV.beq, Bool.false_eq_true] at h
    simp only [SV.cc, BT.beq_sound _ _ _ h]
  | .int k a, y, h => by
    cases y <;> simp only [SV.beq, Bool.and_eq_true, beq_iff_eq, Bool.false_eq_true] at h
    rw [h.1, IT.beq_sound _ _ h.2]
  | .str a, y, h => by
    cases y <;> simp only [SV.beq, Bool.false_eq_true] at h
    rw [ST.beq_sound _ _ h]
  | .nilp, y, h => by cases y <;> simp only [SV.beq, Bool.false_eq_true] at h; rfl
  | .ptr i o, y, h => by
    cases y <;> simp only [SV.beq, Bool.and_eq_true, beq_iff_eq, Bool.false_eq_true] at h
    rw [h.1, h.2]
  | .nils, y, h => by cases y <;> simp only [SV.beq, Bool.false_eq_true] at h; rfl
  | .slice i o l e c, y, h => by
    cases y <;> simp only [SV.beq, Bool.and_eq_true, beq_iff_eq, Bool.false_eq_true] at h
    rw [h.1, h.2.1, IT.beq_sound _ _ h.2.2.1, h.2.2.2.1, optNatEq_sound h.2.2.2.2]
  | .nilm, y, h => by cases y <;> simp only [SV.beq, Bool.false_eq_true] at h; rfl
  | .map i, y, h => by
    cases y <;> simp only [SV.beq, beq_iff_eq, Bool.false_eq_true] at h
    rw [h]
  | .nilf, y, h => by cases y <;> simp only [SV.beq, Bool.false_eq_true] at h; rfl
  | .func f a, y, h => by
    cases y <;> simp only [SV.beq, Bool.and_eq_true, beq_iff_eq, Bool.false_eq_true] at h
    simp only [SV.cc]; rw [h.1, SV.beqs_ok m _ _ h.2]
  | .nili, y, h => by cases y <;> simp only [SV.beq, Bool.false_eq_true] at h; rfl
  | .iface t x, y, h => by
    cases y <;> simp only [SV.beq, Bool.and_eq_true, beq_iff_eq, Bool.false_eq_true] at h
    simp only [SV.cc]; rw [h.1, SV.beq_ok m _ _ h.2]
  | .agg a, y, h => by
    cases y <;> simp only [SV.beq, Bool.false_eq_true] at h
    simp only [SV.cc]; rw [SV.beqs_ok m _ _ h]
  | .tup a, y, h => by
    cases y <;> simp only [SV.beq, Bool.false_eq_true] at h
    simp only [SV.cc]; rw [SV.beqs_ok m _ _ h]
theorem SV.beqs_ok (m : Mn) : ∀ (x y : List SV), SV.beqs x y = true → SV.ccs m x = SV.ccs m y
  | [], y, h => by cases y <;> simp only [SV.beqs, Bool.false_eq_true] at h; rfl
  | x :: xs, y, h => by
    cases y <;> simp only [SV.beqs, Bool.and_eq_true, Bool.false_eq_true] at h
    simp only [SV.ccs]; rw [SV.beq_ok m _ _ h.1, SV.beqs_ok m _ _ h.2]
end

/-- Places as paths. -/
inductive Pos where
  | e
  | l (p : Pos)
  | r (p : Pos)
  deriving DecidableEq
def posF (f : Nat) : Nat → Pos :=
  Nat.rec (motive := fun _ => Nat → Pos) (fun _ => .e)
    (fun _ ih i => Nat.casesOn (motive := fun _ => Pos) i .e fun j => Nat.casesOn (motive := fun _ => Pos) (j % 2) (.l (ih (j / 2))) fun _ => .r (ih (j / 2))) f
theorem posF_zero (i : Nat) : posF 0 i = .e := rfl
theorem posF_zero' (f : Nat) : posF (f + 1) 0 = .e := rfl
theorem posF_succ (f j : Nat) : posF (f + 1) (Nat.succ j) = if j % 2 = 0 then .l (posF f (j / 2)) else .r (posF f (j / 2)) := by
  show Nat.casesOn (motive := fun _ => Pos) (j % 2) (.l (posF f (j / 2))) (fun _ => .r (posF f (j / 2))) = _
  cases j % 2 with
  | zero => rfl
  | succ k => rfl
/-- The path of a number. -/
def posOf (i : Nat) : Pos := posF (Nat.succ i) i
def Pos.num : Pos → Nat
  | .e => 0
  | .l p => 2 * p.num + 1
  | .r p => 2 * p.num + 2
theorem posF_num : ∀ (f i : Nat), i < f → (posF f i).num = i
  | 0, i, h => by omega
  | f + 1, 0, _ => rfl
  | f + 1, Nat.succ j, h => by
    have ih := posF_num f (j / 2) (by omega)
    rw [posF_succ]
    split
    · rename_i hz; simp only [Pos.num, ih]; omega
    · rename_i hk; simp only [Pos.num, ih]; omega
theorem posOf_num (i : Nat) : (posOf i).num = i := posF_num _ _ (Nat.lt_succ_self i)
theorem posOf_inj {i j : Nat} (h : posOf i = posOf j) : i = j := by
  have := congrArg Pos.num h
  rwa [posOf_num, posOf_num] at this

inductive Tri (α : Type) where
  | nil
  | node (v : Option α) (l r : Tri α)
noncomputable def Tri.get {α : Type} (p : Pos) : Tri α → Option α :=
  Pos.rec (motive := fun _ => Tri α → Option α) (fun t => Tri.casesOn (motive := fun _ => Option α) t none fun v _ _ => v)
    (fun _ ih t => Tri.casesOn (motive := fun _ => Option α) t none fun _ l _ => ih l)
    (fun _ ih t => Tri.casesOn (motive := fun _ => Option α) t none fun _ _ r => ih r) p
theorem Tri.get_e_nil {α : Type} : Tri.get .e (Tri.nil : Tri α) = none := rfl
theorem Tri.get_l_nil {α : Type} (p : Pos) : Tri.get (.l p) (Tri.nil : Tri α) = none := rfl
theorem Tri.get_r_nil {α : Type} (p : Pos) : Tri.get (.r p) (Tri.nil : Tri α) = none := rfl
theorem Tri.get_e {α : Type} (v : Option α) (l r : Tri α) : Tri.get .e (Tri.node v l r) = v := rfl
theorem Tri.get_l {α : Type} (p : Pos) (v : Option α) (l r : Tri α) : Tri.get (.l p) (Tri.node v l r) = Tri.get p l := rfl
theorem Tri.get_r {α : Type} (p : Pos) (v : Option α) (l r : Tri α) : Tri.get (.r p) (Tri.node v l r) = Tri.get p r := rfl
def Tri.set {α : Type} (v : Option α) : Pos → Tri α → Tri α
  | .e, t => match t with | .nil => .node v .nil .nil | .node _ l r => .node v l r
  | .l p, t => match t with | .nil => .node none (Tri.set v p .nil) .nil | .node x l r => .node x (Tri.set v p l) r
  | .r p, t => match t with | .nil => .node none .nil (Tri.set v p .nil) | .node x l r => .node x l (Tri.set v p r)
theorem Tri.get_nil {α : Type} : ∀ (p : Pos), Tri.get p (Tri.nil : Tri α) = none
  | .e => rfl
  | .l _ => rfl
  | .r _ => rfl
theorem Tri.get_set {α : Type} (v : Option α) : ∀ (p q : Pos) (t : Tri α), Tri.get q (Tri.set v p t) = if q = p then v else Tri.get q t
  | .e, q, t => by cases t <;> cases q <;> simp [Tri.set, Tri.get_e, Tri.get_l, Tri.get_r, Tri.get_nil]
  | .l p, q, t => by
    cases t <;> cases q <;> simp [Tri.set, Tri.get_e, Tri.get_l, Tri.get_r, Tri.get_nil, Tri.get_set v p]
  | .r p, q, t => by
    cases t <;> cases q <;> simp [Tri.set, Tri.get_e, Tri.get_l, Tri.get_r, Tri.get_nil, Tri.get_set v p]
/-- The same, at once. -/
noncomputable def Tri.setK {α : Type} (v : Option α) (p : Pos) : Tri α → (Tri α → Bool) → Bool :=
  Pos.rec (motive := fun _ => Tri α → (Tri α → Bool) → Bool)
    (fun t k => Tri.casesOn (motive := fun _ => Bool) t (k (.node v .nil .nil)) fun _ l r => k (.node v l r))
    (fun _ ih t k => Tri.casesOn (motive := fun _ => Bool) t (ih .nil fun l => k (.node none l .nil)) fun x l r => ih l fun l => k (.node x l r))
    (fun _ ih t k => Tri.casesOn (motive := fun _ => Bool) t (ih .nil fun r => k (.node none .nil r)) fun x l r => ih r fun r => k (.node x l r)) p
theorem Tri.setK_eq {α : Type} (v : Option α) : ∀ (p : Pos) (t : Tri α) (k : Tri α → Bool), Tri.setK v p t k = k (Tri.set v p t)
  | .e, t, k => by cases t <;> rfl
  | .l p, t, k => by
    cases t with
    | nil => exact Tri.setK_eq v p .nil _
    | node x l r => exact Tri.setK_eq v p l _
  | .r p, t, k => by
    cases t with
    | nil => exact Tri.setK_eq v p .nil _
    | node x l r => exact Tri.setK_eq v p r _

structure SHeap where
  t : Tri SBlk
  n : Nat
noncomputable def SHeap.get (h : SHeap) (i : Nat) : Option SBlk := Tri.get (posOf i) h.t
def SHeap.put (h : SHeap) (i : Nat) (b : Option SBlk) : SHeap := ⟨Tri.set b (posOf i) h.t, h.n⟩
def SHeap.up (h : SHeap) (k : Nat) : SHeap := ⟨h.t, h.n + k⟩
theorem SHeap.get_put (h : SHeap) (i j : Nat) (b : Option SBlk) : (h.put i b).get j = if j = i then b else h.get j := by
  simp only [SHeap.get, SHeap.put, Tri.get_set]
  by_cases e : j = i
  · subst e; simp
  · rw [if_neg (fun x => e (posOf_inj x)), if_neg e]

def ccE (m : Mn) : List (SV × SV) → List (V × V)
  | [] => []
  | (k, v) :: l => (k.cc m, v.cc m) :: ccE m l

/-- A block stands for a block. Of one that is only read the front may be known, and nothing else. -/
def BC (m : Mn) : SBlk → Option Blk → Prop
  | .cells false l, b => b = some (.cells false (SV.ccs m l))
  | .cells true l, b => ∃ l', b = some (.cells true (SV.ccs m l ++ l'))
  | .iter s p, b => b = some (.iter s p)
  | .mp es, b => b = some (.mp (ccE m es))
  | .dead, b => b = some .dead

structure HC (m : Mn) (sh : SHeap) (h : Heap) : Prop where
  blk : ∀ i b, sh.get i = some b → BC m b (h.get (m.ι i))
  non : ∀ i, sh.get i = none → h.get (m.ι i) = none
  n : ∀ k, m.ι (sh.n + k) = h.n + k

/-- What no name stands for does not turn. -/
def Fri (m : Mn) (h h' : Heap) : Prop := ∀ j, (∀ i, m.ι i ≠ j) → h'.get j = h.get j
theorem Fri.refl (m : Mn) (h : Heap) : Fri m h h := fun _ _ => rfl
theorem Fri.trans {m : Mn} {a b c : Heap} (h : Fri m a b) (k : Fri m b c) : Fri m a c := fun j hj => (k j hj).trans (h j hj)

theorem HC.put {m : Mn} {sh : SHeap} {h : Heap} (H : HC m sh h) (i : Nat) {b : SBlk} {c : Blk} (hb : BC m b (some c)) : HC m (sh.put i (some b)) (h.put (m.ι i) (some c)) ∧ Fri m h (h.put (m.ι i) (some c)) := by
  refine ⟨⟨fun j b' hj => ?_, fun j hj => ?_, H.n⟩, fun j hj => ?_⟩
  · rw [SHeap.get_put] at hj
    rw [Heap.get_put]
    by_cases e : j = i
    · subst e; simp at hj; subst hj; simpa using hb
    · rw [if_neg e] at hj
      rw [if_neg (fun x => e (m.inj _ _ x))]
      exact H.blk j b' hj
  · rw [SHeap.get_put] at hj
    rw [Heap.get_put]
    by_cases e : j = i
    · subst e; simp at hj
    · rw [if_neg e] at hj
      rw [if_neg (fun x => e (m.inj _ _ x))]
      exact H.non j hj
  · rw [Heap.get_put, if_neg (Ne.symm (hj i))]

theorem HC.up {m : Mn} {sh : SHeap} {h : Heap} (H : HC m sh h) (k : Nat) : HC m (sh.up k) (h.up k) :=
  ⟨H.blk, H.non, fun j => by have := H.n (k + j); simp only [SHeap.up, Heap.up]; rw [Nat.add_assoc, this, Nat.add_assoc]⟩
theorem HC.n0 {m : Mn} {sh : SHeap} {h : Heap} (H : HC m sh h) : m.ι sh.n = h.n := by simpa using H.n 0

mutual
def symV : V → Option SV
  | .bool b => some (.bool (.c b))
  | .int k n => some (.int k (.c n))
  | .str s => some (.str (.c s))
  | .nilp => some .nilp
  | .ptr i o => if i < NG then some (.ptr i o) else none
  | .nils => some .nils
  | .slice _ _ _ _ _ => none
  | .nilm => some .nilm
  | .map _ => none
  | .nilf => some .nilf
  | .func f l => (symL l).map (.func f)
  | .nili => some .nili
  | .iface t v => (symV v).map (.iface t)
  | .agg l => (symL l).map .agg
  | .tup l => (symL l).map .tup
def symL : List V → Option (List SV)
  | [] => some []
  | v :: l => (symV v).bind fun v => (symL l).map (v :: ·)
end

mutual
theorem symV_ok (m : Mn) : ∀ (v : V) {x : SV}, symV v = some x → x.cc m = v
  | .bool b, x, h => by cases h; rfl
  | .int k n, x, h => by cases h; rfl
  | .str s, x, h => by cases h; rfl
  | .nilp, x, h => by cases h; rfl
  | .ptr i o, x, h => by
    simp only [symV] at h
    split at h
    · rename_i hi; cases h; simp only [SV.cc, m.gl i hi]
    · cases h
  | .nils, x, h => by cases h; rfl
  | .slice _ _ _ _ _, x, h => by cases h
  | .nilm, x, h => by cases h; rfl
  | .map _, x, h => by cases h
  | .nilf, x, h => by cases h; rfl
  | .func f l, x, h => by
    simp only [symV, Option.map_eq_some_iff] at h
    obtain ⟨y, hy, rfl⟩ := h
    simp only [SV.cc, symL_ok m l hy]
  | .nili, x, h => by cases h; rfl
  | .iface t v, x, h => by
    simp only [symV, Option.map_eq_some_iff] at h
    obtain ⟨y, hy, rfl⟩ := h
    simp only [SV.cc, symV_ok m v hy]
  | .agg l, x, h => by
    simp only [symV, Option.map_eq_some_iff] at h
    obtain ⟨y, hy, rfl⟩ := h
    simp only [SV.cc, symL_ok m l hy]
  | .tup l, x, h => by
    simp only [symV, Option.map_eq_some_iff] at h
    obtain ⟨y, hy, rfl⟩ := h
    simp only [SV.cc, symL_ok m l hy]
theorem symL_ok (m : Mn) : ∀ (l : List V) {x : List SV}, symL l = some x → SV.ccs m x = l
  | [], x, h => by cases h; rfl
  | v :: l, x, h => by
    simp only [symL, Option.bind_eq_some_iff, Option.map_eq_some_iff] at h
    obtain ⟨y, hy, z, hz, rfl⟩ := h
    simp only [SV.ccs, symV_ok m v hy, symL_ok m l hz]
end

/-- Lists of slots. -/
def snth : List SV → Nat → SV
  | [], _ => sundef
  | v :: _, 0 => v
  | _ :: l, n + 1 => snth l n
def supd : List SV → Nat → SV → List SV
  | [], _, _ => []
  | _ :: l, 0, v => v :: l
  | x :: l, n + 1, v => x :: supd l n v
def scellAt : List SV → Nat → Option SV
  | [], _ => none
  | v :: _, 0 => some v
  | _ :: l, n + 1 => scellAt l n
def sputAt : List SV → Nat → List SV → Option (List SV)
  | l, 0, [] => some l
  | _ :: l, 0, v :: vs => (sputAt l 0 vs).map (v :: ·)
  | [], 0, _ :: _ => none
  | x :: l, n + 1, vs => (sputAt l n vs).map (x :: ·)
  | [], _ + 1, _ => none
def stakeN : List SV → Nat → Option (List SV)
  | _, 0 => some []
  | [], _ + 1 => none
  | v :: l, n + 1 => (stakeN l n).map (v :: ·)
def scellsAt : List SV → Nat → Nat → Option (List SV)
  | l, 0, k => stakeN l k
  | [], _ + 1, k => if k = 0 then some [] else none
  | _ :: l, n + 1, k => scellsAt l n k
def sputD (t : List SV) (d : Option Nat) (v : SV) : List SV :=
  match d with
  | some d => supd t d v
  | none => t

theorem snth_ok (m : Mn) : ∀ (l : List SV) (i : Nat), (snth l i).cc m = nth (SV.ccs m l) i
  | [], _ => rfl
  | _ :: _, 0 => rfl
  | _ :: l, i + 1 => snth_ok m l i
theorem supd_ok (m : Mn) : ∀ (l : List SV) (i : Nat) (v : SV), SV.ccs m (supd l i v) = upd (SV.ccs m l) i (v.cc m)
  | [], _, _ => rfl
  | _ :: _, 0, _ => rfl
  | x :: l, i + 1, v => by simp only [supd, SV.ccs, upd, supd_ok m l i v]
theorem sputD_ok (m : Mn) (l : List SV) (d : Option Nat) (v : SV) : SV.ccs m (sputD l d v) = putD (SV.ccs m l) d (v.cc m) := by
  cases d with
  | none => rfl
  | some d => exact supd_ok m l d v
theorem scellAt_ok (m : Mn) : ∀ (l : List SV) (l' : List V) (i : Nat) {v : SV}, scellAt l i = some v → cellAt (SV.ccs m l ++ l') i = some (v.cc m)
  | [], _, _, v, h => by simp [scellAt] at h
  | _ :: _, _, 0, v, h => by simp only [scellAt, Option.some.injEq] at h; subst h; rfl
  | _ :: l, l', i + 1, v, h => scellAt_ok m l l' i h
theorem stakeN_ok (m : Mn) : ∀ (l : List SV) (l' : List V) (n : Nat) {r : List SV}, stakeN l n = some r → takeN (SV.ccs m l ++ l') n = some (SV.ccs m r)
  | l, l', 0, r, h => by
    have : r = [] := by cases l <;> simp [stakeN] at h <;> first | exact h | exact h.symm
    subst this
    cases hh : SV.ccs m l ++ l' <;> rfl
  | [], _, n + 1, r, h => by simp [stakeN] at h
  | v :: l, l', n + 1, r, h => by
    simp only [stakeN, Option.map_eq_some_iff] at h
    obtain ⟨y, hy, rfl⟩ := h
    simp only [SV.ccs, List.cons_append, takeN, stakeN_ok m l l' n hy, Option.map_some]
theorem scellsAt_ok (m : Mn) : ∀ (l : List SV) (l' : List V) (o n : Nat) {r : List SV}, scellsAt l o n = some r → (n = 0 ∧ r = []) ∨ cellsAt (SV.ccs m l ++ l') o n = some (SV.ccs m r)
  | l, l', 0, n, r, h => by
    have h' : stakeN l n = some r := by cases l <;> exact h
    right
    have := stakeN_ok m l l' n h'
    cases hh : SV.ccs m l ++ l' <;> rw [hh] at this <;> exact this
  | [], l', o + 1, n, r, h => by
    simp only [scellsAt] at h
    split at h
    · rename_i hn; cases h; exact .inl ⟨hn, rfl⟩
    · cases h
  | v :: l, l', o + 1, n, r, h => by
    simp only [scellsAt] at h
    rcases scellsAt_ok m l l' o n h with h1 | h1
    · exact .inl h1
    · exact .inr h1
theorem sputAt_ok (m : Mn) : ∀ (l : List SV) (o : Nat) (vs : List SV) {r : List SV}, sputAt l o vs = some r → putAt (SV.ccs m l) o (SV.ccs m vs) = some (SV.ccs m r)
  | l, 0, [], r, h => by
    have : r = l := by cases l <;> simp [sputAt] at h <;> first | exact h.symm | exact h
    subst this
    cases r <;> rfl
  | x :: l, 0, v :: vs, r, h => by
    simp only [sputAt, Option.map_eq_some_iff] at h
    obtain ⟨y, hy, rfl⟩ := h
    simp only [SV.ccs, putAt, sputAt_ok m l 0 vs hy, Option.map_some]
  | [], 0, v :: vs, r, h => by simp [sputAt] at h
  | x :: l, o + 1, vs, r, h => by
    simp only [sputAt, Option.map_eq_some_iff] at h
    obtain ⟨y, hy, rfl⟩ := h
    simp only [SV.ccs, putAt, sputAt_ok m l o vs hy, Option.map_some]
  | [], o + 1, vs, r, h => by cases vs <;> simp [sputAt] at h

/-- What is at once what it is: numbers. -/
def fcN (n : Nat) (k : Nat → Bool) : Bool := Nat.casesOn (motive := fun _ => Bool) n (k 0) fun p => k (Nat.succ p)
theorem fcN_eq (n : Nat) (k : Nat → Bool) : fcN n k = k n := by cases n <;> rfl
def fcI (n : Int) (k : Int → Bool) : Bool := Int.casesOn (motive := fun _ => Bool) n (fun m => fcN m fun m => k (.ofNat m)) fun m => fcN m fun m => k (.negSucc m)
theorem fcI_eq (n : Int) (k : Int → Bool) : fcI n k = k n := by
  cases n with
  | ofNat m => exact fcN_eq m fun m => k (.ofNat m)
  | negSucc m => exact fcN_eq m fun m => k (.negSucc m)
def fcB (b : Bool) (k : Bool → Bool) : Bool := Bool.casesOn (motive := fun _ => Bool) b (k false) (k true)
theorem fcB_eq (b : Bool) (k : Bool → Bool) : fcB b k = k b := by cases b <;> rfl
def fcIT (t : IT) (k : IT → Bool) : Bool :=
  match t with
  | .c n => fcI n fun n => k (.c n)
  | .add a (.c n) => fcI n fun n => k (.add a (.c n))
  | t => k t
theorem fcIT_eq (t : IT) (k : IT → Bool) : fcIT t k = k t := by
  unfold fcIT
  split <;> first | rfl | simp only [fcI_eq]
def fcBT (t : BT) (k : BT → Bool) : Bool :=
  match t with
  | .c b => fcB b fun b => k (.c b)
  | t => k t
theorem fcBT_eq (t : BT) (k : BT → Bool) : fcBT t k = k t := by
  unfold fcBT
  split <;> first | rfl | simp only [fcB_eq]
def fcST (t : ST) (k : ST → Bool) : Bool :=
  match t with
  | .c l => k (.c l)
  | t => k t
theorem fcST_eq (t : ST) (k : ST → Bool) : fcST t k = k t := by
  unfold fcST
  split <;> rfl
def fcO (o : Option Nat) (k : Option Nat → Bool) : Bool := match o with | none => k none | some n => fcN n fun n => k (some n)
theorem fcO_eq (o : Option Nat) (k : Option Nat → Bool) : fcO o k = k o := by cases o <;> simp only [fcO, fcN_eq]
mutual
def fcSV (v : SV) (k : SV → Bool) : Bool :=
  match v with
  | .bool b => fcBT b fun b => k (.bool b)
  | .int kd n => fcIT n fun n => k (.int kd n)
  | .str s => fcST s fun s => k (.str s)
  | .ptr i o => fcN i fun i => fcN o fun o => k (.ptr i o)
  | .slice i o l e c => fcN i fun i => fcN o fun o => fcIT l fun l => fcO c fun c => k (.slice i o l e c)
  | .map i => fcN i fun i => k (.map i)
  | .agg l => fcSL l fun l => k (.agg l)
  | .tup l => fcSL l fun l => k (.tup l)
  | v => k v
def fcSL (l : List SV) (k : List SV → Bool) : Bool :=
  match l with
  | [] => k []
  | v :: l => fcSV v fun v => fcSL l fun l => k (v :: l)
end
mutual
theorem fcSV_eq : ∀ (v : SV) (k : SV → Bool), fcSV v k = k v
  | .bool b, k => by simp only [fcSV, fcBT_eq]
  | .int kd n, k => by simp only [fcSV, fcIT_eq]
  | .str s, k => by simp only [fcSV, fcST_eq]
  | .nilp, k => rfl
  | .ptr i o, k => by simp only [fcSV, fcN_eq]
  | .nils, k => rfl
  | .slice i o l e c, k => by simp only [fcSV, fcN_eq, fcIT_eq, fcO_eq]
  | .nilm, k => rfl
  | .map i, k => by simp only [fcSV, fcN_eq]
  | .nilf, k => rfl
  | .func f l, k => rfl
  | .nili, k => rfl
  | .iface t v, k => rfl
  | .agg l, k => by simp only [fcSV, fcSL_eq l]
  | .tup l, k => by simp only [fcSV, fcSL_eq l]
theorem fcSL_eq : ∀ (l : List SV) (k : List SV → Bool), fcSL l k = k l
  | [], k => rfl
  | v :: l, k => by simp only [fcSL, fcSV_eq v, fcSL_eq l]
end

/-- Runs: what is to be true of each of the ways that it may go. -/
abbrev R (α : Type) := (PC → α → Bool) → Bool
def rOne {α : Type} (pc : PC) (a : α) : R α := fun k => k pc a
def rNo {α : Type} : R α := fun _ => false
def rB {α β : Type} (r : R α) (f : PC → α → R β) : R β := fun k => r fun pc a => f pc a k
def rO {α β : Type} (o : Option α) (f : α → R β) : R β := fun k => Option.casesOn (motive := fun _ => Bool) o false fun a => f a k
/-- A value, at once. -/
def fcV (v : SV) (k : SV → Bool) : Bool :=
  SV.casesOn (motive_1 := fun _ => Bool) v (fun b => fcBT b fun b => k (.bool b)) (fun kd n => fcIT n fun n => k (.int kd n)) (fun s => fcST s fun s => k (.str s)) (k .nilp)
    (fun i o => fcN i fun i => fcN o fun o => k (.ptr i o)) (k .nils) (fun i o l e c => fcSV (.slice i o l e c) k) (k .nilm) (fun i => fcN i fun i => k (.map i)) (k .nilf) (fun f c => k (.func f c)) (k .nili) (fun t v => k (.iface t v))
    (fun l => fcSV (.agg l) k) (fun l => fcSV (.tup l) k)
theorem fcV_eq (v : SV) (k : SV → Bool) : fcV v k = k v := by
  cases v with
  | bool b => exact fcBT_eq b fun b => k (.bool b)
  | int kd n => exact fcIT_eq n fun n => k (.int kd n)
  | str s => exact fcST_eq s fun s => k (.str s)
  | ptr i o => exact (fcN_eq i fun i => fcN o fun o => k (.ptr i o)).trans (fcN_eq o fun o => k (.ptr i o))
  | slice i o l e c => exact fcSV_eq (.slice i o l e c) k
  | map i => exact fcN_eq i fun i => k (.map i)
  | agg l => exact fcSV_eq (.agg l) k
  | tup l => exact fcSV_eq (.tup l) k
  | _ => rfl
def rV (pc : PC) (v : SV) : R SV := fun k => fcV v fun v => k pc v

def Snd {α : Type} (σ : Val) (r : R α) (Q : α → Prop) : Prop := ∀ k, r k = true → ∃ pc a, σ.ok pc ∧ Q a ∧ k pc a = true

theorem Snd.one {α : Type} {σ : Val} {pc : PC} {a : α} {Q : α → Prop} (h : σ.ok pc) (q : Q a) : Snd σ (rOne pc a) Q := fun _ hk => ⟨pc, a, h, q, hk⟩
theorem Snd.val {σ : Val} {pc : PC} {a : SV} {Q : SV → Prop} (h : σ.ok pc) (q : Q a) : Snd σ (rV pc a) Q := fun k hk => ⟨pc, a, h, q, by rwa [rV, fcV_eq] at hk⟩
theorem Snd.none {α : Type} {σ : Val} {Q : α → Prop} : Snd σ (rNo : R α) Q := fun _ hk => by cases hk
theorem Snd.opt {α β : Type} {σ : Val} {o : Option α} {f : α → R β} {Q : β → Prop} (h : ∀ a, o = some a → Snd σ (f a) Q) : Snd σ (rO o f) Q := by
  intro k hk
  cases o with
  | none => cases hk
  | some a => exact h a rfl k hk
theorem Snd.mono {α : Type} {σ : Val} {r : R α} {Q Q' : α → Prop} (h : Snd σ r Q) (k : ∀ a, Q a → Q' a) : Snd σ r Q' := fun f hf => let ⟨pc, a, h1, h2, h3⟩ := h f hf; ⟨pc, a, h1, k _ h2, h3⟩
theorem Snd.bind {α β : Type} {σ : Val} {r : R α} {f : PC → α → R β} {P : α → Prop} {Q : β → Prop} (h : Snd σ r P) (k : ∀ pc a, σ.ok pc → P a → Snd σ (f pc a) Q) : Snd σ (rB r f) Q := by
  intro g hg
  obtain ⟨pc, a, h1, h2, h3⟩ := h _ hg
  exact k pc a h1 h2 g h3

def fcR (r : Rg) (k : Rg → Bool) : Bool :=
  match r with
  | (a, b) => match a with
    | none => (match b with | none => k (none, none) | some b => fcI b fun b => k (none, some b))
    | some a => fcI a fun a => (match b with | none => k (some a, none) | some b => fcI b fun b => k (some a, some b))
theorem fcR_eq (r : Rg) (k : Rg → Bool) : fcR r k = k r := by
  obtain ⟨a, b⟩ := r
  cases a <;> cases b <;> simp only [fcR, fcI_eq]
/-- Ranges that tell something, at once. -/
def fcRs (l : List (IT × Rg)) (k : List (IT × Rg) → Bool) : Bool :=
  match l with
  | [] => k []
  | (t, r) :: l => fcIT t fun t => fcR r fun r => fcRs l fun l => if trivR (t, r) then k l else k ((t, r) :: l)
theorem fcRs_eq : ∀ (l : List (IT × Rg)) (k : List (IT × Rg) → Bool), fcRs l k = k (notTriv l)
  | [], k => rfl
  | (t, r) :: l, k => by
    simp only [fcRs, fcIT_eq, fcR_eq, fcRs_eq l, notTriv]
    split <;> rfl
def fcApp (l : List (IT × Rg)) (m : List (IT × Option Int × Option Int)) (k : List (IT × Option Int × Option Int) → Bool) : Bool :=
  match l with
  | [] => k m
  | x :: l => fcApp l m fun m => k (x :: m)
theorem fcApp_eq : ∀ (l : List (IT × Rg)) (m : List (IT × Option Int × Option Int)) (k : List (IT × Option Int × Option Int) → Bool), fcApp l m k = k (appR l m)
  | [], _, _ => rfl
  | x :: l, m, k => by simp only [fcApp, appR, fcApp_eq l]

def anyEmp2 (pc : PC) : List (IT × Rg) → Bool
  | [] => false
  | f :: l => empR (rg pc f.1) || anyEmp2 pc l
theorem anyEmp2_eq (pc : PC) : ∀ l, anyEmp2 pc l = anyEmp pc l
  | [] => rfl
  | f :: l => by simp only [anyEmp2, anyEmp, anyEmp2_eq pc l]

/-- A truth known, unless it can't be. -/
def assumeK (pc : PC) (b : BT) (v : Bool) (k : PC → Bool) : Bool :=
  fcRs (refi pc b v) fun l => fcApp l pc.ri fun ri => match anyEmp2 ⟨ri, (b, v) :: pc.rb⟩ l with | true => true | false => k ⟨ri, (b, v) :: pc.rb⟩
theorem assumeK_ok {σ : Val} {pc : PC} (h : σ.ok pc) {b : BT} {v : Bool} (hv : b.ev σ = v) {k : PC → Bool} (hk : assumeK pc b v k = true) : ∃ pc', σ.ok pc' ∧ k pc' = true := by
  simp only [assumeK, fcRs_eq, fcApp_eq] at hk
  have h' : σ.ok (pc.know b v) := PC.know_ok h hv
  refine ⟨_, h', ?_⟩
  have e : anyEmp2 (pc.know b v) (notTriv (refi pc b v)) = false := by rw [anyEmp2_eq]; exact anyEmp_ok h' _
  have e2 : anyEmp2 ⟨appR (notTriv (refi pc b v)) pc.ri, (b, v) :: pc.rb⟩ (notTriv (refi pc b v)) = false := e
  rw [e2] at hk
  exact hk

def rBoth (pc : PC) (b : BT) (k : PC → Bool → Bool) : Bool :=
  Bool.casesOn (motive := fun _ => Bool) (assumeK pc b true fun pc => k pc true) false (assumeK pc b false fun pc => k pc false)
def rSplit (pc : PC) (b : BT) : R Bool := fun k =>
  Option.casesOn (motive := fun _ => Bool) (dB pc b) (rBoth pc b k) fun v => fcB v fun v => k pc v
theorem rSplit_ok {σ : Val} {pc : PC} (h : σ.ok pc) (b : BT) : Snd σ (rSplit pc b) fun v => b.ev σ = v := by
  intro k hk
  unfold rSplit at hk
  cases hd : dB pc b with
  | some v =>
    rw [hd] at hk
    simp only [fcB_eq] at hk
    exact ⟨pc, v, h, dB_ok h b hd, hk⟩
  | none =>
    rw [hd] at hk
    simp only [rBoth] at hk
    cases ht : (assumeK pc b true fun pc => k pc true) with
    | false => rw [ht] at hk; cases hk
    | true =>
      rw [ht] at hk
      cases hv : b.ev σ with
      | true => obtain ⟨pc', h1, h2⟩ := assumeK_ok h hv ht; exact ⟨pc', true, h1, rfl, h2⟩
      | false => obtain ⟨pc', h1, h2⟩ := assumeK_ok h hv hk; exact ⟨pc', false, h1, rfl, h2⟩

/-- It is so. -/
def must (pc : PC) (b : BT) : Bool := match dB pc b with | some v => v | none => false
theorem must_ok {σ : Val} {pc : PC} (h : σ.ok pc) {b : BT} (hm : must pc b = true) : b.ev σ = true := by
  unfold must at hm
  split at hm
  · rename_i v hv; subst hm; exact dB_ok h b hv
  · cases hm

/-- A number, each value that it may have; so many at most. -/
def enumK (pc : PC) (t : IT) (a : Int) (k : PC → Int → Bool) : Nat → Bool
  | 0 => true
  | n + 1 => match (fcI (a + n) fun x => assumeK pc (.eq t (.c x)) true fun pc => k pc x) with
    | true => enumK pc t a k n
    | false => false
theorem enumK_ok {σ : Val} {pc : PC} (h : σ.ok pc) {t : IT} {a : Int} {k : PC → Int → Bool} : ∀ {n : Nat}, enumK pc t a k n = true → a ≤ t.ev σ → t.ev σ < a + n → ∃ pc', σ.ok pc' ∧ k pc' (t.ev σ) = true
  | 0, _, h1, h2 => by omega
  | n + 1, hk, h1, h2 => by
    simp only [enumK] at hk
    split at hk
    · rename_i ht
      by_cases e : t.ev σ = a + n
      · rw [fcI_eq] at ht
        obtain ⟨pc', h3, h4⟩ := assumeK_ok h (b := .eq t (.c (a + n))) (v := true) (by simp [BT.ev, IT.ev, e]) ht
        exact ⟨pc', h3, by rw [e]; exact h4⟩
      · exact enumK_ok h hk h1 (by omega)
    · cases hk

def limE : Nat := 300
def rEnum (pc : PC) (t : IT) : R Int := fun k =>
  match fold pc t with
  | .c n => fcI n fun n => k pc n
  | _ => match rg pc t with
    | (some a, some b) => if b - a < limE then enumK pc t a k (b - a + 1).toNat else false
    | _ => false
theorem rEnum_ok {σ : Val} {pc : PC} (h : σ.ok pc) (t : IT) : Snd σ (rEnum pc t) fun n => t.ev σ = n := by
  intro k hk
  unfold rEnum at hk
  split at hk
  · rename_i n hn
    rw [fcI_eq] at hk
    refine ⟨pc, n, h, ?_, hk⟩
    rw [← fold_ok h t, hn]; rfl
  · split at hk
    · rename_i a b hr
      have := rg_ok h t
      rw [hr] at this
      have h1 := this.1 a rfl; have h2 := this.2 b rfl
      split at hk
      · obtain ⟨pc', h3, h4⟩ := enumK_ok h hk h1 (by omega)
        exact ⟨pc', _, h3, rfl, h4⟩
      · cases hk
    · cases hk

end Gw
