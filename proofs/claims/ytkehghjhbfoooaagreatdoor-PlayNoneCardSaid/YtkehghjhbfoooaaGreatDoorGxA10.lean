/- Memory: the machine's blocks stand for the model's; what is read, written, made keeps that. -/
import Derived.Test.YtkehghjhbfoooaaGreatDoorGxA9
noncomputable section
namespace Gw
open Go Go.RowKit

/-- As w was, in all blocks that are to be kept; the streams are as they were; no block has gone. -/
structure Keeps (B : Nat → Prop) (w w' : World) : Prop where
  os : w'.os = w.os
  tape : w'.tape = w.tape
  output : w'.output = w.output
  size : w.heap.size ≤ w'.heap.size
  block : ∀ k, B k → w'.heap[k]? = w.heap[k]?
theorem Keeps.refl (B : Nat → Prop) (w : World) : Keeps B w w := ⟨rfl, rfl, rfl, Nat.le_refl _, fun _ _ => rfl⟩
theorem Keeps.trans {B : Nat → Prop} {a b c : World} (h : Keeps B a b) (k : Keeps B b c) : Keeps B a c :=
  ⟨k.os.trans h.os, k.tape.trans h.tape, k.output.trans h.output, Nat.le_trans h.size k.size, fun i hi => (k.block i hi).trans (h.block i hi)⟩
theorem Keeps.mono {B B' : Nat → Prop} {w w' : World} (h : Keeps B w w') (hB : ∀ k, B' k → B k) : Keeps B' w w' := ⟨h.os, h.tape, h.output, h.size, fun k hk => h.block k (hB k hk)⟩
theorem Keeps.below {n : Nat} {w w' : World} (h : Keeps (fun k => k < n) w w') : Below n w w' := ⟨h.os, h.tape, h.output, h.size, h.block⟩

def Blk.rw : Blk → Bool
  | .cells ro _ => !ro
  | .dead => false
  | _ => true
def Blk.plain : Blk → Bool
  | .obj _ => false
  | _ => true

def CR (ρ : Rho) (l : List V) (c : Array Value) (o : Nat) : Prop := ∀ k v, l[k]? = some v → ∃ x, c[o + k]? = some x ∧ VR ρ v x
def FZ (fz : Nat × Nat) (z : Nat) : Prop := fz = (0, 0) ∨ fz = (z, z + 1)

def ER (ρ : Rho) : List (V × V) → List MapEntry → Prop
  | [], ys => ys = []
  | (k, v) :: l, ys => ∃ e ys', ys = e :: ys' ∧ VR ρ k e.key ∧ VR ρ v e.val ∧ ER ρ l ys'

/-- No name stands for anything. -/
def rho0 : Rho := fun _ => none

/-- A cell of a thing, in memory; the blocks that are its own. -/
def RepC (R : Ob → Loc → List Nat → Prop) : Ce → Value → List Nat → Prop
  | .v v, x, F => VR rho0 v x ∧ F = []
  | .p y, x, F => ∃ L, x = .pointer (some ⟨L.b, L.o, none⟩) ∧ R y L F
  | .s y n e, x, F => ∃ L a k, x = .slice (some a) n k ∧ n ≤ k ∧ a.block = L.b ∧ (k = 0 → L.o = 0) ∧ (k ≠ 0 → a = ⟨L.b, L.o, none⟩ ∧ L.o + k * e ≤ L.z) ∧ y.enc.length = n * e ∧ R y L F
def RepCs (R : Ob → Loc → List Nat → Prop) : List Ce → List Value → List Nat → Prop
  | [], _, F => F = []
  | ce :: cs, xs, F => ∃ x xs' G1 G2, xs = x :: xs' ∧ F = G1 ++ G2 ∧ RepC R ce x G1 ∧ RepCs R cs xs' G2 ∧ ∀ k ∈ G1, k ∉ G2
/-- A thing in memory, so deep; the blocks that are its own. -/
def RepD (w : World) : Nat → Ob → Loc → List Nat → Prop
  | 0, _, _, _ => False
  | d + 1, x, L, F => ∃ c e fz G, F = L.b :: G ∧ w.heap[L.b]? = some (.cells c e fz) ∧ c.size = L.z ∧ FZ fz L.z ∧ L.o + x.enc.length ≤ L.z ∧ RepCs (RepD w d) x.enc (c.toList.drop L.o) G ∧ L.b ∉ G
def Rep (w : World) (x : Ob) (L : Loc) (F : List Nat) : Prop := ∃ d, RepD w d x L F

theorem RepC.mono {R R' : Ob → Loc → List Nat → Prop} (h : ∀ y L F, R y L F → R' y L F) {ce : Ce} {x : Value} {F : List Nat} (hr : RepC R ce x F) : RepC R' ce x F := by
  cases ce with
  | v v => exact hr
  | p y => obtain ⟨L, h1, h2⟩ := hr; exact ⟨L, h1, h _ _ _ h2⟩
  | s y n e => obtain ⟨L, a, k, h1, h2, h3, h4, h5, h6, h7⟩ := hr; exact ⟨L, a, k, h1, h2, h3, h4, h5, h6, h _ _ _ h7⟩
theorem RepCs.mono {R R' : Ob → Loc → List Nat → Prop} (h : ∀ y L F, R y L F → R' y L F) : ∀ {cs : List Ce} {xs : List Value} {F : List Nat}, RepCs R cs xs F → RepCs R' cs xs F
  | [], _, _, hr => hr
  | _ :: _, _, _, ⟨x, xs', G1, G2, h1, h2, h3, h4, h5⟩ => ⟨x, xs', G1, G2, h1, h2, h3.mono h, RepCs.mono h h4, h5⟩
theorem RepD.succ {w : World} : ∀ {d : Nat} {x : Ob} {L : Loc} {F : List Nat}, RepD w d x L F → RepD w (d + 1) x L F
  | 0, _, _, _, h => h.elim
  | _ + 1, _, _, _, ⟨c, e, fz, G, h1, h2, h3, h4, h5, h6, h7⟩ => ⟨c, e, fz, G, h1, h2, h3, h4, h5, h6.mono fun _ _ _ h => RepD.succ h, h7⟩
theorem RepD.le {w : World} {d d' : Nat} (hd : d ≤ d') {x : Ob} {L : Loc} {F : List Nat} (h : RepD w d x L F) : RepD w d' x L F := by
  obtain ⟨k, rfl⟩ := Nat.exists_eq_add_of_le hd
  induction k with
  | zero => exact h
  | succ k ih => exact RepD.succ (ih (by omega))

theorem RepC.congr {R R' : Ob → Loc → List Nat → Prop} {ce : Ce} {x : Value} {F : List Nat} (h : ∀ y L G, R y L G → (∀ k ∈ G, k ∈ F) → R' y L G) (hr : RepC R ce x F) : RepC R' ce x F := by
  cases ce with
  | v v => exact hr
  | p y => obtain ⟨L, h1, h2⟩ := hr; exact ⟨L, h1, h _ _ _ h2 fun _ hk => hk⟩
  | s y n e => obtain ⟨L, a, k, h1, h2, h3, h4, h5, h6, h7⟩ := hr; exact ⟨L, a, k, h1, h2, h3, h4, h5, h6, h _ _ _ h7 fun _ hk => hk⟩
theorem RepCs.congr {R R' : Ob → Loc → List Nat → Prop} : ∀ {cs : List Ce} {xs : List Value} {F : List Nat}, (∀ y L G, R y L G → (∀ k ∈ G, k ∈ F) → R' y L G) → RepCs R cs xs F → RepCs R' cs xs F
  | [], _, _, _, hr => hr
  | _ :: _, _, F, h, ⟨x, xs', G1, G2, h1, h2, h3, h4, h5⟩ => by
    refine ⟨x, xs', G1, G2, h1, h2, h3.congr fun y L G hg hk => h y L G hg fun k q => ?_, RepCs.congr (fun y L G hg hk => h y L G hg fun k q => ?_) h4, h5⟩
    · subst h2; simp [hk k q]
    · subst h2; simp [hk k q]
theorem RepD.congr {w w' : World} : ∀ {d : Nat} {x : Ob} {L : Loc} {F : List Nat}, RepD w d x L F → (∀ k ∈ F, w'.heap[k]? = w.heap[k]?) → RepD w' d x L F
  | 0, _, _, _, h, _ => h.elim
  | d + 1, _, L, F, ⟨c, e, fz, G, h1, h2, h3, h4, h5, h6, h7⟩, hw => by
    subst h1
    exact ⟨c, e, fz, G, rfl, by rw [hw L.b (by simp)]; exact h2, h3, h4, h5, h6.congr fun y M K hr hk => RepD.congr hr fun k q => hw k (by simp [hk k q]), h7⟩
theorem Rep.congr {w w' : World} {x : Ob} {L : Loc} {F : List Nat} (h : Rep w x L F) (hw : ∀ k ∈ F, w'.heap[k]? = w.heap[k]?) : Rep w' x L F := let ⟨d, hd⟩ := h; ⟨d, hd.congr hw⟩

theorem RepD.z {w : World} {d : Nat} {x : Ob} {L : Loc} {F : List Nat} (h : RepD w d x L F) : ∃ c e fz, w.heap[L.b]? = some (.cells c e fz) ∧ c.size = L.z := by
  cases d with
  | zero => exact h.elim
  | succ d => obtain ⟨c, e, fz, G, h1, h2, h3, _⟩ := h; exact ⟨c, e, fz, h2, h3⟩
theorem RepD.loc {w : World} {d d' : Nat} {x y : Ob} {L M : Loc} {F G : List Nat} (h : RepD w d x L F) (h' : RepD w d' y M G) (hb : L.b = M.b) (ho : L.o = M.o) : L = M := by
  obtain ⟨c, e, fz, h1, h2⟩ := h.z
  obtain ⟨c', e', fz', h3, h4⟩ := h'.z
  rw [hb, h3] at h1
  simp only [Option.some.injEq, Obj.cells.injEq] at h1
  obtain ⟨b, o, z⟩ := L
  obtain ⟨b', o', z'⟩ := M
  simp only at hb ho h2 h4
  rw [hb, ho, ← h2, ← h4, h1.1]

theorem RepC.det {w : World} {d : Nat} (ih : ∀ {x : Ob} {L : Loc} {F G : List Nat}, RepD w d x L F → RepD w d x L G → F = G) {ce : Ce} {x : Value} {F G : List Nat} (h : RepC (RepD w d) ce x F) (h' : RepC (RepD w d) ce x G) : F = G := by
  cases ce with
  | v v => rw [h.2, h'.2]
  | p y =>
    obtain ⟨L, e1, h1⟩ := h
    obtain ⟨M, e2, h2⟩ := h'
    rw [e1] at e2
    simp only [Value.pointer.injEq, Option.some.injEq, Addr.mk.injEq, and_true] at e2
    have := h1.loc h2 e2.1 e2.2
    subst this
    exact ih h1 h2
  | s y n e =>
    obtain ⟨L, a, k, e1, _, b1, o1, c1, _, h1⟩ := h
    obtain ⟨M, a', k', e2, _, b2, o2, c2, _, h2⟩ := h'
    rw [e1] at e2
    simp only [Value.slice.injEq, Option.some.injEq] at e2
    obtain ⟨rfl, _, rfl⟩ := e2
    have hb : L.b = M.b := by rw [← b1, b2]
    have ho : L.o = M.o := by
      by_cases hk : k = 0
      · rw [o1 hk, o2 hk]
      · have := (c1 hk).1; rw [(c2 hk).1] at this; simp only [Addr.mk.injEq, and_true] at this; exact this.2.symm
    have := h1.loc h2 hb ho
    subst this
    exact ih h1 h2
theorem RepCs.det {w : World} {d : Nat} (ih : ∀ {x : Ob} {L : Loc} {F G : List Nat}, RepD w d x L F → RepD w d x L G → F = G) : ∀ {cs : List Ce} {xs : List Value} {F G : List Nat}, RepCs (RepD w d) cs xs F → RepCs (RepD w d) cs xs G → F = G
  | [], _, _, _, h, h' => by
    simp only [RepCs] at h h'; rw [h, h']
  | _ :: _, _, _, _, ⟨x, xs', G1, G2, h1, h2, h3, h4, _⟩, ⟨y, ys', K1, K2, g1, g2, g3, g4, _⟩ => by
    rw [h1] at g1
    simp only [List.cons.injEq] at g1
    obtain ⟨rfl, rfl⟩ := g1
    rw [h2, g2, RepC.det ih h3 g3, RepCs.det ih h4 g4]
theorem RepD.det {w : World} : ∀ {d : Nat} {x : Ob} {L : Loc} {F G : List Nat}, RepD w d x L F → RepD w d x L G → F = G
  | 0, _, _, _, _, h, _ => h.elim
  | _ + 1, _, _, _, _, ⟨c, e, fz, G, h1, h2, h3, h4, h5, h6, h7⟩, ⟨c', e', fz', G', g1, g2, g3, g4, g5, g6, g7⟩ => by
    rw [h2] at g2
    simp only [Option.some.injEq, Obj.cells.injEq] at g2
    obtain ⟨rfl, _, _⟩ := g2
    rw [h1, g1, RepCs.det (fun h h' => RepD.det h h') h6 g6]
theorem Rep.det {w : World} {x : Ob} {L : Loc} {F G : List Nat} (h : Rep w x L F) (h' : Rep w x L G) : F = G := by
  obtain ⟨d, hd⟩ := h
  obtain ⟨d', hd'⟩ := h'
  exact (hd.le (Nat.le_max_left d d')).det (hd'.le (Nat.le_max_right d d'))

theorem RepC.lt {R : Ob → Loc → List Nat → Prop} {n : Nat} (h : ∀ y L F, R y L F → ∀ k ∈ F, k < n) {ce : Ce} {x : Value} {F : List Nat} (hr : RepC R ce x F) : ∀ k ∈ F, k < n := by
  cases ce with
  | v v => rw [hr.2]; intro k hk; cases hk
  | p y => obtain ⟨L, h1, h2⟩ := hr; exact h _ _ _ h2
  | s y m e => obtain ⟨L, a, k, _, _, _, _, _, _, h7⟩ := hr; exact h _ _ _ h7
theorem RepCs.lt {R : Ob → Loc → List Nat → Prop} {n : Nat} (h : ∀ y L F, R y L F → ∀ k ∈ F, k < n) : ∀ {cs : List Ce} {xs : List Value} {F : List Nat}, RepCs R cs xs F → ∀ k ∈ F, k < n
  | [], _, _, hr => by simp only [RepCs] at hr; rw [hr]; intro k hk; cases hk
  | _ :: _, _, _, ⟨x, xs', G1, G2, h1, h2, h3, h4, h5⟩ => by
    rw [h2]
    intro k hk
    rcases List.mem_append.1 hk with hk | hk
    · exact h3.lt h k hk
    · exact RepCs.lt h h4 k hk
theorem RepD.lt {w : World} : ∀ {d : Nat} {x : Ob} {L : Loc} {F : List Nat}, RepD w d x L F → ∀ k ∈ F, k < w.heap.size
  | 0, _, _, _, h => h.elim
  | d + 1, _, L, _, ⟨c, e, fz, G, h1, h2, h3, h4, h5, h6, h7⟩ => by
    rw [h1]
    intro k hk
    rcases List.mem_cons.1 hk with rfl | hk
    · obtain ⟨hlt, _⟩ := Array.getElem?_eq_some_iff.1 h2; exact hlt
    · exact h6.lt (fun y M K hr => RepD.lt hr) k hk
theorem Rep.lt {w : World} {x : Ob} {L : Loc} {F : List Nat} (h : Rep w x L F) : ∀ k ∈ F, k < w.heap.size := let ⟨_, hd⟩ := h; hd.lt
theorem Rep.head {w : World} {x : Ob} {L : Loc} {F : List Nat} (h : Rep w x L F) : L.b ∈ F := by
  obtain ⟨d, hd⟩ := h
  cases d with
  | zero => exact hd.elim
  | succ d => obtain ⟨c, e, fz, G, h1, _⟩ := hd; rw [h1]; simp

def BR (B : Nat → Prop) (ρ : Rho) (L : Loc) (w : World) : Blk → Prop
  | .cells ro l => ∃ c e fz, w.heap[L.b]? = some (.cells c e fz) ∧ c.size = L.z ∧ L.o + l.length ≤ L.z ∧ CR ρ l c L.o ∧ (ro = false → ¬ B L.b ∧ FZ fz L.z)
  | .iter s p => w.heap[L.b]? = some (.stringIter ⟨⟨s⟩⟩ p) ∧ L.o = 0 ∧ ¬ B L.b
  | .mp es => ∃ en ck, w.heap[L.b]? = some (.map en ck) ∧ ER ρ es en.toList ∧ ¬ B L.b
  | .dead => True
  | .obj x => ∃ F, Rep w x L F ∧ ∀ k ∈ F, ¬ B k

/-- The blocks of the model's that are one of the machine's. -/
def Foot (w : World) (L : Loc) : Blk → List Nat → Prop
  | .obj x, F => Rep w x L F
  | _, F => F = [L.b]
theorem Foot.plain {w : World} {L : Loc} {b : Blk} (h : b.plain = true) (F : List Nat) : Foot w L b F ↔ F = [L.b] := by
  cases b <;> first | rfl | cases h
theorem Foot.congr {w w' : World} {L : Loc} {b : Blk} {F G : List Nat} (h : Foot w L b F) (hw : ∀ k ∈ F, w'.heap[k]? = w.heap[k]?) (h' : Foot w' L b G) : F = G := by
  cases b with
  | obj x => exact (Rep.congr h hw).det h'
  | cells ro l => rw [show F = _ from h, show G = _ from h']
  | iter s p => rw [show F = _ from h, show G = _ from h']
  | mp es => rw [show F = _ from h, show G = _ from h']
  | dead => rw [show F = _ from h, show G = _ from h']

structure HR (B : Nat → Prop) (ρ : Rho) (h : Heap) (w : World) : Prop where
  blk : ∀ i b, h.get i = some b → ∃ L, ρ i = some L ∧ BR B ρ L w b
  inj : ∀ i j b c L M, h.get i = some b → h.get j = some c → i ≠ j → b.rw = true → c ≠ .dead → ρ i = some L → ρ j = some M → ∀ F G, Foot w L b F → Foot w M c G → ∀ k ∈ F, k ∉ G
  new : ∀ i, h.get i = none → ρ i = none
  top : ∀ i, h.n ≤ i → h.get i = none
  lt : ∀ i L, ρ i = some L → L.b < w.heap.size
  low : ∀ k, B k → k < w.heap.size

/-- Behind all is nothing that is to be kept. -/
theorem HR.fresh {B : Nat → Prop} {ρ : Rho} {h : Heap} {w : World} (H : HR B ρ h w) : ¬ B w.heap.size := fun hk => by have := H.low _ hk; omega

/-- Every block has its own. -/
theorem HR.foot {B : Nat → Prop} {ρ : Rho} {h : Heap} {w : World} (H : HR B ρ h w) {i : Nat} {b : Blk} (hb : h.get i = some b) {L : Loc} (hL : ρ i = some L) : ∃ F, Foot w L b F ∧ (b ≠ .dead → ∀ k ∈ F, k < w.heap.size) ∧ L.b ∈ F := by
  obtain ⟨L', h1, h2⟩ := H.blk i b hb
  rw [hL] at h1; simp only [Option.some.injEq] at h1; subst h1
  have hlt := H.lt i L hL
  cases b with
  | obj x => obtain ⟨F, hF, _⟩ := h2; exact ⟨F, hF, fun _ => hF.lt, hF.head⟩
  | cells ro l => exact ⟨_, rfl, fun _ k hk => by simp at hk; omega, by simp⟩
  | iter s p => exact ⟨_, rfl, fun _ k hk => by simp at hk; omega, by simp⟩
  | mp es => exact ⟨_, rfl, fun _ k hk => by simp at hk; omega, by simp⟩
  | dead => exact ⟨_, rfl, fun _ k hk => by simp at hk; omega, by simp⟩

theorem CR.mono {ρ ρ' : Rho} (hl : Le ρ ρ') {l : List V} {c : Array Value} {o : Nat} (h : CR ρ l c o) : CR ρ' l c o := fun k v hk => let ⟨x, hx, hr⟩ := h k v hk; ⟨x, hx, hr.mono hl⟩
theorem ER.mono {ρ ρ' : Rho} (hl : Le ρ ρ') : ∀ {l : List (V × V)} {ys : List MapEntry}, ER ρ l ys → ER ρ' l ys
  | [], _, h => h
  | (_, _) :: _, _, h => by obtain ⟨e, ys', h1, h2, h3, h4⟩ := h; exact ⟨e, ys', h1, h2.mono hl, h3.mono hl, ER.mono hl h4⟩
theorem BR.mono {B : Nat → Prop} {ρ ρ' : Rho} (hl : Le ρ ρ') {L : Loc} {w : World} {b : Blk} (h : BR B ρ L w b) : BR B ρ' L w b := by
  cases b with
  | cells ro l => obtain ⟨c, e, fz, h1, h2, h3, h4, h5⟩ := h; exact ⟨c, e, fz, h1, h2, h3, h4.mono hl, h5⟩
  | iter s p => exact h
  | mp es => obtain ⟨en, ck, h1, h2, h3⟩ := h; exact ⟨en, ck, h1, h2.mono hl, h3⟩
  | dead => trivial
  | obj x => exact h
theorem BR.congr {B : Nat → Prop} {ρ : Rho} {L : Loc} {w w' : World} {b : Blk} (h : BR B ρ L w b) (hb : b.plain = true) (he : w'.heap[L.b]? = w.heap[L.b]?) : BR B ρ L w' b := by
  cases b with
  | cells ro l => obtain ⟨c, e, fz, h1, h2⟩ := h; exact ⟨c, e, fz, by rw [he]; exact h1, h2⟩
  | iter s p => exact ⟨by rw [he]; exact h.1, h.2⟩
  | mp es => obtain ⟨en, ck, h1, h2⟩ := h; exact ⟨en, ck, by rw [he]; exact h1, h2⟩
  | dead => trivial
  | obj x => cases hb
/-- What is its own is as it was. -/
theorem BR.kept {B : Nat → Prop} {ρ : Rho} {L : Loc} {w w' : World} {b : Blk} {F : List Nat} (h : BR B ρ L w b) (hF : Foot w L b F) (he : ∀ k ∈ F, w'.heap[k]? = w.heap[k]?) : BR B ρ L w' b := by
  cases b with
  | obj x => obtain ⟨G, h1, h2⟩ := h; have : F = G := Rep.det hF h1; subst this; exact ⟨F, h1.congr he, h2⟩
  | cells ro l => exact h.congr rfl (he _ (by rw [show F = _ from hF]; simp))
  | iter s p => exact h.congr rfl (he _ (by rw [show F = _ from hF]; simp))
  | mp es => exact h.congr rfl (he _ (by rw [show F = _ from hF]; simp))
  | dead => trivial

/-- The same memory, other streams. -/
theorem HR.same {B : Nat → Prop} {ρ : Rho} {h : Heap} {w w' : World} (H : HR B ρ h w) (he : w'.heap = w.heap) : HR B ρ h w' := by
  have hk : ∀ k : Nat, w'.heap[k]? = w.heap[k]? := fun k => by rw [he]
  refine ⟨fun i b hb => ?_, fun i j b c L M hi hj hn hbw hcd h1 h2 F G hF hG => ?_, H.new, H.top, fun i L hL => by rw [he]; exact H.lt i L hL, by rw [he]; exact H.low⟩
  · obtain ⟨L, h1, h2⟩ := H.blk i b hb
    obtain ⟨F, hF, _⟩ := H.foot hb h1
    exact ⟨L, h1, h2.kept hF fun k _ => hk k⟩
  · obtain ⟨F', hF', _⟩ := H.foot hi h1
    obtain ⟨G', hG', _⟩ := H.foot hj h2
    rw [← hF'.congr (fun k _ => hk k) hF, ← hG'.congr (fun k _ => hk k) hG]
    exact H.inj i j b c L M hi hj hn hbw hcd h1 h2 F' G' hF' hG'

theorem HR.up {B : Nat → Prop} {ρ : Rho} {h : Heap} {w : World} (H : HR B ρ h w) (k : Nat) : HR B ρ (h.up k) w :=
  ⟨H.blk, H.inj, H.new, fun i hi => H.top i (by simp only [Heap.up_n] at hi; omega), H.lt, H.low⟩

/-- The same blocks. -/
theorem HR.ext {B : Nat → Prop} {ρ : Rho} {h h' : Heap} {w : World} (H : HR B ρ h w) (hg : ∀ i, h'.get i = h.get i) (hn : h'.n = h.n) : HR B ρ h' w :=
  ⟨fun i b hb => H.blk i b (by rw [← hg]; exact hb), fun i j b c L M hi hj => H.inj i j b c L M (by rw [← hg]; exact hi) (by rw [← hg]; exact hj), fun i hi => H.new i (by rw [← hg]; exact hi), fun i hi => by rw [hg]; exact H.top i (by rw [← hn]; exact hi), H.lt, H.low⟩

/-- A block is written. -/
theorem HR.write {B : Nat → Prop} {ρ : Rho} {h : Heap} {w : World} (H : HR B ρ h w) {i : Nat} {b0 b1 : Blk} {L : Loc} (hg : h.get i = some b0) (hw : b0.rw = true) (hp0 : b0.plain = true) (hp1 : b1.plain = true) (hL : ρ i = some L) (hB : ¬ B L.b) {o : Obj}
    (hb : BR B ρ L { w with heap := w.heap.setIfInBounds L.b o } b1) :
    HR B ρ (h.put i (some b1)) { w with heap := w.heap.setIfInBounds L.b o } ∧ Keeps B w { w with heap := w.heap.setIfInBounds L.b o } := by
  have hF0 : Foot w L b0 [L.b] := (Foot.plain hp0 _).2 rfl
  have oth : ∀ j b M, j ≠ i → h.get j = some b → b ≠ .dead → ρ j = some M → ∀ F, Foot w M b F → ∀ k ∈ F, (w.heap.setIfInBounds L.b o)[k]? = w.heap[k]? := by
    intro j b M hji hj hd hM F hF k hk
    have hne : L.b ≠ k := fun e => H.inj i j b0 b L M hg hj (Ne.symm hji) hw hd hL hM _ F hF0 hF L.b (by simp) (e ▸ hk)
    rw [Array.getElem?_setIfInBounds_ne hne]
  refine ⟨⟨fun j b hj => ?_, fun j k b c Lj Mk hj hk hn hbw hcd h1 h2 F G hF hG => ?_, fun j hj => ?_, fun j hj => ?_, fun j Lj hj => ?_, ?_⟩, ⟨rfl, rfl, rfl, by simp, fun k hk => ?_⟩⟩
  · rw [Heap.get_put] at hj
    by_cases hji : j = i
    · subst hji; simp at hj; subst hj; exact ⟨L, hL, hb⟩
    · rw [if_neg hji] at hj
      obtain ⟨Lj, h1, h2⟩ := H.blk j b hj
      refine ⟨Lj, h1, ?_⟩
      by_cases hd : b = .dead
      · subst hd; trivial
      · obtain ⟨F, hF, _⟩ := H.foot hj h1
        exact h2.kept hF (oth j b Lj hji hj hd h1 F hF)
  · rw [Heap.get_put] at hj hk
    by_cases hji : j = i
    · subst hji
      rw [if_neg (Ne.symm hn)] at hk
      simp at hj; subst hj
      rw [hL] at h1; simp only [Option.some.injEq] at h1; subst h1
      rw [(Foot.plain hp1 _).1 hF]
      obtain ⟨G', hG', _⟩ := H.foot hk h2
      rw [← hG'.congr (oth k c Mk (Ne.symm hn) hk hcd h2 G' hG') hG]
      exact H.inj j k b0 c L Mk hg hk hn hw hcd hL h2 _ G' hF0 hG'
    · rw [if_neg hji] at hj
      have hbd : b ≠ .dead := by intro e; subst e; simp [Blk.rw] at hbw
      obtain ⟨F', hF', _⟩ := H.foot hj h1
      rw [← hF'.congr (oth j b Lj hji hj hbd h1 F' hF') hF]
      by_cases hki : k = i
      · subst hki
        simp at hk; subst hk
        rw [hL] at h2; simp only [Option.some.injEq] at h2; subst h2
        rw [(Foot.plain hp1 _).1 hG]
        have := H.inj k j b0 b L Lj hg hj (Ne.symm hn) hw hbd hL h1 _ F' hF0 hF'
        intro x hx hx'
        simp at hx'; subst hx'
        exact this _ (by simp) hx
      · rw [if_neg hki] at hk
        obtain ⟨G', hG', _⟩ := H.foot hk h2
        rw [← hG'.congr (oth k c Mk hki hk hcd h2 G' hG') hG]
        exact H.inj j k b c Lj Mk hj hk hn hbw hcd h1 h2 F' G' hF' hG'
  · rw [Heap.get_put] at hj
    by_cases hji : j = i
    · subst hji; simp at hj
    · rw [if_neg hji] at hj; exact H.new j hj
  · rw [Heap.get_put]
    by_cases hji : j = i
    · subst hji; have := H.top j hj; rw [this] at hg; cases hg
    · rw [if_neg hji]; exact H.top j hj
  · have := H.lt j Lj hj; simpa using this
  · have := H.low; simpa using this
  · have hne : L.b ≠ k := fun e => hB (e ▸ hk)
    simp [Array.getElem?_setIfInBounds_ne hne]

/-- A block is made: behind all blocks of the model's, at a free place of the machine's. -/
theorem HR.make {B : Nat → Prop} {ρ : Rho} {h : Heap} {w : World} (H : HR B ρ h w) {i : Nat} (hi : i < h.n) (hg : h.get i = none) {b : Blk} (hp : b.plain = true) {L : Loc} (hLb : L.b = w.heap.size) {o : Obj} {w' : World} (hw' : w'.heap = w.heap.push o)
    (hos : w'.os = w.os) (htp : w'.tape = w.tape) (hout : w'.output = w.output)
    (hb : ∀ ρ', Le ρ ρ' → BR B ρ' L w' b) :
    Le ρ (fun j => if j = i then some L else ρ j) ∧ HR B (fun j => if j = i then some L else ρ j) (h.put i (some b)) w' ∧ Keeps B w w' := by
  have hρ := H.new i hg
  have hle : Le ρ (fun j => if j = i then some L else ρ j) := by
    intro j M hj
    by_cases hji : j = i
    · subst hji; rw [hρ] at hj; cases hj
    · simp [hji, hj]
  have hold : ∀ k, k < w.heap.size → w'.heap[k]? = w.heap[k]? := by
    intro k hk
    rw [hw', Array.getElem?_push]
    simp [show k ≠ w.heap.size by omega]
  have oth : ∀ j b M, h.get j = some b → ρ j = some M → ∀ F, Foot w' M b F → Foot w M b F ∧ (b ≠ .dead → ∀ k ∈ F, k < w.heap.size) := by
    intro j b M hj hM F hF
    obtain ⟨F', h1, h2, _⟩ := H.foot hj hM
    by_cases hd : b = .dead
    · subst hd; exact ⟨hF, fun h => (h rfl).elim⟩
    · have : F' = F := h1.congr (fun k hk => hold k (h2 hd k hk)) hF
      subst this; exact ⟨h1, h2⟩
  refine ⟨hle, ⟨fun j b' hj => ?_, fun j k b' c Lj Mk hj hk hn hbw hcd h1 h2 F G hF hG => ?_, fun j hj => ?_, fun j hj => ?_, fun j Lj hj => ?_, ?_⟩, ⟨hos, htp, hout, by rw [hw']; simp, fun k hk => hold k (H.low k hk)⟩⟩
  · rw [Heap.get_put] at hj
    by_cases hji : j = i
    · subst hji; simp at hj; subst hj; exact ⟨L, by simp, hb _ hle⟩
    · rw [if_neg hji] at hj
      obtain ⟨Lj, h1, h2⟩ := H.blk j b' hj
      refine ⟨Lj, by simp [hji, h1], ?_⟩
      by_cases hd : b' = .dead
      · subst hd; trivial
      · obtain ⟨F, hF, hlt, _⟩ := H.foot hj h1
        exact (h2.mono hle).kept hF fun k hk => hold k (hlt hd k hk)
  · rw [Heap.get_put] at hj hk
    by_cases hji : j = i
    · subst hji
      rw [if_neg (Ne.symm hn)] at hk
      simp at h1; subst h1
      simp at hj; subst hj
      simp [Ne.symm hn] at h2
      rw [(Foot.plain hp _).1 hF]
      have := (oth k c Mk hk h2 G hG).2 hcd
      intro x hx hx'
      simp at hx; subst hx
      have := this _ hx'
      omega
    · rw [if_neg hji] at hj
      simp [hji] at h1
      have hbd : b' ≠ .dead := by intro e; subst e; simp [Blk.rw] at hbw
      obtain ⟨hF1, hF2⟩ := oth j b' Lj hj h1 F hF
      by_cases hki : k = i
      · subst hki
        simp at h2; subst h2
        simp at hk; subst hk
        rw [(Foot.plain hp _).1 hG]
        intro x hx hx'
        simp at hx'; subst hx'
        have := hF2 hbd _ hx
        omega
      · rw [if_neg hki] at hk
        simp [hki] at h2
        exact H.inj j k b' c Lj Mk hj hk hn hbw hcd h1 h2 F G hF1 (oth k c Mk hk h2 G hG).1
  · rw [Heap.get_put] at hj
    by_cases hji : j = i
    · subst hji; simp at hj
    · rw [if_neg hji] at hj; simp [hji, H.new j hj]
  · rw [Heap.get_put]
    by_cases hji : j = i
    · subst hji; have : h.n ≤ j := hj; omega
    · rw [if_neg hji]; exact H.top j hj
  · rw [hw', Array.size_push]
    by_cases hji : j = i
    · simp [hji] at hj; subst hj; omega
    · simp [hji] at hj; have := H.lt j Lj hj; omega
  · intro k hk; rw [hw', Array.size_push]; have := H.low k hk; omega

/-- A block is given away: nothing is left of it but its place. -/
theorem HR.kill {B : Nat → Prop} {ρ : Rho} {h : Heap} {w : World} (H : HR B ρ h w) {i : Nat} {b0 : Blk} (hg : h.get i = some b0) : HR B ρ (h.put i (some .dead)) w := by
  refine ⟨fun j b hj => ?_, fun j k b c Lj Mk hj hk hn hbw hcd h1 h2 => ?_, fun j hj => ?_, fun j hj => ?_, H.lt, H.low⟩
  · rw [Heap.get_put] at hj
    by_cases hji : j = i
    · subst hji; simp at hj; subst hj
      obtain ⟨L, h1, _⟩ := H.blk j b0 hg
      exact ⟨L, h1, trivial⟩
    · rw [if_neg hji] at hj; exact H.blk j b hj
  · rw [Heap.get_put] at hj hk
    by_cases hji : j = i
    · rw [if_pos hji] at hj; simp only [Option.some.injEq] at hj; subst hj; simp [Blk.rw] at hbw
    · rw [if_neg hji] at hj
      by_cases hki : k = i
      · rw [if_pos hki] at hk; simp only [Option.some.injEq] at hk; exact absurd hk.symm hcd
      · rw [if_neg hki] at hk; exact H.inj j k b c Lj Mk hj hk hn hbw hcd h1 h2
  · rw [Heap.get_put] at hj
    by_cases hji : j = i
    · subst hji; simp at hj
    · rw [if_neg hji] at hj; exact H.new j hj
  · rw [Heap.get_put]
    by_cases hji : j = i
    · subst hji; have := H.top j hj; rw [this] at hg; cases hg
    · rw [if_neg hji]; exact H.top j hj

/-- The plain row of a thing is what its cells say. -/
theorem Ob.row_enc {x : Ob} {l : List V} (h : x.row = some l) : x.enc = l.map Ce.v := by
  cases x <;> simp only [Ob.row, Option.some.injEq, reduceCtorEq] at h <;> subst h <;> simp [Ob.enc, List.map_flatMap, Function.comp_def]
theorem repCs_row {R : Ob → Loc → List Nat → Prop} : ∀ {l : List V} {xs : List Value} {F : List Nat}, RepCs R (l.map Ce.v) xs F → ∀ (k : Nat) (v : V), l[k]? = some v → ∃ x, xs[k]? = some x ∧ VR rho0 v x
  | [], _, _, _, k, v, h => by simp at h
  | u :: l, _, _, ⟨x, xs', G1, G2, h1, _, h3, h4, _⟩, k, v, h => by
    subst h1
    cases k with
    | zero => simp at h; subst h; exact ⟨x, by simp, h3.1⟩
    | succ k => simpa using repCs_row h4 k v (by simpa using h)
theorem Le.zero (ρ : Rho) : Le rho0 ρ := fun _ _ h => by cases h
/-- A row that is read. -/
theorem HR.row {B : Nat → Prop} {ρ : Rho} {h : Heap} {w : World} (H : HR B ρ h w) {id : Nat} {l : List V} {L : Loc} (hr : rowOf h id = some l) (hL : ρ id = some L) :
    ∃ c e fz, w.heap[L.b]? = some (.cells c e fz) ∧ c.size = L.z ∧ L.o + l.length ≤ L.z ∧ CR ρ l c L.o := by
  unfold rowOf at hr
  split at hr
  · rename_i ro l' hg
    simp only [Option.some.injEq] at hr; subst hr
    obtain ⟨L', hL', c, e, fz, h1, h2, h3, h4, _⟩ := H.blk id _ hg
    rw [hL] at hL'; simp only [Option.some.injEq] at hL'; subst hL'
    exact ⟨c, e, fz, h1, h2, h3, h4⟩
  · rename_i x hg
    obtain ⟨L', hL', F, ⟨d, hR⟩, _⟩ := H.blk id _ hg
    rw [hL] at hL'; simp only [Option.some.injEq] at hL'; subst hL'
    cases d with
    | zero => exact hR.elim
    | succ d =>
      obtain ⟨c, e, fz, G, _, h1, h2, _, h3, h4, _⟩ := hR
      rw [Ob.row_enc hr] at h3 h4
      refine ⟨c, e, fz, h1, h2, by simpa using h3, fun k v hk => ?_⟩
      obtain ⟨x, hx, hv⟩ := repCs_row h4 k v hk
      refine ⟨x, ?_, hv.mono (Le.zero ρ)⟩
      simpa using hx
  · cases hr

theorem rowW_get {h : Heap} {id : Nat} {l : List V} (hr : rowW h id = some l) : h.get id = some (.cells false l) := by
  unfold rowW at hr
  split at hr
  · rename_i l' hg; simp only [Option.some.injEq] at hr; subst hr; exact hg
  · cases hr

theorem cell_of {w : World} {b k : Nat} {c : Array Value} {e : TypeId} {fz : Nat × Nat} (h : w.heap[b]? = some (.cells c e fz)) : w.cell? ⟨b, k, none⟩ = c[k]? := by simp [World.cell?, h]

theorem loc_add (b o n : Nat) : (⟨b, o, none⟩ : Addr).add n = ⟨b, o + n, none⟩ := by
  unfold Addr.add; split
  · rename_i h; subst h; rfl
  · rfl

section
variable {P : Program}

/-- Cells that are read. -/
theorem HR.cells {B : Nat → Prop} {ρ : Rho} {h : Heap} {w : World} (H : HR B ρ h w) {id off n : Nat} {l r : List V} {L : Loc} (hr : rowOf h id = some l) (hc : cellsAt l off n = some r) (hL : ρ id = some L) :
    ∃ cs : List Value, VRs ρ r cs ∧ cs.length = n ∧ (∀ a : Addr, (n ≠ 0 → a = ⟨L.b, L.o + off, none⟩) → ∀ w' : World, w'.heap = w.heap → (loadCells a n).run P w' = .ok cs.toArray w') := by
  obtain ⟨c, e, fz, h1, h2, h3, h4⟩ := H.row hr hL
  obtain ⟨g1, g2, g3⟩ := cellsAt_some l off n r hc
  refine ⟨(c.toList.drop (L.o + off)).take n, ?_, ?_, ?_⟩
  · refine VRs.of ?_ fun i v hi => ?_
    · rw [g3]
      by_cases hn : n = 0
      · simp [hn]
      · have := g2 hn; simp; omega
    · have hin : i < n := by
        obtain ⟨hlt, _⟩ := List.getElem?_eq_some_iff.1 hi
        omega
      rw [g1] at hi
      simp [hin] at hi
      obtain ⟨x, hx, hv⟩ := h4 (off + i) v hi
      refine ⟨x, ?_, hv⟩
      simp [hin]
      rw [← hx]; congr 1; omega
  · by_cases hn : n = 0
    · simp [hn]
    · have := g2 hn; simp; omega
  · intro a ha w' hw'
    have h1' : w'.heap[L.b]? = some (.cells c e fz) := by rw [hw']; exact h1
    by_cases hn : n = 0
    · subst hn; simp [loadCells, loadCellsFrom]
    · rw [ha hn]
      have hl : ((c.toList.drop (L.o + off)).take n).length = n := by have := g2 hn; simp; omega
      have := run_loadCells_list (P := P) w' ⟨L.b, L.o + off, none⟩ ((c.toList.drop (L.o + off)).take n) (fun j v hj => by
        have hjn : j < n := by
          obtain ⟨hlt, _⟩ := List.getElem?_eq_some_iff.1 hj
          omega
        simp [hjn] at hj
        rw [loc_add, cell_of h1', ← hj])
      rw [hl] at this
      exact this

theorem HR.cell {B : Nat → Prop} {ρ : Rho} {h : Heap} {w : World} (H : HR B ρ h w) {id off : Nat} {l : List V} {v : V} {L : Loc} (hr : rowOf h id = some l) (hc : cellAt l off = some v) (hL : ρ id = some L) :
    ∃ x, VR ρ v x ∧ w.cell? ⟨L.b, L.o + off, none⟩ = some x := by
  obtain ⟨c, e, fz, h1, h2, h3, h4⟩ := H.row hr hL
  rw [cellAt_eq] at hc
  obtain ⟨x, hx, hv⟩ := h4 off v hc
  exact ⟨x, hv, by rw [cell_of h1, hx]⟩

/-- The cells of a slice. -/
theorem HR.slice {B : Nat → Prop} {ρ : Rho} {h : Heap} {w : World} (H : HR B ρ h w) {i o l e : Nat} {c : Option Nat} {a : Addr} {k m : Nat} {r : List V} (hs : SR ρ i o l e c a k) (hm : m ≤ k) (hr : rdN h i o (m * e) = some r) :
    ∃ cs : List Value, VRs ρ r cs ∧ cs.length = m * e ∧ ∀ w' : World, w'.heap = w.heap → (loadCells a (m * e)).run P w' = .ok cs.toArray w' := by
  unfold rdN at hr
  split at hr
  · rename_i h0
    simp only [Option.some.injEq] at hr; subst hr
    exact ⟨[], by simp [VRs], by simp [h0], fun w' _ => by rw [h0]; simp [loadCells, loadCellsFrom]⟩
  · rename_i h0
    cases hrow : rowOf h i with
    | none => simp [hrow] at hr
    | some row =>
      simp only [hrow, Option.bind_some] at hr
      have hk : k ≠ 0 := by intro hk; subst hk; have : m = 0 := by omega
                            subst this; simp at h0
      obtain ⟨L, hL, ha, _⟩ := hs.at hk
      obtain ⟨cs, h1, h2, h3⟩ := H.cells (P := P) hrow hr hL
      exact ⟨cs, h1, h2, h3 a (fun _ => ha)⟩

end

end Gw
