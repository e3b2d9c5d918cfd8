/- Slots of which nothing is known: what is done without them is done with them. -/
import Derived.Test.YtkehghjhbfoooaaGreatDoorGxA1
noncomputable section
namespace Gw
open Go

/-- Known, or the same. -/
def Le1 (v v' : V) : Prop := v = anyV ∨ v = v'
theorem Le1.refl (v : V) : Le1 v v := .inr rfl
theorem Le1.trans {a b c : V} (h : Le1 a b) (k : Le1 b c) : Le1 a c := by
  rcases h with h | h
  · exact .inl h
  · subst h; exact k
theorem Le1.eq {v v' : V} (h : Le1 v v') (hn : v ≠ anyV) : v' = v := by
  rcases h with h | h
  · exact absurd h hn
  · exact h.symm
/-- Slot by slot. -/
def LeT : List V → List V → Prop
  | [], [] => True
  | v :: t, v' :: t' => Le1 v v' ∧ LeT t t'
  | _, _ => False
theorem LeT.refl : ∀ t : List V, LeT t t
  | [] => trivial
  | v :: t => ⟨Le1.refl v, LeT.refl t⟩
theorem LeT.trans : ∀ {a b c : List V}, LeT a b → LeT b c → LeT a c
  | [], [], [], _, _ => trivial
  | [], [], _ :: _, _, k => k.elim
  | [], _ :: _, _, h, _ => h.elim
  | _ :: _, [], _, h, _ => h.elim
  | _ :: _, _ :: _, [], _, k => k.elim
  | _ :: _, _ :: _, _ :: _, h, k => ⟨h.1.trans k.1, LeT.trans h.2 k.2⟩
theorem LeT.nth : ∀ {t t' : List V} (_ : LeT t t') (i : Nat), Le1 (nth t i) (nth t' i)
  | [], [], _, i => by cases i <;> exact Le1.refl _
  | [], _ :: _, h, _ => h.elim
  | _ :: _, [], h, _ => h.elim
  | _ :: _, _ :: _, h, 0 => h.1
  | _ :: _, _ :: _, h, i + 1 => LeT.nth h.2 i
theorem LeT.upd : ∀ {t t' : List V} (_ : LeT t t') (i : Nat) {v v' : V}, Le1 v v' → LeT (upd t i v) (upd t' i v')
  | [], [], _, i, _, _, _ => by cases i <;> trivial
  | [], _ :: _, h, _, _, _, _ => h.elim
  | _ :: _, [], h, _, _, _, _ => h.elim
  | _ :: _, _ :: _, h, 0, _, _, hv => ⟨hv, h.2⟩
  | _ :: _, _ :: _, h, i + 1, _, _, hv => ⟨h.1, LeT.upd h.2 i hv⟩
theorem LeT.putD {t t' : List V} (h : LeT t t') (d : Option Nat) {v v' : V} (hv : Le1 v v') : LeT (putD t d v) (putD t' d v') := by
  cases d with
  | none => exact h
  | some d => exact h.upd d hv
theorem LeT.app : ∀ {a a' b b' : List V}, LeT a a' → LeT b b' → LeT (a ++ b) (a' ++ b')
  | [], [], _, _, _, k => k
  | [], _ :: _, _, _, h, _ => h.elim
  | _ :: _, [], _, _, h, _ => h.elim
  | _ :: _, _ :: _, _, _, h, k => ⟨h.1, LeT.app h.2 k⟩

section
variable {t T : List V} (ht : LeT t T)
include ht
theorem LeT.ev (x : Opd) : Le1 (x.ev t) (x.ev T) := by
  cases x with
  | tmp i => exact ht.nth i
  | cst v => exact Le1.refl v
/-- A slot that is seen is the same. -/
theorem LeT.same {x : Opd} {v : V} (h : x.ev t = v) (hn : v ≠ anyV) : x.ev T = v := by
  have := (ht.ev x).eq (by rw [h]; exact hn)
  rw [this, h]
theorem LeT.bool {x : Opd} {b : Bool} (h : x.ev t = .bool b) : x.ev T = .bool b := ht.same h (by intro e; cases e)
theorem LeT.int {x : Opd} {k : IntKind} {n : Int} (h : x.ev t = .int k n) : x.ev T = .int k n := ht.same h (by intro e; cases e)
theorem LeT.str {x : Opd} {s : List UInt8} (h : x.ev t = .str s) : x.ev T = .str s := ht.same h (by intro e; cases e)
theorem LeT.ptr {x : Opd} {i o : Nat} (h : x.ev t = .ptr i o) : x.ev T = .ptr i o := ht.same h (by intro e; cases e)
theorem LeT.agg {x : Opd} {l : List V} (h : x.ev t = .agg l) : x.ev T = .agg l := ht.same h (by intro e; cases e)
theorem LeT.slice {x : Opd} {i o l e : Nat} {c : Option Nat} (h : x.ev t = .slice i o l e c) : x.ev T = .slice i o l e c := ht.same h (by intro e; cases e)
theorem LeT.nils {x : Opd} (h : x.ev t = .nils) : x.ev T = .nils := ht.same h (by intro e; cases e)
theorem LeT.func {x : Opd} {f : Nat} {c : List V} (h : x.ev t = .func f c) : x.ev T = .func f c := ht.same h (by intro e; cases e)
theorem LeT.map {x : Opd} {i : Nat} (h : x.ev t = .map i) : x.ev T = .map i := ht.same h (by intro e; cases e)
end

def notAny (t : List V) (x : Opd) : Bool := !(x.ev t).isAny
theorem isAny_iff (v : V) : v.isAny = true ↔ v = anyV := by
  constructor
  · intro h
    cases v <;> simp only [V.isAny, Bool.false_eq_true] at h
    rename_i l
    match l, h with
    | [.tup []], _ => rfl
  · intro h; subst h; rfl
theorem notAny_ne {t : List V} {x : Opd} (h : notAny t x = true) : x.ev t ≠ anyV := by
  intro e
  rw [notAny, (isAny_iff _).2 e] at h
  cases h
theorem LeT.known {t T : List V} (ht : LeT t T) {x : Opd} (h : notAny t x = true) : x.ev T = x.ev t := (ht.ev x).eq (notAny_ne h)
theorem LeT.knowns {t T : List V} (ht : LeT t T) : ∀ {l : List Opd}, l.all (notAny t) = true → evs T l = evs t l
  | [], _ => rfl
  | x :: l, h => by
    simp only [List.all_cons, Bool.and_eq_true] at h
    simp only [evs, ht.known h.1, LeT.knowns ht h.2]

/-- Are the slots known that an operation hands on, or looks into by more than one? -/
def PK.fine (t : List V) : PK → Bool
  | .mkI _ x => notAny t x
  | .mkF _ cs => cs.all (notAny t)
  | .min x xs => notAny t x && xs.all (notAny t)
  | .max x xs => notAny t x && xs.all (notAny t)
  | .build _ ps => ps.all fun p => notAny t p.2.2
  | .bin _ x y => notAny t x && notAny t y
  | .eq _ _ x y => notAny t x && notAny t y
  | .idxS _ x y => notAny t x && notAny t y
  | .idxA _ _ x y => notAny t x && notAny t y
  | .idxStr x y => notAny t x && notAny t y
  | .idxArr _ _ _ x y => notAny t x && notAny t y
  | .slice _ x lo hi mx => notAny t x && ((lo.toList ++ hi.toList ++ mx.toList).all (notAny t))
  | .sliceS x lo hi => notAny t x && ((lo.toList ++ hi.toList).all (notAny t))
  | .mov _ => true
  | .pick c _ _ => notAny t c
  | .nilCheck x => notAny t x
  | .neg x => notAny t x
  | .not x => notAny t x
  | .xor x => notAny t x
  | .conv _ x => notAny t x
  | .isStr x => notAny t x
  | .fieldA _ x => notAny t x
  | .field _ _ _ x => notAny t x
  | .tassert _ _ _ x => notAny t x
  | .extract x _ => notAny t x
  | .len x => notAny t x
  | .lenStr x => notAny t x
  | .lenA _ => true
  | .cap x => notAny t x
  | .bad => true
theorem LeT.knownO {t T : List V} (ht : LeT t T) {o : Option Opd} (h : o.toList.all (notAny t) = true) : evO T o = evO t o := by
  cases o with
  | none => rfl
  | some x => simp only [Option.toList_some, List.all_cons, List.all_nil, Bool.and_true] at h; simp only [evO, ht.known h]
theorem LeT.knownP {t T : List V} (ht : LeT t T) : ∀ {ps : List (Nat × Nat × Opd)}, (ps.all fun p => notAny t p.2.2) = true → evP T ps = evP t ps
  | [], _ => rfl
  | (a, b, x) :: l, h => by
    simp only [List.all_cons, Bool.and_eq_true] at h
    simp only [evP, ht.known h.1, LeT.knownP ht h.2]
theorem PK.le {t T : List V} (ht : LeT t T) : ∀ {k : PK} {v : V}, k.fine t = true → k.ev t = some v → ∃ v', k.ev T = some v' ∧ Le1 v v'
  | .mov x, v, _, h => by
    simp only [PK.ev, Option.some.injEq] at h; subst h
    exact ⟨_, rfl, ht.ev x⟩
  | .pick c a b, v, hf, h => by
    simp only [PK.fine] at hf
    simp only [PK.ev, ht.known hf] at h ⊢
    split at h
    · simp only [Option.some.injEq] at h; subst h; exact ⟨_, rfl, ht.ev a⟩
    · simp only [Option.some.injEq] at h; subst h; exact ⟨_, rfl, ht.ev b⟩
    · cases h
  | .mkI ty x, v, hf, h => ⟨v, by simp only [PK.fine] at hf; simp only [PK.ev, ht.known hf] at h ⊢; exact h, Le1.refl v⟩
  | .mkF f cs, v, hf, h => ⟨v, by simp only [PK.fine] at hf; simp only [PK.ev, ht.knowns hf] at h ⊢; exact h, Le1.refl v⟩
  | .min x xs, v, hf, h => ⟨v, by simp only [PK.fine, Bool.and_eq_true] at hf; simp only [PK.ev, ht.known hf.1, ht.knowns hf.2] at h ⊢; exact h, Le1.refl v⟩
  | .max x xs, v, hf, h => ⟨v, by simp only [PK.fine, Bool.and_eq_true] at hf; simp only [PK.ev, ht.known hf.1, ht.knowns hf.2] at h ⊢; exact h, Le1.refl v⟩
  | .build z ps, v, hf, h => ⟨v, by simp only [PK.fine] at hf; simp only [PK.ev, ht.knownP hf] at h ⊢; exact h, Le1.refl v⟩
  | .bin op x y, v, hf, h => ⟨v, by simp only [PK.fine, Bool.and_eq_true] at hf; simp only [PK.ev, ht.known hf.1, ht.known hf.2] at h ⊢; exact h, Le1.refl v⟩
  | .eq c n x y, v, hf, h => ⟨v, by simp only [PK.fine, Bool.and_eq_true] at hf; simp only [PK.ev, ht.known hf.1, ht.known hf.2] at h ⊢; exact h, Le1.refl v⟩
  | .idxS e x y, v, hf, h => ⟨v, by simp only [PK.fine, Bool.and_eq_true] at hf; simp only [PK.ev, ht.known hf.1, ht.known hf.2] at h ⊢; exact h, Le1.refl v⟩
  | .idxA n e x y, v, hf, h => ⟨v, by simp only [PK.fine, Bool.and_eq_true] at hf; simp only [PK.ev, ht.known hf.1, ht.known hf.2] at h ⊢; exact h, Le1.refl v⟩
  | .idxStr x y, v, hf, h => ⟨v, by simp only [PK.fine, Bool.and_eq_true] at hf; simp only [PK.ev, ht.known hf.1, ht.known hf.2] at h ⊢; exact h, Le1.refl v⟩
  | .idxArr n sz g x y, v, hf, h => ⟨v, by simp only [PK.fine, Bool.and_eq_true] at hf; simp only [PK.ev, ht.known hf.1, ht.known hf.2] at h ⊢; exact h, Le1.refl v⟩
  | .slice e x lo hi mx, v, hf, h => ⟨v, by
      simp only [PK.fine, Bool.and_eq_true, List.all_append] at hf
      simp only [PK.ev, ht.known hf.1, ht.knownO hf.2.1.1, ht.knownO hf.2.1.2, ht.knownO hf.2.2] at h ⊢; exact h, Le1.refl v⟩
  | .sliceS x lo hi, v, hf, h => ⟨v, by
      simp only [PK.fine, Bool.and_eq_true, List.all_append] at hf
      simp only [PK.ev, ht.known hf.1, ht.knownO hf.2.1, ht.knownO hf.2.2] at h ⊢; exact h, Le1.refl v⟩
  | .nilCheck x, v, hf, h => ⟨v, by simp only [PK.fine] at hf; simp only [PK.ev, ht.known hf] at h ⊢; exact h, Le1.refl v⟩
  | .neg x, v, hf, h => ⟨v, by simp only [PK.fine] at hf; simp only [PK.ev, ht.known hf] at h ⊢; exact h, Le1.refl v⟩
  | .not x, v, hf, h => ⟨v, by simp only [PK.fine] at hf; simp only [PK.ev, ht.known hf] at h ⊢; exact h, Le1.refl v⟩
  | .xor x, v, hf, h => ⟨v, by simp only [PK.fine] at hf; simp only [PK.ev, ht.known hf] at h ⊢; exact h, Le1.refl v⟩
  | .conv k x, v, hf, h => ⟨v, by simp only [PK.fine] at hf; simp only [PK.ev, ht.known hf] at h ⊢; exact h, Le1.refl v⟩
  | .isStr x, v, hf, h => ⟨v, by simp only [PK.fine] at hf; simp only [PK.ev, ht.known hf] at h ⊢; exact h, Le1.refl v⟩
  | .fieldA o x, v, hf, h => ⟨v, by simp only [PK.fine] at hf; simp only [PK.ev, ht.known hf] at h ⊢; exact h, Le1.refl v⟩
  | .field o s a x, v, hf, h => ⟨v, by simp only [PK.fine] at hf; simp only [PK.ev, ht.known hf] at h ⊢; exact h, Le1.refl v⟩
  | .tassert ty z ok x, v, hf, h => ⟨v, by simp only [PK.fine] at hf; simp only [PK.ev, ht.known hf] at h ⊢; exact h, Le1.refl v⟩
  | .extract x i, v, hf, h => ⟨v, by simp only [PK.fine] at hf; simp only [PK.ev, ht.known hf] at h ⊢; exact h, Le1.refl v⟩
  | .len x, v, hf, h => ⟨v, by simp only [PK.fine] at hf; simp only [PK.ev, ht.known hf] at h ⊢; exact h, Le1.refl v⟩
  | .lenStr x, v, hf, h => ⟨v, by simp only [PK.fine] at hf; simp only [PK.ev, ht.known hf] at h ⊢; exact h, Le1.refl v⟩
  | .lenA n, v, _, h => ⟨v, h, Le1.refl v⟩
  | .cap x, v, hf, h => ⟨v, by simp only [PK.fine] at hf; simp only [PK.ev, ht.known hf] at h ⊢; exact h, Le1.refl v⟩
  | .bad, v, _, h => by cases h

def RK.fine (t : List V) : RK → Bool
  | .ld x => notAny t x
  | .ldN _ x => notAny t x
  | .b2s x => notAny t x
  | .r2s x => notAny t x
  | .lk _ m k => notAny t m && notAny t k
theorem RK.le {t T : List V} (ht : LeT t T) {k : RK} (hf : k.fine t = true) : k.res T = k.res t := by
  cases k with
  | ld x => simp only [RK.fine] at hf; simp only [RK.res, ht.known hf]
  | ldN n x => simp only [RK.fine] at hf; simp only [RK.res, ht.known hf]
  | b2s x => simp only [RK.fine] at hf; simp only [RK.res, ht.known hf]
  | r2s x => simp only [RK.fine] at hf; simp only [RK.res, ht.known hf]
  | lk z m k => simp only [RK.fine, Bool.and_eq_true] at hf; simp only [RK.res, ht.known hf.1, ht.known hf.2]
def AK.fine (t : List V) : AK → Bool
  | .alloc _ => true
  | .box x => notAny t x
  | .bslice _ _ _ ps => ps.all fun p => notAny t p.2.2
  | .s2b x => notAny t x
  | .mkslice _ _ _ l c => notAny t l && notAny t c
  | .iter x => notAny t x
  | .mkmap => true
theorem AK.le {t T : List V} (ht : LeT t T) {k : AK} (hf : k.fine t = true) (id : Nat) : k.mk T id = k.mk t id := by
  cases k with
  | alloc z => rfl
  | box x => simp only [AK.fine] at hf; simp only [AK.mk, ht.known hf]
  | bslice e zs n ps => simp only [AK.fine] at hf; simp only [AK.mk, ht.knownP hf]
  | s2b x => simp only [AK.fine] at hf; simp only [AK.mk, ht.known hf]
  | mkslice e b z l c => simp only [AK.fine, Bool.and_eq_true] at hf; simp only [AK.mk, ht.known hf.1, ht.known hf.2]
  | iter x => simp only [AK.fine] at hf; simp only [AK.mk, ht.known hf]
  | mkmap => rfl
def EK.fine (t : List V) : EK → Bool
  | .store _ a x => notAny t a && notAny t x
  | .call f args => notAny t f && args.all (notAny t)
  | .append _ _ s x => notAny t s && notAny t x
  | .appendZ _ _ _ s x => notAny t s && notAny t x
  | .copy _ d s => notAny t d && notAny t s
  | .clear _ _ x => notAny t x
  | .next x => notAny t x
  | .froz x => notAny t x
  | .insert m k x => notAny t m && (notAny t k && notAny t x)
theorem EK.le {t T : List V} (ht : LeT t T) {k : EK} (hf : k.fine t = true) (cl : Cl) (h : Heap) : k.run cl T h = k.run cl t h := by
  cases k with
  | store n a x => simp only [EK.fine, Bool.and_eq_true] at hf; simp only [EK.run, ht.known hf.1, ht.known hf.2]
  | call f args => simp only [EK.fine, Bool.and_eq_true] at hf; simp only [EK.run, ht.known hf.1, ht.knowns hf.2]
  | append e b s x => simp only [EK.fine, Bool.and_eq_true] at hf; simp only [EK.run, ht.known hf.1, ht.known hf.2]
  | appendZ e b z s x => simp only [EK.fine, Bool.and_eq_true] at hf; simp only [EK.run, ht.known hf.1, ht.known hf.2]
  | copy e d s => simp only [EK.fine, Bool.and_eq_true] at hf; simp only [EK.run, ht.known hf.1, ht.known hf.2]
  | clear e z x => simp only [EK.fine] at hf; simp only [EK.run, ht.known hf]
  | next x => simp only [EK.fine] at hf; simp only [EK.run, ht.known hf]
  | froz x => simp only [EK.fine] at hf; simp only [EK.run, ht.known hf]
  | insert m k x => simp only [EK.fine, Bool.and_eq_true] at hf; simp only [EK.run, ht.known hf.1, ht.known hf.2.1, ht.known hf.2.2]
end Gw
