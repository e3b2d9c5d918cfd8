/- Laws of the deterministic machine's memory; an operation that succeeds does so beside a block more (the frame); equal tests. -/
import Derived.Test.YtkehghjhbfoooaaGreatDoorGxA1
namespace Gw
set_option linter.unusedSimpArgs false
open Go

theorem cond_beq {α : Type} (i j : Nat) (x y : α) : cond (Nat.beq i j) x y = if i = j then x else y := by
  by_cases h : i = j
  · rw [if_pos h, h]; simp
  · rw [if_neg h]
    have : Nat.beq i j = false := by
      cases hb : Nat.beq i j with
      | true => exact absurd (Nat.eq_of_beq_eq_true hb) h
      | false => rfl
    rw [this]; rfl
theorem Tr.get_nil (i : Nat) : Tr.nil.get i = none := rfl

theorem Tr.get_node (v : Option Blk) (l r : Tr) (i : Nat) : (Tr.node v l r).get i = if i = 0 then v else if i % 2 = 1 then l.get (i / 2) else r.get (i / 2 - 1) := by
  show cond (Nat.beq i 0) v (cond (Nat.beq (i % 2) 1) (l.get (i / 2)) (r.get (i / 2 - 1))) = _
  rw [cond_beq, cond_beq]

theorem Tr.get_eq (t : Tr) (i : Nat) : t.get i = if i = 0 then t.val else if i % 2 = 1 then t.left.get (i / 2) else t.right.get (i / 2 - 1) := by
  cases t with
  | nil => simp [Tr.get, Tr.val, Tr.left, Tr.right]
  | node v l r => rw [Tr.get_node]; rfl

theorem Tr.setF_succ (f : Nat) (t : Tr) (i : Nat) (b : Option Blk) : Tr.setF (f + 1) t i b = if i = 0 then .node b t.left t.right else if i % 2 = 1 then .node t.val (Tr.setF f t.left (i / 2) b) t.right else .node t.val t.left (Tr.setF f t.right (i / 2 - 1) b) := by
  show cond (Nat.beq i 0) _ (cond (Nat.beq (i % 2) 1) _ _) = _
  rw [cond_beq, cond_beq]
  rfl
theorem Tr.get_setF : ∀ (f : Nat) (t : Tr) (i j : Nat) (b : Option Blk), i < f → (Tr.setF f t i b).get j = if j = i then b else t.get j := by
  intro f
  induction f with
  | zero => intro t i j b h; omega
  | succ f ih =>
    intro t i j b h
    simp only [Tr.setF_succ]
    by_cases hi : i = 0
    · subst hi
      simp only [if_true, Tr.get_node]
      by_cases hj : j = 0
      · simp [hj]
      · simp only [hj, if_false]; rw [Tr.get_eq t j]; simp [hj]
    · simp only [hi, if_false]
      by_cases ho : i % 2 = 1
      · simp only [ho, if_true, Tr.get_node]
        by_cases hj : j = 0
        · subst hj; rw [if_pos rfl, if_neg (by omega)]; rw [Tr.get_eq t 0]; simp
        · simp only [hj, if_false]
          rw [Tr.get_eq t j]; simp only [hj, if_false]
          by_cases hjo : j % 2 = 1
          · simp only [hjo, if_true]
            rw [ih _ _ _ _ (by omega)]
            by_cases he : j = i
            · simp [he]
            · rw [if_neg (by omega), if_neg he]
          · simp only [hjo, if_false]
            rw [if_neg (by omega)]
      · simp only [ho, if_false, Tr.get_node]
        by_cases hj : j = 0
        · subst hj; rw [if_pos rfl, if_neg (by omega)]; rw [Tr.get_eq t 0]; simp
        · simp only [hj, if_false]
          rw [Tr.get_eq t j]; simp only [hj, if_false]
          by_cases hjo : j % 2 = 1
          · simp only [hjo, if_true]
            rw [if_neg (by omega)]
          · simp only [hjo, if_false]
            rw [ih _ _ _ _ (by omega)]
            by_cases he : j = i
            · simp [he]
            · rw [if_neg (by omega), if_neg he]

theorem Tr.val_setF (f : Nat) (t : Tr) (i : Nat) (b : Option Blk) (h : i < f) : (Tr.setF f t i b).val = if i = 0 then b else t.val := by
  cases f with
  | zero => omega
  | succ f =>
    simp only [Tr.setF_succ]
    by_cases hi : i = 0
    · simp [hi, Tr.val]
    · simp only [hi, if_false]; split <;> simp [Tr.val]
theorem Tr.left_setF (f : Nat) (t : Tr) (i : Nat) (b : Option Blk) (h : i < f + 1) : (Tr.setF (f + 1) t i b).left = if i % 2 = 1 then Tr.setF f t.left (i / 2) b else t.left := by
  simp only [Tr.setF_succ]
  by_cases hi : i = 0
  · subst hi; simp [Tr.left]
  · simp only [hi, if_false]; split <;> simp [Tr.left]
theorem Tr.right_setF (f : Nat) (t : Tr) (i : Nat) (b : Option Blk) (h : i < f + 1) : (Tr.setF (f + 1) t i b).right = if i ≠ 0 ∧ i % 2 = 0 then Tr.setF f t.right (i / 2 - 1) b else t.right := by
  simp only [Tr.setF_succ]
  by_cases hi : i = 0
  · subst hi; simp [Tr.right]
  · simp only [hi, if_false]
    by_cases ho : i % 2 = 1
    · simp [ho, Tr.right]
    · have : i % 2 = 0 := by omega
      simp [this, hi, Tr.right]

/-- How far the writing goes makes no difference, as long as it goes far enough. -/
theorem Tr.setF_fuel : ∀ (f g : Nat) (t : Tr) (i : Nat) (b : Option Blk), i < f → i < g → Tr.setF f t i b = Tr.setF g t i b := by
  intro f
  induction f with
  | zero => intro g t i b h; omega
  | succ f ih =>
    intro g t i b hf hg
    cases g with
    | zero => omega
    | succ g =>
      simp only [Tr.setF_succ]
      by_cases hi : i = 0
      · simp [hi]
      · simp only [hi, if_false]
        by_cases ho : i % 2 = 1
        · simp only [ho, if_true]; rw [ih g _ _ _ (by omega) (by omega)]
        · simp only [ho, if_false]; rw [ih g _ _ _ (by omega) (by omega)]

theorem Tr.setF_comm : ∀ (f : Nat) (t : Tr) (i j : Nat) (a b : Option Blk), i < f → j < f → i ≠ j →
    Tr.setF f (Tr.setF f t i a) j b = Tr.setF f (Tr.setF f t j b) i a := by
  intro f
  induction f with
  | zero => intro t i j a b h; omega
  | succ f ih =>
    intro t i j a b hi hj hij
    rw [Tr.setF_succ f (Tr.setF (f + 1) t i a), Tr.setF_succ f (Tr.setF (f + 1) t j b)]
    simp only [Tr.val_setF _ _ _ _ hi, Tr.val_setF _ _ _ _ hj, Tr.left_setF _ _ _ _ hi, Tr.left_setF _ _ _ _ hj, Tr.right_setF _ _ _ _ hi, Tr.right_setF _ _ _ _ hj]
    rcases Nat.eq_zero_or_pos i with hi0 | hi0 <;> rcases Nat.eq_zero_or_pos j with hj0 | hj0
    · omega
    · subst hi0
      have : j ≠ 0 := by omega
      rcases Nat.mod_two_eq_zero_or_one j with h | h <;> simp [this, h]
    · subst hj0
      have : i ≠ 0 := by omega
      rcases Nat.mod_two_eq_zero_or_one i with h | h <;> simp [this, h]
    · have h1 : i ≠ 0 := by omega
      have h2 : j ≠ 0 := by omega
      rcases Nat.mod_two_eq_zero_or_one i with h | h <;> rcases Nat.mod_two_eq_zero_or_one j with h' | h' <;> simp [h1, h2, h, h']
      · exact ih _ _ _ _ _ (by omega) (by omega) (by omega)
      · exact ih _ _ _ _ _ (by omega) (by omega) (by omega)

theorem Heap.get_put (h : Heap) (i j : Nat) (b : Option Blk) : (h.put i b).get j = if j = i then b else h.get j :=
  Tr.get_setF (i + 1) h.t i j b (by omega)
theorem Heap.get_put_same (h : Heap) (i : Nat) (b : Option Blk) : (h.put i b).get i = b := by rw [Heap.get_put]; simp
theorem Heap.get_put_ne (h : Heap) (i j : Nat) (b : Option Blk) (hn : j ≠ i) : (h.put i b).get j = h.get j := by rw [Heap.get_put]; simp [hn]
theorem Heap.get_up (h : Heap) (k i : Nat) : (h.up k).get i = h.get i := rfl
theorem Heap.put_n (h : Heap) (i : Nat) (b : Option Blk) : (h.put i b).n = h.n := rfl
theorem Heap.up_n (h : Heap) (k : Nat) : (h.up k).n = h.n + k := rfl
theorem Heap.put_up (h : Heap) (i k : Nat) (b : Option Blk) : (h.up k).put i b = (h.put i b).up k := rfl
theorem Heap.put_comm (h : Heap) (i j : Nat) (a b : Option Blk) (hn : i ≠ j) : (h.put i a).put j b = (h.put j b).put i a := by
  simp only [Heap.put]
  congr 1
  rw [Tr.setF_fuel (i + 1) (i + j + 1) h.t i a (by omega) (by omega), Tr.setF_fuel (j + 1) (i + j + 1) h.t j b (by omega) (by omega),
    Tr.setF_fuel (j + 1) (i + j + 1) _ j b (by omega) (by omega), Tr.setF_fuel (i + 1) (i + j + 1) _ i a (by omega) (by omega)]
  exact Tr.setF_comm _ _ _ _ _ _ (by omega) (by omega) hn

mutual
theorem V.eq_of_beq : ∀ (x y : V), V.beq x y = true → x = y
  | .bool a, y, h => by cases y <;> simp_all [V.beq]
  | .int k n, y, h => by cases y <;> simp_all [V.beq]
  | .str s, y, h => by cases y <;> simp_all [V.beq]
  | .nilp, y, h => by cases y <;> simp_all [V.beq]
  | .ptr i o, y, h => by cases y <;> simp_all [V.beq]
  | .nils, y, h => by cases y <;> simp_all [V.beq]
  | .slice i o l e c, y, h => by
    cases y <;> simp only [V.beq, Bool.and_eq_true, beq_iff_eq, reduceCtorEq] at h
    rename_i d
    obtain ⟨⟨⟨⟨h1, h2⟩, h3⟩, h4⟩, h5⟩ := h; subst h1 h2 h3 h4
    cases c <;> cases d <;> simp [optNatEq] at h5
    · rfl
    · subst h5; rfl
  | .nilm, y, h => by cases y <;> simp_all [V.beq]
  | .map i, y, h => by cases y <;> simp_all [V.beq]
  | .nilf, y, h => by cases y <;> simp_all [V.beq]
  | .func f a, y, h => by
    cases y <;> simp only [V.beq, Bool.and_eq_true, beq_iff_eq, reduceCtorEq] at h
    obtain ⟨h1, h2⟩ := h; subst h1; rw [V.eqs_of_beqs _ _ h2]
  | .nili, y, h => by cases y <;> simp_all [V.beq]
  | .iface t x, y, h => by
    cases y <;> simp only [V.beq, Bool.and_eq_true, beq_iff_eq, reduceCtorEq] at h
    obtain ⟨h1, h2⟩ := h; subst h1; rw [V.eq_of_beq _ _ h2]
  | .agg a, y, h => by
    cases y <;> simp only [V.beq, reduceCtorEq] at h
    rw [V.eqs_of_beqs _ _ h]
  | .tup a, y, h => by
    cases y <;> simp only [V.beq, reduceCtorEq] at h
    rw [V.eqs_of_beqs _ _ h]
theorem V.eqs_of_beqs : ∀ (x y : List V), V.beqs x y = true → x = y
  | [], y, h => by cases y <;> simp_all [V.beqs]
  | a :: l, y, h => by
    cases y <;> simp only [V.beqs, Bool.and_eq_true, reduceCtorEq] at h
    obtain ⟨h1, h2⟩ := h; rw [V.eq_of_beq _ _ h1, V.eqs_of_beqs _ _ h2]
end

mutual
theorem V.beq_refl : ∀ (x : V), V.beq x x = true
  | .bool a => by simp [V.beq]
  | .int k n => by simp [V.beq]
  | .str s => by simp [V.beq]
  | .nilp => rfl
  | .ptr i o => by simp [V.beq]
  | .nils => rfl
  | .slice i o l e c => by cases c <;> simp [V.beq, optNatEq]
  | .nilm => rfl
  | .map i => by simp [V.beq]
  | .nilf => rfl
  | .func f a => by simp [V.beq, V.beqs_refl a]
  | .nili => rfl
  | .iface t x => by simp [V.beq, V.beq_refl x]
  | .agg a => by simp [V.beq, V.beqs_refl a]
  | .tup a => by simp [V.beq, V.beqs_refl a]
theorem V.beqs_refl : ∀ (x : List V), V.beqs x x = true
  | [] => rfl
  | a :: l => by simp [V.beqs, V.beq_refl a, V.beqs_refl l]
end

end Gw
