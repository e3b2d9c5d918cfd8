/- Functions that read two rows. -/
import Derived.Test.YtjnhaaolbcmdbaaGreatDoorGxT11
namespace Gw
open Go Go.RowKit
variable {P : Program}

theorem rowOf_ro {h : Heap} {i : Nat} {l : List V} (hg : rowOf h i = some l) : ∃ b, h.get i = some b := by
  unfold rowOf at hg
  cases hb : h.get i with
  | none => rw [hb] at hg; cases hg
  | some b => exact ⟨b, rfl⟩
theorem rowOf_put {h : Heap} {k i : Nat} {b : Option Blk} {l : List V} (hf : Free h k) (hg : rowOf h i = some l) : rowOf (h.put k b) i = some l := by
  obtain ⟨c, hc⟩ := rowOf_ro hg
  unfold rowOf at hg ⊢
  rw [Heap.get_put_ne _ _ _ _ (get_ne hf hc)]
  exact hg
/-- A function of two rows of elements of one cell: what it asks, what it answers. -/
def gW2 (p : List V → List V → Prop × V) (args : List V) (h : Heap) : DT (V × Heap) :=
  match args with
  | [.slice i o n 1 _, .slice j q m 1 _] => (match rowOf h i, rowOf h j with
    | some r, some s => .ob ((o + n ≤ r.length ∧ q + m ≤ s.length) ∧ (p ((r.drop o).take n) ((s.drop q).take m)).1) (.leaf ((p ((r.drop o).take n) ((s.drop q).take m)).2, h))
    | _, _ => .fail)
  | _ => .fail
theorem gW2_in {p : List V → List V → Prop × V} {args : List V} {h : Heap} {r : V × Heap} (hr : (gW2 p args h).run = some r) : ∃ i o n c j q m d l s, args = [.slice i o n 1 c, .slice j q m 1 d] ∧ rowOf h i = some l ∧ rowOf h j = some s ∧ o + n ≤ l.length ∧ q + m ≤ s.length ∧
    (p ((l.drop o).take n) ((s.drop q).take m)).1 ∧ r = ((p ((l.drop o).take n) ((s.drop q).take m)).2, h) := by
  unfold gW2 at hr
  split at hr
  · rename_i i o n c j q m d
    split at hr
    · rename_i l s hl hs
      simp only [DT.run] at hr
      split at hr
      · rename_i h1
        simp only [Option.some.injEq] at hr
        exact ⟨i, o, n, c, j, q, m, d, l, s, rfl, hl, hs, h1.1.1, h1.1.2, h1.2, hr.symm⟩
      · cases hr
    · cases hr
  · cases hr
theorem gW2_out {p : List V → List V → Prop × V} {i o n j q m : Nat} {c d : Option Nat} {h : Heap} {l s : List V} (hl : rowOf h i = some l) (hs : rowOf h j = some s) (h1 : o + n ≤ l.length) (h2 : q + m ≤ s.length) (h3 : (p ((l.drop o).take n) ((s.drop q).take m)).1) :
    (gW2 p [.slice i o n 1 c, .slice j q m 1 d] h).run = some ((p ((l.drop o).take n) ((s.drop q).take m)).2, h) := by
  simp only [gW2, hl, hs, DT.run]
  rw [if_pos ⟨⟨h1, h2⟩, h3⟩]
theorem ansW2 {f : Nat} {p : List V → List V → Prop × V} (hp : ∀ a b i o j q, (p a b).1 → V.flats a = true ∧ V.flats b = true ∧ (p a b).2.flat = true ∧ Run P f [.slice NG 0 a.length 1 none, .slice (NG + 1) 0 b.length 1 none] (smallH [.w i o a, .w j q b]) fun r _ => r = (p a b).2) :
    AnsO P f (fun args h => (gW2 p args h).run) := by
  refine ⟨fun args h r h' hr k b hf => ?_, fun args h r h' he => ?_⟩
  · obtain ⟨i, o, n, c, j, q, m, d, l, s, rfl, hl, hs, h1, h2, h3, hx⟩ := gW2_in hr
    simp only [Prod.mk.injEq] at hx
    obtain ⟨rfl, rfl⟩ := hx
    exact ⟨gW2_out (rowOf_put hf hl) (rowOf_put hf hs) h1 h2 h3, hf⟩
  · obtain ⟨i, o, n, c, j, q, m, d, l, s, rfl, hl, hs, h1, h2, h3, hx⟩ := gW2_in he
    simp only [Prod.mk.injEq] at hx
    obtain ⟨rfl, rfl⟩ := hx
    obtain ⟨f1, f2, f3, f4⟩ := hp _ _ i o j q h3
    have e1 : ((l.drop o).take n).length = n := by simp; omega
    have e2 : ((s.drop q).take m).length = m := by simp; omega
    rw [e1, e2] at f4
    generalize ha : (l.drop o).take n = a at *
    generalize hb : (s.drop q).take m = b at *
    have hok : ∀ x ∈ [Ar.w i o a, .w j q b], x.ok h' := by
      intro x hx
      simp only [List.mem_cons, List.not_mem_nil, or_false] at hx
      rcases hx with rfl | rfl
      · exact ⟨l, hl, by rw [e1]; exact ha, by omega, f1⟩
      · exact ⟨s, hs, by rw [e2]; exact hb, by omega, f2⟩
    have := con_of (P := P) (f := f) (l := [.w i o a, .w j q b]) (h := h') (bargs := [.slice i o n 1 c, .slice j q m 1 d]) (xs := [.strs [], .strs []]) (ys := []) (rs := [.f (p a b).2])
      (.cons (.w (i := 0) rfl) (.cons (.w (i := 1) rfl) .nil)) hok ⟨fun x hx hh => by simp at hx; subst hx; simp [Ar.isO] at hh, fun x hx => by simp at hx, trivial⟩ .refl f4 (fun r1 h1 e => by
        subst e
        exact ⟨h1, [], .refl, rfl, .nil, by simp, fun k j y0 y b1 b2 => by
          match k with
          | 0 => simp at b1
          | 1 => simp at b1
          | k + 2 => simp at b1, fun m f y h1 => by simp at h1, fun ρ v hv => hv⟩) rfl (by simp [Ri.ok, f3])
    exact this
/-- The same, where the first is nothing. -/
def gWN (p : List V → Prop × V) (args : List V) (h : Heap) : DT (V × Heap) :=
  match args with
  | [.nils, .slice j q m 1 _] => (match rowOf h j with
    | some s => .ob (q + m ≤ s.length ∧ (p ((s.drop q).take m)).1) (.leaf ((p ((s.drop q).take m)).2, h))
    | _ => .fail)
  | _ => .fail
theorem gWN_in {p : List V → Prop × V} {args : List V} {h : Heap} {r : V × Heap} (hr : (gWN p args h).run = some r) : ∃ j q m d s, args = [.nils, .slice j q m 1 d] ∧ rowOf h j = some s ∧ q + m ≤ s.length ∧
    (p ((s.drop q).take m)).1 ∧ r = ((p ((s.drop q).take m)).2, h) := by
  unfold gWN at hr
  split at hr
  · rename_i j q m d
    split at hr
    · rename_i s hs
      simp only [DT.run] at hr
      split at hr
      · rename_i h1
        simp only [Option.some.injEq] at hr
        exact ⟨j, q, m, d, s, rfl, hs, h1.1, h1.2, hr.symm⟩
      · cases hr
    · cases hr
  · cases hr
theorem gWN_out {p : List V → Prop × V} {j q m : Nat} {d : Option Nat} {h : Heap} {s : List V} (hs : rowOf h j = some s) (h2 : q + m ≤ s.length) (h3 : (p ((s.drop q).take m)).1) :
    (gWN p [.nils, .slice j q m 1 d] h).run = some ((p ((s.drop q).take m)).2, h) := by
  simp only [gWN, hs, DT.run]
  rw [if_pos ⟨h2, h3⟩]
theorem ansWN {f : Nat} {p : List V → Prop × V} (hp : ∀ b j q, (p b).1 → V.flats b = true ∧ (p b).2.flat = true ∧ Run P f [.nils, .slice NG 0 b.length 1 none] (smallH [.w j q b]) fun r _ => r = (p b).2) :
    AnsO P f (fun args h => (gWN p args h).run) := by
  refine ⟨fun args h r h' hr k b hf => ?_, fun args h r h' he => ?_⟩
  · obtain ⟨j, q, m, d, s, rfl, hs, h2, h3, hx⟩ := gWN_in hr
    simp only [Prod.mk.injEq] at hx
    obtain ⟨rfl, rfl⟩ := hx
    exact ⟨gWN_out (rowOf_put hf hs) h2 h3, hf⟩
  · obtain ⟨j, q, m, d, s, rfl, hs, h2, h3, hx⟩ := gWN_in he
    simp only [Prod.mk.injEq] at hx
    obtain ⟨rfl, rfl⟩ := hx
    obtain ⟨f2, f3, f4⟩ := hp _ j q h3
    have e2 : ((s.drop q).take m).length = m := by simp; omega
    rw [e2] at f4
    generalize hb : (s.drop q).take m = b at *
    have hok : ∀ x ∈ [Ar.w j q b], x.ok h' := by
      intro x hx
      simp only [List.mem_cons, List.not_mem_nil, or_false] at hx
      subst hx
      exact ⟨s, hs, by rw [e2]; exact hb, by omega, f2⟩
    have := con_of (P := P) (f := f) (l := [.w j q b]) (h := h') (bargs := [.nils, .slice j q m 1 d]) (xs := [.strs []]) (ys := []) (rs := [.f (p b).2])
      (.cons (.f rfl) (.cons (.w (i := 0) rfl) .nil)) hok ⟨fun x hx => by simp at hx, trivial⟩ .refl f4 (fun r1 h1 e => by
        subst e
        exact ⟨h1, [], .refl, rfl, .nil, by simp, fun k j y0 y b1 b2 => by
          match k with
          | 0 => simp at b1
          | k + 1 => simp at b1, fun m f y h1 => by simp at h1, fun ρ v hv => hv⟩) rfl (by simp [Ri.ok, f3])
    exact this
end Gw
