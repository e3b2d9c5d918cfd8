/- Slices of elements of more than one cell, handed to a law. -/
import Derived.Test.YtjcninlcdnkofaaGreatDoorGxB5
namespace Gw
open Go Go.ChangeShapes Go.WideShapes Go.ChangeAt Go.RowKit

variable {H : Type} {enc : TypeId × Value → H} {P : Program}
theorem flat_get {A : Type} (f : A → List V) (k : Nat) (hk : ∀ x, (f x).length = k) : ∀ (l : List A) (n : Nat) (v : V), (l.flatMap f)[n]? = some v → ∃ i j x, n = i * k + j ∧ l[i]? = some x ∧ (f x)[j]? = some v
  | [], n, v, h => by simp at h
  | x :: l, n, v, h => by
    rw [List.flatMap_cons] at h
    by_cases hn : n < k
    · rw [List.getElem?_append_left (by rw [hk]; exact hn)] at h
      exact ⟨0, n, x, by omega, rfl, h⟩
    · rw [List.getElem?_append_right (by rw [hk]; omega), hk] at h
      obtain ⟨i, j, y, h1, h2, h3⟩ := flat_get f k hk l _ v h
      exact ⟨i + 1, j, y, by rw [Nat.add_mul]; omega, by simpa using h2, h3⟩
theorem flat_len {A : Type} (f : A → List V) (k : Nat) (hk : ∀ x, (f x).length = k) : ∀ l : List A, (l.flatMap f).length = l.length * k
  | [] => by simp
  | x :: l => by rw [List.flatMap_cons, List.length_append, hk, flat_len f k hk l, List.length_cons, Nat.add_mul]; omega

theorem open_rowN {w : World} {base b0 : Nat} {held : Bool} {t e : TypeId} {v : Value} {d : DataW H} {ps : List MemPlace} {A : Type} [Inhabited A] (g : A → List Value) {z : Nat} (hz : 0 < z) (ht : P.underlying t = some (.slice e)) (hc : P.cellsOf e = z)
    (hel : ∀ n cs x, DataW.trod enc P w base (fun _ => true) held n e cs = some x → ∃ a, cs = g a)
    (hval : Value.okWide P w .any b0 t v) (hd : DataW.Trod enc P w base (fun _ => true) held t v d ps) :
    v = .slice none 0 0 ∨ ∃ (L : Loc) (l : List A) (a : Addr) (k : Nat) (c : Array Value) (e' : TypeId) (fz : Nat × Nat), v = .slice (some a) l.length k ∧ l.length ≤ k ∧ a.block = L.b ∧ (k = 0 ∨ (a = ⟨L.b, L.o, none⟩ ∧ L.o + k * z ≤ L.z)) ∧
      w.heap[L.b]? = some (.cells c e' fz) ∧ c.size = L.z ∧ L.o + l.length * z ≤ L.z ∧ ∀ i x, l[i]? = some x → ∀ j, j < z → c[L.o + i * z + j]? = (g x)[j]? := by
  obtain ⟨fuel, hf⟩ := hd
  obtain ⟨a0, len0, cap0, hv0⟩ := okWide_slice ht hval
  subst hv0
  rcases Go.Deep.open_slice ht hf with ⟨h0, _⟩ | ⟨a, len, cap, m, n, D, Pl, h1, _, hl, _, hm, _, hx⟩
  · left
    simpa [Value.cells] using h0
  · right
    have h1' : Value.slice a0 len0 cap0 = .slice (some a) len cap := by simpa [Value.cells] using h1
    rw [h1'] at hval ⊢
    have hm' : m = cap := by rw [hm]; simp
    subst hm'
    have hhas : w.has P .any b0 a e m := by
      have : Cell.okWide P w .any b0 t (.slice (some a) len m) := by simpa only [Value.okWide, ht] using hval
      have : Cell.ok P w .any b0 t (.slice (some a) len m) := by simpa only [Cell.okWide, ht] using this
      have : len ≤ m ∧ (m : Int) ≤ IntKind.i64.max ∧ w.has P .any b0 a e m := by simpa only [Cell.ok, ht] using this
      exact this.2.2
    obtain ⟨_, hspot, row, cells, hsh, _⟩ := hhas
    obtain ⟨c, fz, hc1, hc2⟩ := shape_at hsh
    rw [hc] at hx
    obtain ⟨E, hE⟩ := Go.Deep.choose_lt (n := m) (α := A) (p := fun i x => ∀ j, j < z → c[a.off + i * z + j]? = (g x)[j]? ∧ j < (g x).length) fun i hi => by
      obtain ⟨cs', h2, h3⟩ := hx i hi
      obtain ⟨x, rfl⟩ := hel n cs' _ h3
      obtain ⟨_, h4, h5⟩ := World.cells?_some h2
      refine ⟨x, fun j hj => ⟨?_, by omega⟩⟩
      have h6 := h5 j hj
      rw [List.getElem?_eq_getElem (by omega)] at h6 ⊢
      have h7 := cell_at h6 (by rw [add_block, add_block]; exact hc1)
      rw [add_off, add_off] at h7
      exact h7
    by_cases hk : m = 0
    · subst hk
      have hl0 : len = 0 := by omega
      subst hl0
      exact ⟨⟨a.block, 0, c.size⟩, [], a, 0, c, row, fz, rfl, by simp, rfl, .inl rfl, hc1, rfl, by simp, fun i x hi => by simp at hi⟩
    · have top : a.off + m * z ≤ c.size := by
        have h2 := hE (m - 1) (by omega) (z - 1) (by omega)
        have h3 := h2.1
        rw [List.getElem?_eq_getElem h2.2] at h3
        have h4 := (Array.getElem?_eq_some_iff.1 h3).1
        obtain ⟨q, rfl⟩ : ∃ q, m = q + 1 := ⟨m - 1, by omega⟩
        rw [Nat.add_mul]
        simp only [Nat.add_sub_cancel] at h4
        omega
      have hlm : len * z ≤ m * z := Nat.mul_le_mul_right z hl
      refine ⟨⟨a.block, a.off, c.size⟩, (List.range len).map E, a, m, c, row, fz, by simp, by simpa using hl, rfl, .inr ⟨?_, top⟩, hc1, rfl, ?_, fun i x hi j hj => ?_⟩
      · cases a with
        | mk b o s => simp only at hspot; subst hspot; rfl
      · simp only [List.length_map, List.length_range]
        omega
      · simp only [List.getElem?_map, Option.map_eq_some_iff] at hi
        obtain ⟨j', hj', rfl⟩ := hi
        obtain ⟨h5, h6⟩ := List.getElem?_eq_some_iff.1 hj'
        simp at h5 h6
        subst h6
        exact (hE i (by omega) j hj).1

theorem HR.argN {B : Nat → Prop} {ρ : Rho} {h : Heap} {w : World} (H : HR B ρ h w) (hro : h.RO) {i : Nat} (hi : i < h.n) (hg : h.get i = none) {A : Type} {g : A → List Value} (f : A → List V) {z : Nat} (hfz : ∀ x, (f x).length = z) (hfg : ∀ (ρ : Rho) x, VRs ρ (f x) (g x))
    {L : Loc} {l : List A} {a : Addr} {k : Nat} {c : Array Value} {e' : TypeId} {fz : Nat × Nat} (h2 : l.length ≤ k) (h3 : a.block = L.b) (h4 : k = 0 ∨ (a = ⟨L.b, L.o, none⟩ ∧ L.o + k * z ≤ L.z))
    (h5 : w.heap[L.b]? = some (.cells c e' fz)) (h6 : c.size = L.z) (h7 : L.o + l.length * z ≤ L.z) (h8 : ∀ i x, l[i]? = some x → ∀ j, j < z → c[L.o + i * z + j]? = (g x)[j]?) :
    ∃ ρ', Le ρ ρ' ∧ HR B ρ' (h.put i (some (.cells true (l.flatMap f)))) w ∧ VR ρ' (.slice i 0 l.length z none) (.slice (some a) l.length k) := by
  obtain ⟨hle, H'⟩ := H.name hro hi hg (L := L) (l := l.flatMap f) (lt_of_heap h5) h5 h6 (by rw [flat_len f z hfz]; exact h7) (fun n v hv => by
    obtain ⟨i', j, x, rfl, h9, h10⟩ := flat_get f z hfz l n v hv
    obtain ⟨y, hy, hvy⟩ := VRs.get (hfg ρ x) h10
    refine ⟨y, ?_, hvy⟩
    have hj : j < z := by rw [← hfz x]; exact (List.getElem?_eq_some_iff.1 h10).1
    have := h8 i' x h9 j hj
    rw [Nat.add_assoc] at this
    rw [this]; exact hy)
  refine ⟨_, hle, H', ?_⟩
  simp only [VR]
  refine ⟨a, k, rfl, h2, fun c' hc' => (by cases hc'), L, by simp, h3, ?_⟩
  rcases h4 with h4 | ⟨h4, h4'⟩
  · exact .inl h4
  · exact .inr ⟨h4, by omega⟩
end Gw
