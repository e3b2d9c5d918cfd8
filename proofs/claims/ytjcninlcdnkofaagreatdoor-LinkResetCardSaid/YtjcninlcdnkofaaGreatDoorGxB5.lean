/- Slices that are handed to a law: rows, read only. -/
import Derived.Test.YtjcninlcdnkofaaGreatDoorGxB4
import Derived.Deep.Slices
namespace Gw
open Go Go.ChangeShapes Go.WideShapes Go.ChangeAt Go.RowKit

variable {H : Type} {enc : TypeId × Value → H} {P : Program}
theorem shape_at {w : World} {b : Nat} {x : TypeId × Nat} (h : w.shape? b = some x) : ∃ c fz, w.heap[b]? = some (.cells c x.1 fz) ∧ c.size = x.2 := by
  unfold World.shape? at h
  split at h
  · rename_i c e fz hh
    simp only [Option.some.injEq] at h
    subst h
    exact ⟨c, fz, hh, rfl⟩
  · cases h
theorem cell_at {w : World} {a : Addr} {v : Value} (h : w.cell? a = some v) {c : Array Value} {e : TypeId} {fz : Nat × Nat} (hc : w.heap[a.block]? = some (.cells c e fz)) : c[a.off]? = some v := by
  unfold World.cell? at h
  rw [hc] at h
  simp only at h
  split at h
  · cases h
  · exact h
theorem add_block (a : Addr) (i : Nat) : (a.add i).block = a.block := by unfold Addr.add; split <;> rfl
theorem add_off (a : Addr) (i : Nat) : (a.add i).off = a.off + i := by
  unfold Addr.add
  split
  · rename_i h; subst h; rfl
  · rfl

/-- A slice of elements of one cell: nothing, or a row. -/
theorem open_row1 {w : World} {base b0 : Nat} {held : Bool} {t e : TypeId} {v : Value} {d : DataW H} {ps : List MemPlace} {A : Type} [Inhabited A] (g : A → Value) (ht : P.underlying t = some (.slice e)) (hc : P.cellsOf e = 1)
    (hel : ∀ n V x, DataW.trod enc P w base (fun _ => true) held n e [V] = some x → ∃ a, V = g a)
    (hval : Value.okWide P w .any b0 t v) (hd : DataW.Trod enc P w base (fun _ => true) held t v d ps) :
    v = .slice none 0 0 ∨ ∃ (L : Loc) (l : List A) (a : Addr) (k : Nat) (c : Array Value) (e' : TypeId) (fz : Nat × Nat), v = .slice (some a) l.length k ∧ l.length ≤ k ∧ a.block = L.b ∧ (k = 0 ∨ (a = ⟨L.b, L.o, none⟩ ∧ L.o + k ≤ L.z)) ∧
      w.heap[L.b]? = some (.cells c e' fz) ∧ c.size = L.z ∧ L.o + l.length ≤ L.z ∧ ∀ i x, l[i]? = some x → c[L.o + i]? = some (g x) := by
  obtain ⟨fuel, hf⟩ := hd
  obtain ⟨a0, len0, cap0, hv0⟩ := okWide_slice ht hval
  subst hv0
  have hcs : (Value.slice a0 len0 cap0).cells.toList = [.slice a0 len0 cap0] := rfl
  rcases Go.Deep.open_slice1 ht hc hf with ⟨h0, _⟩ | ⟨a, len, cap, m, n, V, D, Pl, h1, _, hl, _, hm, _, hx⟩
  · left
    simpa [Value.cells] using h0
  · right
    have h1' : Value.slice a0 len0 cap0 = .slice (some a) len cap := by simpa [Value.cells] using h1
    rw [h1'] at hval ⊢
    have hm' : m = cap := by rw [hm]; simp
    subst hm'
    have hhas : w.has P .any b0 a e m := by
      have : Cell.okWide P w .any b0 t (.slice (some a) len m) := by simpa only [Value.okWide, ht] using hval
      have : Cell.ok P w .any b0 t (.slice (some a) len m) := by simpa only [Cell.okWide, ht] using this
      have : len ≤ m ∧ (m : Int) ≤ IntKind.i64.max ∧ w.has P .any b0 a e m := by simpa only [Cell.ok, ht] using this
      exact this.2.2
    obtain ⟨_, hspot, row, cells, hsh, _⟩ := hhas
    obtain ⟨c, fz, hc1, hc2⟩ := shape_at hsh
    obtain ⟨E, hE⟩ := Go.Deep.choose_lt (n := m) (α := A) (p := fun i x => V i = g x) fun i hi => hel n (V i) _ (hx i hi).2
    have cellAt' : ∀ i, i < m → c[a.off + i]? = some (g (E i)) := by
      intro i hi
      have h2 := (hx i hi).1
      have h3 := cell_at (a := a.add i) h2 (by rw [add_block]; exact hc1)
      rw [add_off] at h3
      rw [h3, hE i hi]
    by_cases hk : m = 0
    · subst hk
      have hl0 : len = 0 := by omega
      subst hl0
      exact ⟨⟨a.block, 0, c.size⟩, [], a, 0, c, row, fz, rfl, by simp, rfl, .inl rfl, hc1, rfl, by simp, fun i x hi => by simp at hi⟩
    · refine ⟨⟨a.block, a.off, c.size⟩, (List.range len).map E, a, m, c, row, fz, by simp, by simpa using hl, rfl, .inr ⟨?_, ?_⟩, hc1, rfl, ?_, fun i x hi => ?_⟩
      · cases a with
        | mk b o s => simp only at hspot; subst hspot; rfl
      · have := cellAt' (m - 1) (by omega)
        have := (Array.getElem?_eq_some_iff.1 this).1
        simp only
        omega
      · have := cellAt' (m - 1) (by omega)
        have := (Array.getElem?_eq_some_iff.1 this).1
        simp only [List.length_map, List.length_range]
        omega
      · simp only [List.getElem?_map, Option.map_eq_some_iff] at hi
        obtain ⟨j, hj, rfl⟩ := hi
        have hjl := (List.getElem?_eq_some_iff.1 hj)
        obtain ⟨h5, h6⟩ := hjl
        simp at h5 h6
        subst h6
        exact cellAt' i (by omega)

/-- It is named. -/
theorem HR.arg1 {B : Nat → Prop} {ρ : Rho} {h : Heap} {w : World} (H : HR B ρ h w) (hro : h.RO) {i : Nat} (hi : i < h.n) (hg : h.get i = none) {A : Type} {g : A → Value} (f : A → V) (hfg : ∀ (ρ : Rho) x, VR ρ (f x) (g x))
    {L : Loc} {l : List A} {a : Addr} {k : Nat} {c : Array Value} {e' : TypeId} {fz : Nat × Nat} (h2 : l.length ≤ k) (h3 : a.block = L.b) (h4 : k = 0 ∨ (a = ⟨L.b, L.o, none⟩ ∧ L.o + k ≤ L.z))
    (h5 : w.heap[L.b]? = some (.cells c e' fz)) (h6 : c.size = L.z) (h7 : L.o + l.length ≤ L.z) (h8 : ∀ i x, l[i]? = some x → c[L.o + i]? = some (g x)) :
    ∃ ρ', Le ρ ρ' ∧ HR B ρ' (h.put i (some (.cells true (l.map f)))) w ∧ VR ρ' (.slice i 0 l.length 1 none) (.slice (some a) l.length k) := by
  obtain ⟨hle, H'⟩ := H.name hro hi hg (L := L) (l := l.map f) (lt_of_heap h5) h5 h6 (by simpa using h7) (fun j v hv => by
    rw [List.getElem?_map, Option.map_eq_some_iff] at hv
    obtain ⟨x, hx, rfl⟩ := hv
    exact ⟨_, h8 j x hx, hfg _ _⟩)
  refine ⟨_, hle, H', ?_⟩
  simp only [VR]
  refine ⟨a, k, rfl, h2, fun c' hc' => (by cases hc'), L, by simp, h3, ?_⟩
  rcases h4 with h4 | ⟨h4, h4'⟩
  · exact .inl h4
  · exact .inr ⟨h4, by omega⟩
end Gw
