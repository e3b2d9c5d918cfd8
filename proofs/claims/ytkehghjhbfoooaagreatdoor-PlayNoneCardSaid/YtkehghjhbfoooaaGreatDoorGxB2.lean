/- The memory a law starts with: the tables, and what its arguments lie in (read only). -/
import Derived.Test.YtkehghjhbfoooaaGreatDoorGxB1
noncomputable section
namespace Gw
open Go Go.ChangeShapes Go.WideShapes Go.ChangeAt Go.RowKit

theorem Heap.nil_get (n i : Nat) : (⟨.nil, n⟩ : Heap).get i = none := by simp [Heap.get, Tr.get]

/-- Nothing at all. -/
theorem HR.nil (B : Nat → Prop) (w : World) (hB : ∀ k, B k → k < w.heap.size) (n : Nat) : HR B (fun _ => none) ⟨.nil, n⟩ w :=
  { blk := fun i b h => by rw [Heap.nil_get] at h; cases h
    inj := fun i j b c L M h => by rw [Heap.nil_get] at h; cases h
    new := fun _ _ => rfl
    top := fun i _ => Heap.nil_get n i
    lt := fun i L h => by cases h
    low := hB }

/-- No block that may be written stands in it: so more can be named. -/
def Heap.RO (h : Heap) : Prop := ∀ i b, h.get i = some b → b.rw = false
theorem Heap.RO.nil (n : Nat) : (⟨.nil, n⟩ : Heap).RO := fun i b h => by rw [Heap.nil_get] at h; cases h
theorem Heap.RO.put {h : Heap} (H : h.RO) (i : Nat) (l : List V) : (h.put i (some (.cells true l))).RO := by
  intro j b hj
  rw [Heap.get_put] at hj
  by_cases hji : j = i
  · subst hji; simp at hj; subst hj; rfl
  · rw [if_neg hji] at hj; exact H j b hj

/-- A block that is there already is named, to be read only. -/
theorem HR.name {B : Nat → Prop} {ρ : Rho} {h : Heap} {w : World} (H : HR B ρ h w) (hro : h.RO) {i : Nat} (hi : i < h.n) (hg : h.get i = none) {L : Loc} (hL : L.b < w.heap.size) {l : List V} {c : Array Value} {e : TypeId} {fz : Nat × Nat}
    (hc : w.heap[L.b]? = some (.cells c e fz)) (hz : c.size = L.z) (ho : L.o + l.length ≤ L.z) (hr : CR ρ l c L.o) :
    Le ρ (fun j => if j = i then some L else ρ j) ∧ HR B (fun j => if j = i then some L else ρ j) (h.put i (some (.cells true l))) w := by
  have hle : Le ρ (fun j => if j = i then some L else ρ j) := by
    intro j M hj
    by_cases hji : j = i
    · subst hji; rw [H.new _ hg] at hj; cases hj
    · simp [hji, hj]
  refine ⟨hle, ⟨fun j b' hj => ?_, fun j k b' c' Lj Mk hj hk hn hbw hcd h1 h2 => ?_, fun j hj => ?_, fun j hj => ?_, fun j Lj hj => ?_, H.low⟩⟩
  · rw [Heap.get_put] at hj
    by_cases hji : j = i
    · subst hji; simp at hj; subst hj; exact ⟨L, by simp, c, e, fz, hc, hz, ho, hr.mono hle, by intro h; cases h⟩
    · rw [if_neg hji] at hj
      obtain ⟨Lj, h1, h2⟩ := H.blk j b' hj
      exact ⟨Lj, by simp [hji, h1], h2.mono hle⟩
  · have := (hro.put i l) j b' hj
    rw [this] at hbw; cases hbw
  · rw [Heap.get_put] at hj
    by_cases hji : j = i
    · subst hji; simp at hj
    · rw [if_neg hji] at hj; simp [hji, H.new j hj]
  · rw [Heap.get_put]
    have hji : j ≠ i := by simp only [Heap.put_n] at hj; omega
    rw [if_neg hji]; exact H.top j hj
  · by_cases hji : j = i
    · subst hji; simp at hj; subst hj; exact hL
    · simp only [hji, if_false] at hj; exact H.lt j Lj hj

def zsV (k : IntKind) : List Int → List V
  | [] => []
  | n :: l => .int k n :: zsV k l

theorem zsV_eq (k : IntKind) : ∀ l, zsV k l = l.map (V.int k)
  | [] => rfl
  | n :: l => by simp [zsV, zsV_eq k l]

/-- A table of numbers as a block. -/
theorem CR.zs {ρ : Rho} {k : IntKind} {zs : List Int} {c : Array Value} (hc : c.toList = zs.map (Value.int k)) : CR ρ (zsV k zs) c 0 := by
  intro i v hv
  rw [zsV_eq, List.getElem?_map, Option.map_eq_some_iff] at hv
  obtain ⟨z, hz, rfl⟩ := hv
  refine ⟨.int k z, ?_, rfl⟩
  have : c.toList[i]? = some (.int k z) := by rw [hc]; simp [hz]
  simpa using this

/-- The three tables of the program's. -/
structure Tabs (w : World) (k0 k1 k2 : List Int) : Prop where
  t0 : ∃ c e fz, w.heap[0]? = some (.cells c e fz) ∧ c.toList = k0.map (Value.int .u8)
  t1 : ∃ c e fz, w.heap[1]? = some (.cells c e fz) ∧ c.toList = k1.map (Value.int .u8)
  t2 : ∃ c e fz, w.heap[2]? = some (.cells c e fz) ∧ c.toList = k2.map (Value.int .u8)

/-- A memory with the tables alone; n: how many blocks are to come (three at least). -/
def tabH (k0 k1 k2 : List Int) (n : Nat) : Heap := (((⟨.nil, n⟩ : Heap).put 0 (some (.cells true (zsV .u8 k0)))).put 1 (some (.cells true (zsV .u8 k1)))).put 2 (some (.cells true (zsV .u8 k2)))

theorem lt_of_heap {w : World} {b : Nat} {o : Obj} (h : w.heap[b]? = some o) : b < w.heap.size := by
  rcases Nat.lt_or_ge b w.heap.size with h' | h'
  · exact h'
  · rw [Array.getElem?_eq_none h'] at h; cases h

theorem HR.tabs {w : World} {k0 k1 k2 : List Int} (T : Tabs w k0 k1 k2) (B : Nat → Prop) (hB : ∀ k, B k → k < w.heap.size) (n : Nat) (hn : 3 ≤ n) :
    ∃ ρ, GR ρ ∧ (∀ i, 3 ≤ i → ρ i = none) ∧ HR B ρ (tabH k0 k1 k2 n) w ∧ (tabH k0 k1 k2 n).RO := by
  obtain ⟨⟨c0, e0, f0, a0, b0⟩, ⟨c1, e1, f1, a1, b1⟩, ⟨c2, e2, f2, a2, b2⟩⟩ := T
  have s0 : c0.size = k0.length := by have := congrArg List.length b0; simpa using this
  have s1 : c1.size = k1.length := by have := congrArg List.length b1; simpa using this
  have s2 : c2.size = k2.length := by have := congrArg List.length b2; simpa using this
  have R0 := Heap.RO.nil n
  have R1 := R0.put 0 (zsV .u8 k0)
  have R2 := R1.put 1 (zsV .u8 k1)
  have R3 := R2.put 2 (zsV .u8 k2)
  obtain ⟨l0, H0⟩ := (HR.nil B w hB n).name R0 (i := 0) (L := ⟨0, 0, c0.size⟩) (l := zsV .u8 k0) (by show 0 < n; omega) (Heap.nil_get n 0) (lt_of_heap a0) a0 rfl (by simp [zsV_eq, s0]) (CR.zs b0)
  obtain ⟨l1, H1⟩ := H0.name R1 (i := 1) (L := ⟨1, 0, c1.size⟩) (l := zsV .u8 k1) (by show 1 < n; omega) (by rw [Heap.get_put_ne _ _ _ _ (by decide)]; exact Heap.nil_get n 1) (lt_of_heap a1) a1 rfl (by simp [zsV_eq, s1]) (CR.zs b1)
  obtain ⟨l2, H2⟩ := H1.name R2 (i := 2) (L := ⟨2, 0, c2.size⟩) (l := zsV .u8 k2) (by show 2 < n; omega) (by rw [Heap.get_put_ne _ _ _ _ (by decide), Heap.get_put_ne _ _ _ _ (by decide)]; exact Heap.nil_get n 2) (lt_of_heap a2) a2 rfl (by simp [zsV_eq, s2]) (CR.zs b2)
  refine ⟨_, ?_, ?_, H2, R3⟩
  · intro g hg
    match g, hg with
    | 0, _ => exact ⟨c0.size, rfl⟩
    | 1, _ => exact ⟨c1.size, rfl⟩
    | 2, _ => exact ⟨c2.size, rfl⟩
  · intro i hi
    simp [show i ≠ 0 by omega, show i ≠ 1 by omega, show i ≠ 2 by omega]

end Gw
