/- Memory: the machine's blocks stand for the model's; what is read, written, made keeps that. -/
import Derived.Test.YtjnhaaolbcmdbaaGreatDoorGwA9
namespace Gw
open Go Go.RowKit

def Blk.rw : Blk → Bool
  | .cells ro _ => !ro
  | .dead => false
  | _ => true

def CR (ρ : Rho) (l : List V) (c : Array Value) (o : Nat) : Prop := ∀ k v, l[k]? = some v → ∃ x, c[o + k]? = some x ∧ VR ρ v x
def FZ (fz : Nat × Nat) (z : Nat) : Prop := fz = (0, 0) ∨ fz = (z, z + 1)

def ER (ρ : Rho) : List (V × V) → List MapEntry → Prop
  | [], ys => ys = []
  | (k, v) :: l, ys => ∃ e ys', ys = e :: ys' ∧ VR ρ k e.key ∧ VR ρ v e.val ∧ ER ρ l ys'

def BR (B : Nat) (ρ : Rho) (L : Loc) (w : World) : Blk → Prop
  | .cells ro l => ∃ c e fz, w.heap[L.b]? = some (.cells c e fz) ∧ c.size = L.z ∧ L.o + l.length ≤ L.z ∧ CR ρ l c L.o ∧ (ro = false → B ≤ L.b ∧ FZ fz L.z)
  | .iter s p => w.heap[L.b]? = some (.stringIter ⟨⟨s⟩⟩ p) ∧ L.o = 0 ∧ B ≤ L.b
  | .mp es => ∃ en ck, w.heap[L.b]? = some (.map en ck) ∧ ER ρ es en.toList ∧ B ≤ L.b
  | .dead => True

structure HR (B : Nat) (ρ : Rho) (h : Heap) (w : World) : Prop where
  blk : ∀ i b, h.get i = some b → ∃ L, ρ i = some L ∧ BR B ρ L w b
  inj : ∀ i j b c L M, h.get i = some b → h.get j = some c → i ≠ j → b.rw = true → c ≠ .dead → ρ i = some L → ρ j = some M → L.b ≠ M.b
  new : ∀ i, h.get i = none → ρ i = none
  top : ∀ i, h.n ≤ i → h.get i = none
  lt : ∀ i L, ρ i = some L → L.b < w.heap.size
  low : B ≤ w.heap.size

theorem CR.mono {ρ ρ' : Rho} (hl : Le ρ ρ') {l : List V} {c : Array Value} {o : Nat} (h : CR ρ l c o) : CR ρ' l c o := fun k v hk => let ⟨x, hx, hr⟩ := h k v hk; ⟨x, hx, hr.mono hl⟩
theorem ER.mono {ρ ρ' : Rho} (hl : Le ρ ρ') : ∀ {l : List (V × V)} {ys : List MapEntry}, ER ρ l ys → ER ρ' l ys
  | [], _, h => h
  | (_, _) :: _, _, h => by obtain ⟨e, ys', h1, h2, h3, h4⟩ := h; exact ⟨e, ys', h1, h2.mono hl, h3.mono hl, ER.mono hl h4⟩
theorem BR.mono {B : Nat} {ρ ρ' : Rho} (hl : Le ρ ρ') {L : Loc} {w : World} {b : Blk} (h : BR B ρ L w b) : BR B ρ' L w b := by
  cases b with
  | cells ro l => obtain ⟨c, e, fz, h1, h2, h3, h4, h5⟩ := h; exact ⟨c, e, fz, h1, h2, h3, h4.mono hl, h5⟩
  | iter s p => exact h
  | mp es => obtain ⟨en, ck, h1, h2, h3⟩ := h; exact ⟨en, ck, h1, h2.mono hl, h3⟩
  | dead => trivial
theorem BR.congr {B : Nat} {ρ : Rho} {L : Loc} {w w' : World} {b : Blk} (h : BR B ρ L w b) (he : w'.heap[L.b]? = w.heap[L.b]?) : BR B ρ L w' b := by
  cases b with
  | cells ro l => obtain ⟨c, e, fz, h1, h2⟩ := h; exact ⟨c, e, fz, by rw [he]; exact h1, h2⟩
  | iter s p => exact ⟨by rw [he]; exact h.1, h.2⟩
  | mp es => obtain ⟨en, ck, h1, h2⟩ := h; exact ⟨en, ck, by rw [he]; exact h1, h2⟩
  | dead => trivial

/-- The same memory, other streams. -/
theorem HR.same {B : Nat} {ρ : Rho} {h : Heap} {w w' : World} (H : HR B ρ h w) (he : w'.heap = w.heap) : HR B ρ h w' :=
  ⟨fun i b hb => let ⟨L, h1, h2⟩ := H.blk i b hb; ⟨L, h1, h2.congr (by rw [he])⟩, H.inj, H.new, H.top, fun i L hL => by rw [he]; exact H.lt i L hL, by rw [he]; exact H.low⟩

theorem HR.up {B : Nat} {ρ : Rho} {h : Heap} {w : World} (H : HR B ρ h w) (k : Nat) : HR B ρ (h.up k) w :=
  ⟨H.blk, H.inj, H.new, fun i hi => H.top i (by simp only [Heap.up_n] at hi; omega), H.lt, H.low⟩

/-- A block is written. -/
theorem HR.write {B : Nat} {ρ : Rho} {h : Heap} {w : World} (H : HR B ρ h w) {i : Nat} {b0 b1 : Blk} {L : Loc} (hg : h.get i = some b0) (hw : b0.rw = true) (hL : ρ i = some L) (hB : B ≤ L.b) {o : Obj}
    (hb : BR B ρ L { w with heap := w.heap.setIfInBounds L.b o } b1) :
    HR B ρ (h.put i (some b1)) { w with heap := w.heap.setIfInBounds L.b o } ∧ Below B w { w with heap := w.heap.setIfInBounds L.b o } := by
  refine ⟨⟨fun j b hj => ?_, fun j k b c Lj Mk hj hk hn hbw hcd h1 h2 => ?_, fun j hj => ?_, fun j hj => ?_, fun j Lj hj => ?_, ?_⟩, ⟨rfl, rfl, rfl, by simp, fun k hk => ?_⟩⟩
  · rw [Heap.get_put] at hj
    by_cases hji : j = i
    · subst hji; simp at hj; subst hj; exact ⟨L, hL, hb⟩
    · rw [if_neg hji] at hj
      obtain ⟨Lj, h1, h2⟩ := H.blk j b hj
      refine ⟨Lj, h1, ?_⟩
      by_cases hd : b = .dead
      · subst hd; trivial
      · have hne : L.b ≠ Lj.b := H.inj i j b0 b L Lj hg hj (Ne.symm hji) hw hd hL h1
        exact h2.congr (by simp [Array.getElem?_setIfInBounds_ne hne])
  · rw [Heap.get_put] at hj hk
    by_cases hji : j = i
    · subst hji
      rw [if_neg (Ne.symm hn)] at hk
      exact H.inj j k b0 c Lj Mk hg hk hn hw hcd h1 h2
    · rw [if_neg hji] at hj
      by_cases hki : k = i
      · subst hki
        have := H.inj k j b0 b Mk Lj hg hj (Ne.symm hn) hw (by intro e; subst e; simp [Blk.rw] at hbw) h2 h1
        exact Ne.symm this
      · rw [if_neg hki] at hk
        exact H.inj j k b c Lj Mk hj hk hn hbw hcd h1 h2
  · rw [Heap.get_put] at hj
    by_cases hji : j = i
    · subst hji; simp at hj
    · rw [if_neg hji] at hj; exact H.new j hj
  · rw [Heap.get_put]
    by_cases hji : j = i
    · subst hji; have := H.top j hj; rw [this] at hg; cases hg
    · rw [if_neg hji]; exact H.top j hj
  · have := H.lt j Lj hj; simpa using this
  · have := H.low; simpa using this
  · simp [Array.getElem?_setIfInBounds_ne (show L.b ≠ k by omega)]

/-- A block is made: behind all blocks of the model's, at a free place of the machine's. -/
theorem HR.make {B : Nat} {ρ : Rho} {h : Heap} {w : World} (H : HR B ρ h w) {i : Nat} (hi : i < h.n) (hg : h.get i = none) {b : Blk} {L : Loc} (hLb : L.b = w.heap.size) {o : Obj} {w' : World} (hw' : w'.heap = w.heap.push o)
    (hos : w'.os = w.os) (htp : w'.tape = w.tape) (hout : w'.output = w.output)
    (hb : ∀ ρ', Le ρ ρ' → BR B ρ' L w' b) :
    Le ρ (fun j => if j = i then some L else ρ j) ∧ HR B (fun j => if j = i then some L else ρ j) (h.put i (some b)) w' ∧ Below B w w' := by
  have hρ := H.new i hg
  have hle : Le ρ (fun j => if j = i then some L else ρ j) := by
    intro j M hj
    by_cases hji : j = i
    · subst hji; rw [hρ] at hj; cases hj
    · simp [hji, hj]
  have hold : ∀ k, k < w.heap.size → w'.heap[k]? = w.heap[k]? := by
    intro k hk
    rw [hw', Array.getElem?_push]
    simp [show k ≠ w.heap.size by omega]
  refine ⟨hle, ⟨fun j b' hj => ?_, fun j k b' c Lj Mk hj hk hn hbw hcd h1 h2 => ?_, fun j hj => ?_, fun j hj => ?_, fun j Lj hj => ?_, ?_⟩, ⟨hos, htp, hout, by rw [hw']; simp, fun k hk => hold k (by have := H.low; omega)⟩⟩
  · rw [Heap.get_put] at hj
    by_cases hji : j = i
    · subst hji; simp at hj; subst hj; exact ⟨L, by simp, hb _ hle⟩
    · rw [if_neg hji] at hj
      obtain ⟨Lj, h1, h2⟩ := H.blk j b' hj
      exact ⟨Lj, by simp [hji, h1], (h2.mono hle).congr (hold _ (H.lt j Lj h1))⟩
  · rw [Heap.get_put] at hj hk
    by_cases hji : j = i
    · subst hji
      rw [if_neg (Ne.symm hn)] at hk
      simp at h1; subst h1
      simp [Ne.symm hn] at h2
      have := H.lt k Mk h2
      omega
    · rw [if_neg hji] at hj
      simp [hji] at h1
      by_cases hki : k = i
      · subst hki
        simp at h2; subst h2
        have := H.lt j Lj h1
        omega
      · rw [if_neg hki] at hk
        simp [hki] at h2
        exact H.inj j k b' c Lj Mk hj hk hn hbw hcd h1 h2
  · rw [Heap.get_put] at hj
    by_cases hji : j = i
    · subst hji; simp at hj
    · rw [if_neg hji] at hj; simp [hji, H.new j hj]
  · rw [Heap.get_put]
    by_cases hji : j = i
    · subst hji; have : h.n ≤ j := hj; omega
    · rw [if_neg hji]; exact H.top j hj
  · rw [hw', Array.size_push]
    by_cases hji : j = i
    · simp [hji] at hj; subst hj; omega
    · simp [hji] at hj; have := H.lt j Lj hj; omega
  · rw [hw', Array.size_push]; have := H.low; omega

/-- A block is given away: nothing is left of it but its place. -/
theorem HR.kill {B : Nat} {ρ : Rho} {h : Heap} {w : World} (H : HR B ρ h w) {i : Nat} {b0 : Blk} (hg : h.get i = some b0) : HR B ρ (h.put i (some .dead)) w := by
  refine ⟨fun j b hj => ?_, fun j k b c Lj Mk hj hk hn hbw hcd h1 h2 => ?_, fun j hj => ?_, fun j hj => ?_, H.lt, H.low⟩
  · rw [Heap.get_put] at hj
    by_cases hji : j = i
    · subst hji; simp at hj; subst hj
      obtain ⟨L, h1, _⟩ := H.blk j b0 hg
      exact ⟨L, h1, trivial⟩
    · rw [if_neg hji] at hj; exact H.blk j b hj
  · rw [Heap.get_put] at hj hk
    by_cases hji : j = i
    · rw [if_pos hji] at hj; simp only [Option.some.injEq] at hj; subst hj; simp [Blk.rw] at hbw
    · rw [if_neg hji] at hj
      by_cases hki : k = i
      · rw [if_pos hki] at hk; simp only [Option.some.injEq] at hk; exact absurd hk.symm hcd
      · rw [if_neg hki] at hk; exact H.inj j k b c Lj Mk hj hk hn hbw hcd h1 h2
  · rw [Heap.get_put] at hj
    by_cases hji : j = i
    · subst hji; simp at hj
    · rw [if_neg hji] at hj; exact H.new j hj
  · rw [Heap.get_put]
    by_cases hji : j = i
    · subst hji; have := H.top j hj; rw [this] at hg; cases hg
    · rw [if_neg hji]; exact H.top j hj

theorem rowOf_get {h : Heap} {id : Nat} {l : List V} (hr : rowOf h id = some l) : ∃ ro, h.get id = some (.cells ro l) := by
  unfold rowOf at hr
  split at hr
  · rename_i ro l' hg; simp only [Option.some.injEq] at hr; subst hr; exact ⟨ro, hg⟩
  · cases hr
theorem rowW_get {h : Heap} {id : Nat} {l : List V} (hr : rowW h id = some l) : h.get id = some (.cells false l) := by
  unfold rowW at hr
  split at hr
  · rename_i l' hg; simp only [Option.some.injEq] at hr; subst hr; exact hg
  · cases hr

theorem cell_of {w : World} {b k : Nat} {c : Array Value} {e : TypeId} {fz : Nat × Nat} (h : w.heap[b]? = some (.cells c e fz)) : w.cell? ⟨b, k, none⟩ = c[k]? := by simp [World.cell?, h]

theorem loc_add (b o n : Nat) : (⟨b, o, none⟩ : Addr).add n = ⟨b, o + n, none⟩ := by
  unfold Addr.add; split
  · rename_i h; subst h; rfl
  · rfl

section
variable {P : Program}

/-- Cells that are read. -/
theorem HR.cells {B : Nat} {ρ : Rho} {h : Heap} {w : World} (H : HR B ρ h w) {id off n : Nat} {l r : List V} {L : Loc} (hr : rowOf h id = some l) (hc : cellsAt l off n = some r) (hL : ρ id = some L) :
    ∃ cs : List Value, VRs ρ r cs ∧ cs.length = n ∧ (∀ a : Addr, (n ≠ 0 → a = ⟨L.b, L.o + off, none⟩) → ∀ w' : World, w'.heap = w.heap → (loadCells a n).run P w' = .ok cs.toArray w') := by
  obtain ⟨ro, hg⟩ := rowOf_get hr
  obtain ⟨L', hL', c, e, fz, h1, h2, h3, h4, _⟩ := H.blk id _ hg
  rw [hL] at hL'; simp only [Option.some.injEq] at hL'; subst hL'
  obtain ⟨g1, g2, g3⟩ := cellsAt_some l off n r hc
  refine ⟨(c.toList.drop (L.o + off)).take n, ?_, ?_, ?_⟩
  · refine VRs.of ?_ fun i v hi => ?_
    · rw [g3]
      by_cases hn : n = 0
      · simp [hn]
      · have := g2 hn; simp; omega
    · have hin : i < n := by
        obtain ⟨hlt, _⟩ := List.getElem?_eq_some_iff.1 hi
        omega
      rw [g1] at hi
      simp [hin] at hi
      obtain ⟨x, hx, hv⟩ := h4 (off + i) v hi
      refine ⟨x, ?_, hv⟩
      simp [hin]
      rw [← hx]; congr 1; omega
  · by_cases hn : n = 0
    · simp [hn]
    · have := g2 hn; simp; omega
  · intro a ha w' hw'
    have h1' : w'.heap[L.b]? = some (.cells c e fz) := by rw [hw']; exact h1
    by_cases hn : n = 0
    · subst hn; simp [loadCells, loadCellsFrom]
    · rw [ha hn]
      have hl : ((c.toList.drop (L.o + off)).take n).length = n := by have := g2 hn; simp; omega
      have := run_loadCells_list (P := P) w' ⟨L.b, L.o + off, none⟩ ((c.toList.drop (L.o + off)).take n) (fun j v hj => by
        have hjn : j < n := by
          obtain ⟨hlt, _⟩ := List.getElem?_eq_some_iff.1 hj
          omega
        simp [hjn] at hj
        rw [loc_add, cell_of h1', ← hj])
      rw [hl] at this
      exact this

theorem HR.cell {B : Nat} {ρ : Rho} {h : Heap} {w : World} (H : HR B ρ h w) {id off : Nat} {l : List V} {v : V} {L : Loc} (hr : rowOf h id = some l) (hc : cellAt l off = some v) (hL : ρ id = some L) :
    ∃ x, VR ρ v x ∧ w.cell? ⟨L.b, L.o + off, none⟩ = some x := by
  obtain ⟨ro, hg⟩ := rowOf_get hr
  obtain ⟨L', hL', c, e, fz, h1, h2, h3, h4, _⟩ := H.blk id _ hg
  rw [hL] at hL'; simp only [Option.some.injEq] at hL'; subst hL'
  rw [cellAt_eq] at hc
  obtain ⟨x, hx, hv⟩ := h4 off v hc
  exact ⟨x, hv, by rw [cell_of h1, hx]⟩

/-- The cells of a slice. -/
theorem HR.slice {B : Nat} {ρ : Rho} {h : Heap} {w : World} (H : HR B ρ h w) {i o l e : Nat} {c : Option Nat} {a : Addr} {k m : Nat} {r : List V} (hs : SR ρ i o l e c a k) (hm : m ≤ k) (hr : rdN h i o (m * e) = some r) :
    ∃ cs : List Value, VRs ρ r cs ∧ cs.length = m * e ∧ ∀ w' : World, w'.heap = w.heap → (loadCells a (m * e)).run P w' = .ok cs.toArray w' := by
  unfold rdN at hr
  split at hr
  · rename_i h0
    simp only [Option.some.injEq] at hr; subst hr
    exact ⟨[], by simp [VRs], by simp [h0], fun w' _ => by rw [h0]; simp [loadCells, loadCellsFrom]⟩
  · rename_i h0
    cases hrow : rowOf h i with
    | none => simp [hrow] at hr
    | some row =>
      simp only [hrow, Option.bind_some] at hr
      have hk : k ≠ 0 := by intro hk; subst hk; have : m = 0 := by omega
                            subst this; simp at h0
      obtain ⟨L, hL, ha, _⟩ := hs.2.2.resolve_left hk
      obtain ⟨cs, h1, h2, h3⟩ := H.cells (P := P) hrow hr hL
      exact ⟨cs, h1, h2, h3 a (fun _ => ha)⟩

end

end Gw
