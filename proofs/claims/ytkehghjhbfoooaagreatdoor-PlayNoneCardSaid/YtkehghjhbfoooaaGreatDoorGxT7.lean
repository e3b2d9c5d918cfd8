/- How a call in its own memory ends: one thing turned. -/
import Derived.Test.YtkehghjhbfoooaaGreatDoorGxT5
noncomputable section
namespace Gw
open Go Go.RowKit

theorem closeAt_get {h : Heap} {i : Nat} {x : Ob} {ids : List Nat} (j : Nat) : (closeAt h i x ids).get j = if j ∈ ids then some .dead else if j = i then some (.obj x) else h.get j := by
  simp only [closeAt]
  rw [killAll_get, Heap.get_put]

/-- One thing of its own, turned; the answer holds no names. -/
theorem ends_o {j : Nat} {x0 x : Ob} {r : V} {h : Heap} {vs : List V} {ids : List Nat} (hg : h.get NG = some (.cells false vs)) (hc : closeOk h vs x.enc ids) (hn : ids.Nodup) (hi : NG ∉ ids) :
    Ends [.o j x0] [x] [] [.f r] r h := by
  refine ⟨closeAt h NG x ids, [], .one NG x vs ids hg hc hn hi .refl, rfl, .nil, by simp, fun i k y0 y h1 h2 => ?_, fun m f y h1 => by simp at h1, fun ρ v hv => hv⟩
  cases i with
  | zero =>
    simp at h1 h2
    obtain ⟨rfl, rfl⟩ := h1; subst h2
    rw [closeAt_get, Nat.add_zero, if_neg hi, if_pos rfl]
  | succ i => simp at h1
/-- The same, where the thing was never opened. -/
theorem ends_o0 {j : Nat} {x0 x : Ob} {r : V} {h : Heap} (hg : h.get NG = some (.obj x)) : Ends [.o j x0] [x] [] [.f r] r h := by
  refine ⟨h, [], .refl, rfl, .nil, by simp, fun i k y0 y h1 h2 => ?_, fun m f y h1 => by simp at h1, fun ρ v hv => hv⟩
  cases i with
  | zero =>
    simp at h1 h2
    obtain ⟨rfl, rfl⟩ := h1; subst h2
    exact hg
  | succ i => simp at h1
/-- Nothing was there; one thing is made, a pointer to it is the answer. -/
theorem ends_new {x : Ob} {h : Heap} {i : Nat} {vs : List V} {ids : List Nat} (hi0 : NG ≤ i) (hg : h.get i = some (.cells false vs)) (hc : closeOk h vs x.enc ids) (hn : ids.Nodup) (hi : i ∉ ids) :
    Ends [] [] [x] [.p 0] (.ptr i 0) h := by
  refine ⟨closeAt h i x ids, [i], .one i x vs ids hg hc hn hi .refl, rfl, by simp, fun f hf => ?_, fun k j y0 y h1 => by simp at h1, fun m f y h1 h2 => ?_, fun ρ v hv => hv⟩
  · simp at hf; subst hf; simpa using hi0
  · cases m with
    | zero =>
      simp at h1 h2
      subst h1 h2
      rw [closeAt_get, if_neg hi, if_pos rfl]
    | succ m => simp at h1
/-- Nothing was there, nothing is made. -/
theorem ends_flat {r : V} {h : Heap} : Ends [] [] [] [.f r] r h :=
  ⟨h, [], .refl, rfl, .nil, by simp, fun k j y0 y h1 => by simp at h1, fun m f y h1 => by simp at h1, fun ρ v hv => hv⟩

section
variable {P : Program}
/-- A call that is answered: what the answer's function asks and gives. -/
structure AnsO (P : Program) (f : Nat) (g : List V → Heap → Option (V × Heap)) : Prop where
  fr : ∀ args, FrM (g args)
  ok : ∀ args h r h', g args h = some (r, h') → Con P f args h r h'
theorem exts_of {X : Ext} (h : ∀ f g, X f = some g → AnsO P f g) : ExtS P X := fun f g hg => ⟨(h f g hg).fr, fun args hh r h' he => (h f g hg).ok args hh r h' he⟩

/-- A function of plain values. -/
def gP (p : List V → Option V) (args : List V) (h : Heap) : Option (V × Heap) := match p args with
  | some v => some (v, h)
  | none => none
theorem fr_gP (p : List V → Option V) (args : List V) : FrM (gP p args) := by
  unfold gP
  cases p args with
  | none => exact FrM.none
  | some v => exact FrM.same _
theorem outH_nil (h : Heap) : outH h [] [] [] = h := by
  simp only [outH, putsA, putsO, List.length_nil]
  rfl
/-- From a run in a memory of nothing. -/
theorem ansP {f : Nat} {p : List V → Option V} (hp : ∀ args v, p args = some v → V.flats args = true ∧ v.flat = true ∧ Run P f args (smallH []) fun r _ => r = v) : AnsO P f (gP p) := by
  refine ⟨fr_gP p, fun args h r h' he => ?_⟩
  unfold gP at he
  cases hv : p args with
  | none => rw [hv] at he; cases he
  | some v =>
    rw [hv] at he
    simp only [Option.some.injEq, Prod.mk.injEq] at he
    obtain ⟨rfl, rfl⟩ := he
    obtain ⟨h1, h2, h3⟩ := hp args v hv
    have ha : ∀ l : List V, V.flats l = true → ArgsR [] l l := by
      intro l
      induction l with
      | nil => intro _; exact .nil
      | cons v l ih =>
        intro hl
        simp only [V.flats, Bool.and_eq_true] at hl
        exact .cons (.f hl.1) (ih hl.2)
    have := con_of (P := P) (f := f) (l := []) (h := h) (xs := []) (ys := []) (rs := [.f v]) (ha args h1) (by simp) trivial .refl h3 (fun r1 h1 e => by subst e; exact ends_flat) rfl (by simp [Ri.ok, h2])
    rw [outH_nil] at this
    exact this

theorem argsR_flat {l : List Ar} : ∀ vs : List V, V.flats vs = true → ArgsR l vs vs
  | [], _ => .nil
  | v :: vs, h => by
    simp only [V.flats, Bool.and_eq_true] at h
    exact .cons (.f h.1) (argsR_flat vs h.2)

/-- A function of a thing and plain values: it answers, and turns the thing. -/
def gO (p : List V → Ob → Option (V × Ob)) (args : List V) (h : Heap) : Option (V × Heap) :=
  match args with
  | .ptr i 0 :: as => (match h.get i with
    | some (.obj x) => (match p as x with
      | some q => some (q.1, h.put i (some (.obj q.2)))
      | none => none)
    | _ => none)
  | _ => none
theorem fr_gO (p : List V → Ob → Option (V × Ob)) (args : List V) : FrM (gO p args) := by
  intro h r h' hr i b hf
  unfold gO at hr ⊢
  split at hr
  · rename_i j as
    split at hr
    · rename_i x hg
      simp only [Heap.get_put_ne _ _ _ _ (get_ne hf hg), hg]
      split at hr
      · rename_i q hq
        simp only [Option.some.injEq, Prod.mk.injEq] at hr
        obtain ⟨rfl, rfl⟩ := hr
        exact ⟨by rw [Heap.put_comm _ _ _ _ _ (Ne.symm (get_ne hf hg))], hf.put (Ne.symm (get_ne hf hg))⟩
      · cases hr
    · cases hr
  · cases hr
theorem ansO {f : Nat} {p : List V → Ob → Option (V × Ob)} (hp : ∀ as x q, p as x = some q → V.flats as = true ∧ q.1.flat = true ∧ ∃ hs, Opens (smallH [.o 0 x]) hs ∧ Run P f (.ptr NG 0 :: as) hs fun r1 h1 => Ends [.o 0 x] [q.2] [] [.f q.1] r1 h1) : AnsO P f (gO p) := by
  refine ⟨fr_gO p, fun args h r h' he => ?_⟩
  unfold gO at he
  split at he
  · rename_i i as
    split at he
    · rename_i x hg
      split at he
      · rename_i q hq
        simp only [Option.some.injEq, Prod.mk.injEq] at he
        obtain ⟨rfl, rfl⟩ := he
        obtain ⟨h1, h2, hs, h3, h4⟩ := hp as x q hq
        have hok : ∀ a ∈ [Ar.o i x], a.ok h := by intro a ha; simp at ha; subst ha; exact hg
        have := con_of (P := P) (f := f) (l := [.o i x]) (h := h) (hs := hs) (sargs := .ptr NG 0 :: as) (bargs := .ptr i 0 :: as) (xs := [q.2]) (ys := []) (rs := [.f q.1])
          (.cons (.o (i := 0) rfl) (argsR_flat as h1)) hok ⟨by simp, trivial⟩ h3 h4 (fun r1 h1 e => ?_) rfl (by simp [Ri.ok, h2])
        · exact this
        · obtain ⟨h', frs, a1, a2, a3, a4, a5, a6⟩ := e.ends
          refine ⟨h', frs, a1, a2, a3, a4, fun k j y0 y b1 b2 => ?_, a6⟩
          cases k with
          | zero => exact a5 0 0 x y rfl b2
          | succ k => simp at b1
      · cases he
    · cases he
  · cases he

/-- A function of plain values that makes a thing, or nothing. -/
def gN (p : List V → Option (Option Ob)) (args : List V) (h : Heap) : Option (V × Heap) :=
  match p args with
  | some (some y) => some (.ptr h.n 0, (h.up 1).put h.n (some (.obj y)))
  | some none => some (.nilp, h)
  | none => none
theorem fr_gN (p : List V → Option (Option Ob)) (args : List V) : FrM (gN p args) := by
  intro h r h' hr i b hf
  unfold gN at hr ⊢
  split at hr
  · simp only [Option.some.injEq, Prod.mk.injEq] at hr
    obtain ⟨rfl, rfl⟩ := hr
    have hn : h.n ≠ i := by have := hf.2; omega
    refine ⟨?_, (Free.up (k := 1) hf).put (Ne.symm hn)⟩
    show some (V.ptr h.n 0, (((h.up 1).put i b).put h.n _)) = _
    rw [Heap.put_comm _ _ _ _ _ (Ne.symm hn)]
  · simp only [Option.some.injEq, Prod.mk.injEq] at hr
    obtain ⟨rfl, rfl⟩ := hr
    exact ⟨rfl, hf⟩
  · cases hr
theorem ansN {f : Nat} {p : List V → Option (Option Ob)} (hp : ∀ as o, p as = some o → V.flats as = true ∧ Run P f as (smallH []) fun r1 h1 => match o with
    | some y => Ends [] [] [y] [.p 0] r1 h1
    | none => r1 = .nilp) : AnsO P f (gN p) := by
  refine ⟨fr_gN p, fun args h r h' he => ?_⟩
  unfold gN at he
  split at he
  · rename_i y hy
    simp only [Option.some.injEq, Prod.mk.injEq] at he
    obtain ⟨rfl, rfl⟩ := he
    obtain ⟨h1, h2⟩ := hp args _ hy
    exact con_of (P := P) (f := f) (l := []) (h := h) (xs := []) (ys := [y]) (rs := [.p 0]) (argsR_flat args h1) (by simp) trivial .refl h2 (fun r1 h1 e => e) rfl (by simp [Ri.ok])
  · rename_i hy
    simp only [Option.some.injEq, Prod.mk.injEq] at he
    obtain ⟨rfl, rfl⟩ := he
    obtain ⟨h1, h2⟩ := hp args _ hy
    have := con_of (P := P) (f := f) (l := []) (h := h) (xs := []) (ys := []) (rs := [.f .nilp]) (argsR_flat args h1) (by simp) trivial .refl h2 (fun r1 h1 e => by simp only at e; subst e; exact ends_flat) rfl (by simp [Ri.ok, V.flat])
    rw [outH_nil] at this
    exact this
  · cases he
end
end Gw
