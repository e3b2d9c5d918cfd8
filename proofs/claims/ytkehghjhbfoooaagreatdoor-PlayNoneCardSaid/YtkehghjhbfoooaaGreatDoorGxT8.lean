/- Tables of answers; a function without loops. -/
import Derived.Test.YtkehghjhbfoooaaGreatDoorGxT7
import Derived.Test.YtkehghjhbfoooaaGreatDoorGxT6
noncomputable section
namespace Gw
open Go Go.RowKit

abbrev PTab := Nat → Option (List V → Option V)
abbrev OTab := Nat → Option (List V → Heap → DT (V × Heap))
open Classical in
/-- What a tree comes to. -/
noncomputable def DT.run {α : Type} : DT α → Option α
  | .fail => none
  | .leaf a => some a
  | .node c x y => cond c x.run y.run
  | .ob p x => if p then x.run else none
theorem DT.run_sat {α : Type} : ∀ {d : DT α} {Q : α → Prop}, d.sat Q → ∃ r, d.run = some r ∧ Q r
  | .fail, _, h => h.elim
  | .leaf a, _, h => ⟨a, rfl, h⟩
  | .node true x _, Q, h => by obtain ⟨r, h1, h2⟩ := DT.run_sat (d := x) (Q := Q) (h.1 rfl); exact ⟨r, h1, h2⟩
  | .node false _ y, Q, h => by obtain ⟨r, h1, h2⟩ := DT.run_sat (d := y) (Q := Q) (h.2 rfl); exact ⟨r, h1, h2⟩
  | .ob p x, _, h => by
    obtain ⟨r, h1, h2⟩ := DT.run_sat h.2
    exact ⟨r, by simp only [DT.run, if_pos h.1, h1], h2⟩
noncomputable def mkX (px : PTab) (ox : OTab) : Ext := fun f => match px f with
  | some p => some (gP p)
  | none => match ox f with
    | some g => some fun args h => (g args h).run
    | none => none
def leafO {α : Type} : Option α → DT α
  | some a => .leaf a
  | none => .fail
theorem run_leafO {α : Type} (x : Option α) : (leafO x).run = x := by cases x <;> rfl
def mkXT (px : PTab) (ox : OTab) : ExtT := fun f => match px f with
  | some p => some fun args h => match p args with
    | some v => .leaf (v, h)
    | none => .fail
  | none => match ox f with
    | some g => some g
    | none => none
def mkXP (px : PTab) : ExtP := fun f => match px f with
  | some p => some fun args _ => p args
  | none => none
theorem xtOk_mk (px : PTab) (ox : OTab) : XtOk (mkXT px ox) (mkX px ox) := by
  intro f
  unfold mkXT mkX
  cases hp : px f with
  | some p =>
    refine ⟨gP p, rfl, fun args h Q hs => ?_⟩
    simp only [gP]
    cases hv : p args with
    | none => simp only [hv] at hs; exact hs.elim
    | some v => simp only [hv] at hs; exact ⟨(v, h), rfl, hs⟩
  | none =>
    cases ho : ox f with
    | none => rfl
    | some g =>
      exact ⟨_, rfl, fun args h Q hs => DT.run_sat hs⟩
theorem xpX_mk (px : PTab) (ox : OTab) : XpX (mkXP px) (mkX px ox) := by
  intro f g hg
  unfold mkXP at hg
  unfold mkX
  cases hp : px f with
  | none => rw [hp] at hg; cases hg
  | some p =>
    rw [hp] at hg
    simp only [Option.some.injEq] at hg
    subst hg
    exact ⟨gP p, rfl, fun args h v hv => by simp only at hv; simp only [gP, hv]⟩
section
variable {P : Program}
/-- A table of answers that hold. -/
structure TabX (P : Program) (px : PTab) (ox : OTab) : Prop where
  p : ∀ f p, px f = some p → AnsO P f (gP p)
  o : ∀ f g, ox f = some g → AnsO P f (fun args h => (g args h).run)
theorem TabX.ext {px : PTab} {ox : OTab} (h : TabX P px ox) : ExtS P (mkX px ox) := by
  refine exts_of fun f g hg => ?_
  unfold mkX at hg
  split at hg
  · rename_i p hp; simp only [Option.some.injEq] at hg; subst hg; exact h.p f p hp
  · split at hg
    · rename_i g' hg'; simp only [Option.some.injEq] at hg; subst hg; exact h.o f g' hg'
    · cases hg
def noPX : PTab := fun _ => none
def noOX : OTab := fun _ => none
theorem TabX.nil : TabX P noPX noOX := ⟨fun _ _ h => (by cases h), fun _ _ h => (by cases h)⟩
def consP (f : Nat) (p : List V → Option V) (px : PTab) : PTab := fun k => cond (Nat.beq k f) (some p) (px k)
def consT (f : Nat) (g : List V → Heap → DT (V × Heap)) (ox : OTab) : OTab := fun k => cond (Nat.beq k f) (some g) (ox k)
def consO (f : Nat) (g : List V → Heap → Option (V × Heap)) (ox : OTab) : OTab := fun k => cond (Nat.beq k f) (some fun args h => leafO (g args h)) (ox k)
theorem TabX.addP {px : PTab} {ox : OTab} (h : TabX P px ox) {f : Nat} {p : List V → Option V} (hp : AnsO P f (gP p)) : TabX P (consP f p px) ox := by
  refine ⟨fun k q hq => ?_, h.o⟩
  unfold consP at hq
  cases hk : Nat.beq k f with
  | true => rw [hk] at hq; simp only [cond_true, Option.some.injEq] at hq; subst hq; rw [Nat.eq_of_beq_eq_true hk]; exact hp
  | false => rw [hk] at hq; exact h.p k q hq
theorem TabX.addT {px : PTab} {ox : OTab} (h : TabX P px ox) {f : Nat} {g : List V → Heap → DT (V × Heap)} (hg : AnsO P f (fun args h => (g args h).run)) : TabX P px (consT f g ox) := by
  refine ⟨h.p, fun k q hq => ?_⟩
  unfold consT at hq
  cases hk : Nat.beq k f with
  | true => rw [hk] at hq; simp only [cond_true, Option.some.injEq] at hq; subst hq; rw [Nat.eq_of_beq_eq_true hk]; exact hg
  | false => rw [hk] at hq; exact h.o k q hq
theorem TabX.addO {px : PTab} {ox : OTab} (h : TabX P px ox) {f : Nat} {g : List V → Heap → Option (V × Heap)} (hg : AnsO P f g) : TabX P px (consO f g ox) := by
  refine h.addT (g := fun args h => leafO (g args h)) ?_
  have : (fun args h => (leafO (g args h)).run) = g := by funext args h; exact run_leafO _
  rw [this]
  exact hg

/-- A function without loops, as its tree says. -/
theorem run_plain {α : Type} (hm : P.follows .mixedOrders = true) {px : PTab} {ox : OTab} (hT : TabX P px ox) {D : Nat → Option DF} (hD : Tab P D) {f : Nat} {d : DF} (hd : D f = some d) (hl : (loopsIn 0 d.body).isEmpty = true) {h : Heap}
    {orcs : Nat → Orc} {sts : Nat → List Nat} {n : Nat} {orc : Orc} {st : List Nat} {args : List V} {obs : V → Heap → α} {Q : α → Prop} {tree : DT α}
    (ht : funT (mkXT px ox) (mkXP px) (mkX px ox) D orcs sts n orc st noLt d args h obs = tree) (hs : tree.sat Q) : Run P f args h fun r h' => Q (obs r h') := by
  subst ht
  refine run_of hm (xtOk_mk px ox) (xpX_mk px ox) hT.ext hD hd (L := fun _ _ => False) (fun _ _ _ _ _ _ h => h.elim) (fun p hp => ?_) hs
  rw [List.isEmpty_iff] at hl
  rw [hl] at hp
  simp at hp
/-- A function, its loops round by round. -/
theorem run_plainU {α : Type} (hm : P.follows .mixedOrders = true) {px : PTab} {ox : OTab} (hT : TabX P px ox) {D : Nat → Option DF} (hD : Tab P D) {f : Nat} {d : DF} (hd : D f = some d) {h : Heap}
    {orcs : Nat → Orc} {sts : Nat → List Nat} {n : Nat} {orc : Orc} {st : List Nat} {args : List V} {obs : V → Heap → α} {Q : α → Prop} {tree : DT α}
    (ht : funT (mkXT px ox) (mkXP px) (mkX px ox) D orcs sts n orc st noLt d args h obs = tree) (hs : tree.sat Q) : Run P f args h fun r h' => Q (obs r h') := by
  subst ht
  exact run_of hm (xtOk_mk px ox) (xpX_mk px ox) hT.ext hD hd (lt := noLt) (L := fun _ _ => True) (fun _ _ _ _ _ _ _ _ _ _ _ _ h => absurd h (fun q => q)) (fun _ _ => trivial) hs
end
end Gw
