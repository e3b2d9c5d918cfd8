/- The frame: what succeeds in a memory succeeds, alike, beside one block more at a free place. -/
import Derived.Test.YtkehghjhbfoooaaGreatDoorGxA2
noncomputable section
namespace Gw
open Go

def Free (h : Heap) (i : Nat) : Prop := h.get i = none ∧ i < h.n

theorem Free.put {h : Heap} {i j : Nat} {b : Option Blk} (hf : Free h i) (hn : i ≠ j) : Free (h.put j b) i :=
  ⟨by rw [Heap.get_put_ne _ _ _ _ hn]; exact hf.1, hf.2⟩
theorem Free.up {h : Heap} {i k : Nat} (hf : Free h i) : Free (h.up k) i := ⟨hf.1, by simp only [Heap.up_n]; have := hf.2; omega⟩

/-- An answer with a memory, framed. -/
def FrM {α : Type} (F : Heap → Option (α × Heap)) : Prop :=
  ∀ h r h', F h = some (r, h') → ∀ i b, Free h i → F (h.put i b) = some (r, h'.put i b) ∧ Free h' i
def FrH (F : Heap → Option Heap) : Prop :=
  ∀ h h', F h = some h' → ∀ i b, Free h i → F (h.put i b) = some (h'.put i b) ∧ Free h' i
def FrR {α : Type} (F : Heap → Option α) : Prop :=
  ∀ h r, F h = some r → ∀ i b, Free h i → F (h.put i b) = some r

theorem get_ne {h : Heap} {i id : Nat} {x : Blk} (hf : Free h i) (hg : h.get id = some x) : id ≠ i := by
  intro e; subst e; rw [hf.1] at hg; cases hg

theorem fr_rowOf (id : Nat) : FrR fun h => rowOf h id := by
  intro h r hr i b hf
  simp only [rowOf] at hr ⊢
  cases hg : h.get id with
  | none => rw [hg] at hr; cases hr
  | some x => rw [Heap.get_put_ne _ _ _ _ (get_ne hf hg), hg]; rw [hg] at hr; exact hr
theorem fr_rowW (id : Nat) : FrR fun h => rowW h id := by
  intro h r hr i b hf
  simp only [rowW] at hr ⊢
  cases hg : h.get id with
  | none => rw [hg] at hr; cases hr
  | some x => rw [Heap.get_put_ne _ _ _ _ (get_ne hf hg), hg]; rw [hg] at hr; exact hr

theorem rowW_ne {h : Heap} {i id : Nat} {l : List V} (hf : Free h i) (hr : rowW h id = some l) : id ≠ i := by
  simp only [rowW] at hr
  cases hg : h.get id with
  | none => rw [hg] at hr; cases hr
  | some x => exact get_ne hf hg

theorem fr_mapOf (id : Nat) : FrR fun h => mapOf h id := by
  intro h r hr i b hf
  simp only [mapOf] at hr ⊢
  cases hg : h.get id with
  | none => rw [hg] at hr; cases hr
  | some x => rw [Heap.get_put_ne _ _ _ _ (get_ne hf hg), hg]; rw [hg] at hr; exact hr

theorem FrR.bind {α β : Type} {F : Heap → Option α} (hF : FrR F) (g : α → Option β) : FrR fun h => (F h).bind g := by
  intro h r hr i b hf
  simp only at hr ⊢
  cases ha : F h with
  | none => simp [ha] at hr
  | some a => rw [hF h a ha i b hf]; simpa [ha] using hr
theorem FrR.map {α β : Type} {F : Heap → Option α} (hF : FrR F) (g : α → β) : FrR fun h => (F h).map g := by
  intro h r hr i b hf
  simp only at hr ⊢
  cases ha : F h with
  | none => simp [ha] at hr
  | some a => rw [hF h a ha i b hf]; simpa [ha] using hr
theorem FrR.const {α : Type} (x : Option α) : FrR fun _ => x := fun _ _ hr _ _ _ => hr

theorem fr_rdN (id off n : Nat) : FrR fun h => rdN h id off n := by
  unfold rdN
  split
  · exact FrR.const _
  · exact (fr_rowOf id).bind _

theorem fr_rd (r : RV) : FrR r.rd := by
  cases r with
  | ld id off => exact (fr_rowOf id).bind _
  | ldN id off n => exact (fr_rdN id off n).map _
  | b2s id off n => exact (fr_rdN id off n).bind _
  | r2s id off n => exact (fr_rdN id off n).bind _
  | lk z id k n => exact (fr_mapOf id).bind _
  | nos => exact FrR.const _

theorem fr_added (esz : Nat) (x : V) : FrR fun h => addedV h esz x := by
  unfold addedV
  cases x <;> try exact FrR.const _
  simp only
  split
  · exact (fr_rdN _ _ _).map _
  · exact FrR.const _

theorem fr_wrN (id off : Nat) (vs : List V) : FrH fun h => wrN h id off vs := by
  intro h h' hr i b hf
  simp only [wrN] at hr ⊢
  split at hr
  · rename_i ho
    rw [if_pos ho]
    cases hw : rowW h id with
    | none => simp [hw] at hr
    | some l =>
      have hne := rowW_ne hf hw
      have hh : rowW (h.put i b) id = some l := fr_rowW id h l hw i b hf
      rw [hh]
      rw [hw] at hr
      simp only [Option.bind_some] at hr ⊢
      cases hp : putAt l off vs with
      | none => simp [hp] at hr
      | some l' =>
        simp only [hp, Option.map_some, Option.some.injEq] at hr ⊢
        subst hr
        exact ⟨Heap.put_comm _ _ _ _ _ (Ne.symm hne), hf.put (Ne.symm hne)⟩
  · cases hr

theorem fr_store (n : Nat) (a x : V) : FrH fun h => storeV n a x h := by
  unfold storeV
  cases a <;> try (intro h h' hr; cases hr)
  simp only
  split
  · exact fr_wrN _ _ _
  · intro h h' hr; cases hr

theorem FrH.mapV {F : Heap → Option Heap} (hF : FrH F) {α : Type} (v : α) : FrM fun h => (F h).map fun h => (v, h) := by
  intro h r h' hr i b hf
  simp only at hr ⊢
  cases ha : F h with
  | none => simp [ha] at hr
  | some a =>
    simp only [ha, Option.map_some, Option.some.injEq, Prod.mk.injEq] at hr
    obtain ⟨rfl, rfl⟩ := hr
    obtain ⟨h1, h2⟩ := hF h a ha i b hf
    exact ⟨by rw [h1]; rfl, h2⟩
theorem FrM.none {α : Type} : FrM fun _ => (Option.none : Option (α × Heap)) := fun _ _ _ hr => by cases hr
theorem FrM.same {α : Type} (v : α) : FrM fun h => some (v, h) := by
  intro h r h' hr i b hf
  simp only [Option.some.injEq, Prod.mk.injEq] at hr
  obtain ⟨rfl, rfl⟩ := hr
  exact ⟨rfl, hf⟩
theorem FrR.bindM {α β : Type} {F : Heap → Option α} (hF : FrR F) {g : α → Heap → Option (β × Heap)} (hg : ∀ a, FrM (g a)) : FrM fun h => (F h).bind fun a => g a h := by
  intro h r h' hr i b hf
  simp only at hr ⊢
  cases ha : F h with
  | none => simp [ha] at hr
  | some a =>
    rw [hF h a ha i b hf]
    simp only [ha, Option.bind_some] at hr ⊢
    exact hg a h r h' hr i b hf

/-- A new block behind all. -/
theorem fr_new {α : Type} (v : Nat → α) (x : Blk) : FrM fun h => some (v h.n, (h.put h.n (some x)).up 1) := by
  intro h r h' hr i b hf
  simp only [Option.some.injEq, Prod.mk.injEq] at hr
  obtain ⟨rfl, rfl⟩ := hr
  have hn : i ≠ h.n := by have := hf.2; omega
  refine ⟨?_, (hf.put hn).up⟩
  simp only [Heap.put_n, Heap.put_up, Option.some.injEq, Prod.mk.injEq, true_and]
  rw [Heap.put_comm _ _ _ _ _ hn]

theorem fr_append (esz bytes : Nat) (s : V) (vs : List V) (n : Nat) : FrM fun h => appendV h esz bytes s vs n := by
  unfold appendV
  split
  · cases s <;> try exact FrM.none
    · simp only
      split
      · exact FrM.same _
      · split
        · exact fr_new (fun k => V.slice k 0 n esz none) _
        · exact FrM.none
    · rename_i id off len e cap
      simp only
      split
      · split
        · exact FrM.same _
        · split
          · cases cap with
            | some c =>
              simp only
              split
              · exact (fr_wrN _ _ _).mapV _
              · intro h r h' hr i b hf
                simp only at hr ⊢
                cases ha : rdN h id off (len * esz) with
                | none => simp [ha] at hr
                | some old =>
                  have hh : rdN (h.put i b) id off (len * esz) = some old := fr_rdN _ _ _ h old ha i b hf
                  rw [hh]
                  simp only [ha, Option.map_some] at hr ⊢
                  exact fr_new (fun k => V.slice k 0 (len + n) esz none) (.cells false (old ++ vs)) h r h' hr i b hf
            | none =>
              intro h r h' hr i b hf
              simp only at hr ⊢
              cases hw : rowW h id with
              | none => simp [hw] at hr
              | some l =>
                have hne := rowW_ne hf hw
                have hh : rowW (h.put i b) id = some l := fr_rowW id h l hw i b hf
                rw [hh]
                simp only [hw, Option.bind_some] at hr ⊢
                cases hc : cellsAt l off (len * esz) with
                | none => simp [hc] at hr
                | some old =>
                  simp only [hc, Option.map_some, Option.some.injEq, Prod.mk.injEq] at hr ⊢
                  obtain ⟨rfl, rfl⟩ := hr
                  have hn : i ≠ h.n := by have := hf.2; omega
                  refine ⟨⟨rfl, ?_⟩, ((hf.put (Ne.symm hne)).put hn).up⟩
                  simp only [Heap.put_n, Heap.put_up]
                  rw [Heap.put_comm h i id _ _ (Ne.symm hne), Heap.put_comm _ i h.n _ _ hn]
          · exact FrM.none
      · exact FrM.none
  · exact FrM.none

theorem FrR.bindH {α : Type} {F : Heap → Option α} (hF : FrR F) {g : α → Heap → Option Heap} (hg : ∀ a, FrH (g a)) {β : Type} (v : β) : FrM fun h => (F h).bind fun a => (g a h).map fun h => (v, h) :=
  hF.bindM fun a => (hg a).mapV v

theorem fr_copy (esz : Nat) (d s : V) : FrM fun h => copyV h esz d s := by
  unfold copyV
  cases d <;> try exact FrM.none
  · cases s <;> simp only <;> first | exact FrM.none | exact FrM.same _ | (split <;> first | exact FrM.same _ | exact FrM.none)
  · simp only
    split
    · cases s <;> simp only <;> try exact FrM.none
      · split
        · split
          · exact FrM.same _
          · exact (fr_wrN _ _ _).mapV _
        · exact FrM.none
      · exact FrM.same _
      · split
        · split
          · exact FrM.same _
          · exact (fr_rdN _ _ _).bindH (fun vs => fr_wrN _ _ vs) _
        · exact FrM.none
    · exact FrM.none

theorem fr_clear (esz : Nat) (z : List V) (x : V) : FrH fun h => clearV h esz z x := by
  unfold clearV
  have hsame : FrH fun h => some h := by
    intro h h' hr i b hf
    simp only [Option.some.injEq] at hr; subst hr
    exact ⟨rfl, hf⟩
  have hnone : FrH fun _ => none := fun _ _ hr => by cases hr
  cases x <;> simp only <;> try first | exact hsame | exact hnone
  split
  · split
    · exact hsame
    · exact fr_wrN _ _ _
  · exact hnone

theorem fr_next (x : V) : FrM fun h => nextV h x := by
  unfold nextV
  cases x <;> try exact FrM.none
  rename_i id off
  cases off with
  | succ o => exact FrM.none
  | zero =>
    simp only
    intro h r h' hr i b hf
    simp only at hr ⊢
    cases hg : h.get id with
    | none => simp [hg] at hr
    | some x =>
      have hne := get_ne hf hg
      rw [Heap.get_put_ne _ _ _ _ hne, hg]
      rw [hg] at hr
      cases x with
      | cells ro l => simp at hr
      | mp es => simp at hr
      | dead => simp at hr
      | obj y => simp at hr
      | iter s pos =>
        simp only at hr ⊢
        split at hr
        · rename_i hlt
          simp only [Option.some.injEq, Prod.mk.injEq] at hr
          obtain ⟨rfl, rfl⟩ := hr
          rw [if_pos hlt]
          exact ⟨by rw [Heap.put_comm _ _ _ _ _ (Ne.symm hne)], hf.put (Ne.symm hne)⟩
        · rename_i hlt
          simp only [Option.some.injEq, Prod.mk.injEq] at hr
          obtain ⟨rfl, rfl⟩ := hr
          rw [if_neg hlt]
          exact ⟨rfl, hf⟩

theorem fr_froz (x : V) : FrM fun h => frozV h x := by
  unfold frozV
  cases x <;> try exact FrM.none
  simp only
  split
  · intro h r h' hr i b hf
    simp only at hr ⊢
    rename_i id off n e c _
    cases hw : rowW h id with
    | none => simp [hw] at hr
    | some l =>
      have hh : rowW (h.put i b) id = some l := fr_rowW id h l hw i b hf
      rw [hh]
      simp only [hw, Option.map_some, Option.some.injEq, Prod.mk.injEq] at hr ⊢
      obtain ⟨rfl, rfl⟩ := hr
      exact ⟨⟨rfl, rfl⟩, hf⟩
  · exact FrM.none

theorem fr_insert (m k x : V) : FrH fun h => insertV h m k x := by
  have hnone : FrH fun _ => none := fun _ _ hr => by cases hr
  unfold insertV
  cases m <;> try exact hnone
  cases k <;> try exact hnone
  rename_i id kd n
  intro h h' hr i b hf
  simp only at hr ⊢
  cases hm : mapOf h id with
  | none => simp [hm] at hr
  | some es =>
    have hh : mapOf (h.put i b) id = some es := fr_mapOf id h es hm i b hf
    have hne : id ≠ i := by
      simp only [mapOf] at hm
      cases hg : h.get id with
      | none => rw [hg] at hm; cases hm
      | some y => exact get_ne hf hg
    rw [hh]
    rw [hm] at hr
    simp only [Option.bind_some] at hr ⊢
    cases hfe : findE kd n es with
    | none => rw [hfe] at hr; cases hr
    | some o =>
      rw [hfe] at hr
      cases o with
      | some v => cases hr
      | none =>
        simp only [Option.some.injEq] at hr ⊢
        subst hr
        exact ⟨by rw [Heap.put_comm _ _ _ _ _ (Ne.symm hne)], hf.put (Ne.symm hne)⟩

def FrC (cl : Cl) : Prop := ∀ f args, FrM (cl f args)

theorem fr_eff {cl : Cl} (hcl : FrC cl) (t : List V) (k : EK) : FrM fun h => k.run cl t h := by
  cases k with
  | store n a x => exact (fr_store _ _ _).mapV _
  | call f args =>
    simp only [EK.run, callV]
    cases f.ev t <;> simp only <;> first | exact hcl _ _ | exact FrM.none
  | append e b s x => exact (fr_added _ _).bindM fun p => fr_append _ _ _ _ _
  | appendZ e b z s x =>
    simp only [EK.run]
    cases x.ev t <;> simp only <;> try exact FrM.none
    split
    · exact fr_append _ _ _ _ _
    · exact FrM.none
  | copy e d s => exact fr_copy _ _ _
  | clear e z x => exact (fr_clear _ _ _).mapV _
  | next x => exact fr_next _
  | froz x => exact fr_froz _
  | insert m k x => exact (fr_insert _ _ _).mapV _

theorem fr_okW {w : Nat → Option (RV × V)} {h : Heap} {i : Nat} {b : Option Blk} (hf : Free h i) : ∀ cs, okW w h cs = true → okW w (h.put i b) cs = true := by
  intro cs
  induction cs with
  | nil => intro _; rfl
  | cons j l ih =>
    intro ho
    simp only [okW, Bool.and_eq_true] at ho ⊢
    refine ⟨?_, ih ho.2⟩
    have h1 := ho.1
    cases hw : w j with
    | none => rfl
    | some p =>
      obtain ⟨r, x⟩ := p
      rw [hw] at h1
      simp only at h1 ⊢
      cases hr : r.rd h with
      | none => rw [hr] at h1; cases h1
      | some y =>
        have hh : r.rd (h.put i b) = some y := fr_rd r h y hr i b hf
        rw [hh]; rw [hr] at h1; exact h1

def RS.put (s : RS) (i : Nat) (b : Option Blk) : RS := ⟨s.t, s.h.put i b, s.w⟩

theorem fr_stepK {cl : Cl} (hcl : FrC cl) (b : Nat) (o : DOp) (s s' : RS) (k : K) (hs : stepK cl b o s k = some s') (i : Nat) (x : Option Blk)
    (hf : Free s.h i) (hk : ∀ sl ak, k = .a sl ak → i ≠ b + sl) : stepK cl b o (s.put i x) k = some (s'.put i x) ∧ Free s'.h i := by
  cases k with
  | p k =>
    simp only [stepK, RS.put] at hs ⊢
    cases hv : k.ev s.t with
    | none => simp [hv] at hs
    | some v =>
      simp only [hv, Option.bind_some, Option.some.injEq] at hs ⊢
      subst hs; exact ⟨rfl, hf⟩
  | r k =>
    simp only [stepK, RS.put] at hs ⊢
    cases hv : k.res s.t with
    | none => simp [hv] at hs
    | some r =>
      simp only [hv, Option.bind_some] at hs ⊢
      cases hr : r.rd s.h with
      | none => simp [hr] at hs
      | some v =>
        have hh : r.rd (s.h.put i x) = some v := fr_rd r _ v hr i x hf
        rw [hh]
        simp only [hr, Option.bind_some, Option.some.injEq] at hs ⊢
        subst hs; exact ⟨rfl, hf⟩
  | a sl k =>
    have hne := hk sl k rfl
    simp only [stepK, RS.put] at hs ⊢
    rw [Heap.get_put_ne _ _ _ _ (Ne.symm hne)]
    cases hg : s.h.get (b + sl) with
    | some y => rw [hg] at hs; cases hs
    | none =>
      rw [hg] at hs
      simp only [Heap.put_n] at hs ⊢
      by_cases hlt : b + sl < s.h.n
      · simp only [hlt, if_true] at hs ⊢
        cases hm : k.mk s.t (b + sl) with
        | none => simp [hm] at hs
        | some p =>
          simp only [hm, Option.bind_some, Option.some.injEq] at hs ⊢
          subst hs
          exact ⟨by rw [Heap.put_comm _ _ _ _ _ hne], hf.put hne⟩
      · simp [hlt] at hs
  | e k =>
    obtain ⟨t, h, w⟩ := s
    simp only [stepK, RS.put] at hs hf ⊢
    cases hr : k.run cl t h with
    | none => simp [hr] at hs
    | some p =>
      obtain ⟨v, h'⟩ := p
      obtain ⟨h1, h2⟩ := fr_eff hcl t k h v h' hr i x hf
      have h1' : k.run cl t (h.put i x) = some (v, h'.put i x) := h1
      rw [h1']
      rw [hr] at hs
      simp only [Option.bind_some] at hs ⊢
      cases ho : okW w h' o.cs with
      | true =>
        rw [ho] at hs
        rw [fr_okW h2 _ ho]
        simp only [cond_true, Option.some.injEq] at hs ⊢
        subst hs; exact ⟨rfl, h2⟩
      | false => rw [ho] at hs; cases hs

theorem fr_stepOp {cl : Cl} (hcl : FrC cl) (b : Nat) (o : DOp) (s s' : RS) (hs : stepOp cl b o s = some s') (i : Nat) (x : Option Blk)
    (hf : Free s.h i) (hk : ∀ sl ak, o.k = .a sl ak → i ≠ b + sl) : stepOp cl b o (s.put i x) = some (s'.put i x) ∧ Free s'.h i := by
  obtain ⟨t, h, w⟩ := s
  simp only [stepOp, RS.put] at hs hf ⊢
  cases hgo : gok o.g t with
  | false => rw [hgo] at hs; cases hs
  | true =>
  rw [hgo] at hs
  simp only [cond_true] at hs ⊢
  cases hw : wantD o.g t with
  | true => rw [hw] at hs; exact fr_stepK hcl b o ⟨t, h, w⟩ s' o.k hs i x hf hk
  | false =>
    rw [hw] at hs
    simp only [cond_false, Option.some.injEq] at hs ⊢
    subst hs
    exact ⟨rfl, hf⟩

theorem fr_runOps {cl : Cl} (hcl : FrC cl) (b : Nat) : ∀ (l : List DOp) (s s' : RS), runOps cl b l s = some s' → ∀ (i : Nat) (x : Option Blk),
    Free s.h i → i < b → runOps cl b l (s.put i x) = some (s'.put i x) ∧ Free s'.h i := by
  intro l
  induction l with
  | nil =>
    intro s s' hs i x hf _
    simp only [runOps, Option.some.injEq] at hs ⊢
    subst hs; exact ⟨rfl, hf⟩
  | cons o l ih =>
    intro s s' hs i x hf hi
    simp only [runOps] at hs ⊢
    cases h1 : stepOp cl b o s with
    | none => simp [h1] at hs
    | some s1 =>
      obtain ⟨g1, g2⟩ := fr_stepOp hcl b o s s1 h1 i x hf (fun sl _ _ => by omega)
      rw [g1]
      simp only [h1, Option.bind_some] at hs ⊢
      exact ih s1 s' hs i x g2 hi

def St.put (s : St) (i : Nat) (b : Option Blk) : St := ⟨s.t, s.h.put i b⟩

def FrS (F : St → Option (Ex × St)) : Prop := ∀ s e s', F s = some (e, s') → ∀ i b, Free s.h i → F (s.put i b) = some (e, s'.put i b) ∧ Free s'.h i

theorem fr_reg {cl : Cl} (hcl : FrC cl) (n : Nat) (ops : List DOp) (s s' : St) (hs : regV cl n ops s = some s') (i : Nat) (b : Option Blk) (hf : Free s.h i) :
    regV cl n ops (s.put i b) = some (s'.put i b) ∧ Free s'.h i := by
  simp only [regV] at hs ⊢
  cases hr : runOps cl s.h.n ops ⟨s.t, s.h.up n, fun _ => none⟩ with
  | none => simp [hr] at hs
  | some r =>
    obtain ⟨g1, g2⟩ := fr_runOps hcl s.h.n ops _ r hr i b hf.up hf.2
    simp only [hr, Option.map_some, Option.some.injEq] at hs
    subst hs
    refine ⟨?_, g2⟩
    have : (⟨(s.put i b).t, (s.put i b).h.up n, fun _ => none⟩ : RS) = RS.put ⟨s.t, s.h.up n, fun _ => none⟩ i b := rfl
    rw [this]
    show (runOps cl s.h.n ops _).map _ = _
    rw [g1]
    rfl

theorem fr_loopN {F : St → Option (Ex × St)} (hF : FrS F) : ∀ n, FrS (loopN F n) := by
  intro n
  induction n with
  | zero => intro s e s' hs; cases hs
  | succ n ih =>
    intro s e s' hs i b hf
    simp only [loopN] at hs ⊢
    cases h1 : F s with
    | none => simp [h1] at hs
    | some p =>
      obtain ⟨e1, s1⟩ := p
      obtain ⟨g1, g2⟩ := hF s e1 s1 h1 i b hf
      rw [g1]
      simp only [h1, Option.bind_some] at hs ⊢
      cases e1 with
      | normal => exact ih s1 e s' hs i b g2
      | exit j => simp only [Option.some.injEq, Prod.mk.injEq] at hs ⊢; obtain ⟨rfl, rfl⟩ := hs; exact ⟨⟨rfl, rfl⟩, g2⟩
      | ret => simp only [Option.some.injEq, Prod.mk.injEq] at hs ⊢; obtain ⟨rfl, rfl⟩ := hs; exact ⟨⟨rfl, rfl⟩, g2⟩

theorem fr_evC {cl : Cl} (hcl : FrC cl) {lp : Lp} (hlp : ∀ k c F, FrS F → FrS (lp k c F)) : ∀ c k, FrS (evC cl lp k c) := by
  intro c
  induction c with
  | skip => intro k s e s' hs i b hf; simp only [evC, Option.some.injEq, Prod.mk.injEq] at hs ⊢; obtain ⟨rfl, rfl⟩ := hs; exact ⟨⟨rfl, rfl⟩, hf⟩
  | reg n ops =>
    intro k s e s' hs i b hf
    simp only [evC] at hs ⊢
    cases hr : regV cl n ops s with
    | none => simp [hr] at hs
    | some s1 =>
      obtain ⟨g1, g2⟩ := fr_reg hcl n ops s s1 hr i b hf
      rw [g1]
      simp only [hr, Option.map_some, Option.some.injEq, Prod.mk.injEq] at hs ⊢
      obtain ⟨rfl, rfl⟩ := hs
      exact ⟨⟨rfl, rfl⟩, g2⟩
  | seq x y ihx ihy =>
    intro k s e s' hs i b hf
    simp only [evC] at hs ⊢
    cases h1 : evC cl lp k x s with
    | none => simp [h1] at hs
    | some p =>
      obtain ⟨e1, s1⟩ := p
      obtain ⟨g1, g2⟩ := ihx k s e1 s1 h1 i b hf
      rw [g1]
      simp only [h1, Option.bind_some] at hs ⊢
      cases e1 with
      | normal => exact ihy k s1 e s' hs i b g2
      | exit j => simp only [Option.some.injEq, Prod.mk.injEq] at hs ⊢; obtain ⟨rfl, rfl⟩ := hs; exact ⟨⟨rfl, rfl⟩, g2⟩
      | ret => simp only [Option.some.injEq, Prod.mk.injEq] at hs ⊢; obtain ⟨rfl, rfl⟩ := hs; exact ⟨⟨rfl, rfl⟩, g2⟩
  | cond c x y ihx ihy =>
    intro k s e s' hs i b hf
    have key : (∃ t, c.ev s.t = .bool t) := by
      simp only [evC] at hs
      cases hc : c.ev s.t <;> rw [hc] at hs <;> first | exact ⟨_, rfl⟩ | cases hs
    obtain ⟨t, hc⟩ := key
    have hc' : c.ev (s.put i b).t = .bool t := hc
    simp only [evC] at hs ⊢
    rw [hc] at hs; rw [hc']
    cases t
    · exact ihy k s e s' hs i b hf
    · exact ihx k s e s' hs i b hf
  | block id x ih =>
    intro k s e s' hs i b hf
    simp only [evC] at hs ⊢
    cases h1 : evC cl lp id x s with
    | none => simp [h1] at hs
    | some p =>
      obtain ⟨e1, s1⟩ := p
      obtain ⟨g1, g2⟩ := ih id s e1 s1 h1 i b hf
      rw [g1]
      simp only [h1, Option.map_some, Option.some.injEq] at hs ⊢
      cases e1 with
      | normal => simp only [Prod.mk.injEq] at hs ⊢; obtain ⟨rfl, rfl⟩ := hs; exact ⟨⟨rfl, rfl⟩, g2⟩
      | ret => simp only [Prod.mk.injEq] at hs ⊢; obtain ⟨rfl, rfl⟩ := hs; exact ⟨⟨rfl, rfl⟩, g2⟩
      | exit j =>
        simp only at hs ⊢
        by_cases hj : j = id
        · simp only [hj, if_true, Prod.mk.injEq] at hs ⊢; obtain ⟨rfl, rfl⟩ := hs; exact ⟨⟨rfl, rfl⟩, g2⟩
        · simp only [hj, if_false, Prod.mk.injEq] at hs ⊢; obtain ⟨rfl, rfl⟩ := hs; exact ⟨⟨rfl, rfl⟩, g2⟩
  | loop x ih => intro k; exact hlp _ _ _ (ih k)
  | exit j => intro k s e s' hs i b hf; simp only [evC, Option.some.injEq, Prod.mk.injEq] at hs ⊢; obtain ⟨rfl, rfl⟩ := hs; exact ⟨⟨rfl, rfl⟩, hf⟩
  | ret => intro k s e s' hs i b hf; simp only [evC, Option.some.injEq, Prod.mk.injEq] at hs ⊢; obtain ⟨rfl, rfl⟩ := hs; exact ⟨⟨rfl, rfl⟩, hf⟩

theorem fr_res (t : List V) (r : Res) : FrR fun h => r.get t h := by
  cases r with
  | tmp i => exact FrR.const _
  | c1 i =>
    simp only [Res.get]
    cases nth t i <;> simp only <;> first | exact FrR.const _ | exact (fr_rowOf _).bind _
  | cN i n =>
    simp only [Res.get]
    cases nth t i <;> simp only <;> first | exact FrR.const _ | exact (fr_rdN _ _ _).map _
theorem fr_resL (t : List V) : ∀ rs, FrR fun h => resL t h rs := by
  intro rs
  induction rs with
  | nil => exact FrR.const _
  | cons r l ih =>
    intro h x hr i b hf
    simp only [resL] at hr ⊢
    cases h1 : r.get t h with
    | none => simp [h1] at hr
    | some v =>
      have hh : r.get t (h.put i b) = some v := fr_res t r h v h1 i b hf
      rw [hh]
      simp only [h1, Option.bind_some] at hr ⊢
      exact ih.map _ h x hr i b hf

theorem fr_runF {cl : Cl} (hcl : FrC cl) {lp : Lp} (hlp : ∀ k c F, FrS F → FrS (lp k c F)) (d : DF) (args : List V) : FrM (runF cl lp d args) := by
  intro h r h' hr i b hf
  simp only [runF] at hr ⊢
  cases h1 : evC cl lp 0 d.body (enterV d args h) with
  | none => simp [h1] at hr
  | some p =>
    obtain ⟨e, s⟩ := p
    obtain ⟨g1, g2⟩ := fr_evC hcl hlp d.body 0 _ e s h1 i b hf
    have : enterV d args (h.put i b) = (enterV d args h).put i b := rfl
    rw [this, g1]
    simp only [h1, Option.bind_some] at hr ⊢
    cases e with
    | exit j => simp [leaveV] at hr
    | normal =>
      simp only [leaveV, resV] at hr ⊢
      cases h2 : resL s.t s.h d.res with
      | none => simp [h2] at hr
      | some l =>
        have : resL (s.put i b).t (s.put i b).h d.res = some l := fr_resL s.t d.res s.h l h2 i b g2
        rw [this]
        simp only [h2, Option.map_some, Option.some.injEq, Prod.mk.injEq] at hr ⊢
        obtain ⟨rfl, rfl⟩ := hr
        exact ⟨⟨rfl, rfl⟩, g2⟩
    | ret =>
      simp only [leaveV, resV] at hr ⊢
      cases h2 : resL s.t s.h d.res with
      | none => simp [h2] at hr
      | some l =>
        have : resL (s.put i b).t (s.put i b).h d.res = some l := fr_resL s.t d.res s.h l h2 i b g2
        rw [this]
        simp only [h2, Option.map_some, Option.some.injEq, Prod.mk.injEq] at hr ⊢
        obtain ⟨rfl, rfl⟩ := hr
        exact ⟨⟨rfl, rfl⟩, g2⟩

theorem fr_callN {X : Ext} (hX : ∀ f g, X f = some g → ∀ args, FrM (g args)) (D : Nat → Option DF) : ∀ n, FrC (callN X D n) := by
  intro n
  induction n with
  | zero => intro f args h r h' hr; cases hr
  | succ n ih =>
    intro f args h r h' hr i b hf
    simp only [callN] at hr ⊢
    cases hx : X f with
    | some g => rw [hx] at hr; exact hX f g hx args h r h' hr i b hf
    | none =>
      rw [hx] at hr
      simp only at hr ⊢
      cases hd : D f with
      | none => simp [hd] at hr
      | some d =>
        simp only [hd, Option.bind_some] at hr ⊢
        exact fr_runF ih (fun _ _ F hF => fr_loopN hF (n + 400)) (lp := lpN n) d args h r h' hr i b hf

end Gw
