/- The order of a region's operations: what one order gives, each order gives. -/
import Derived.Test.YtkehghjhbfoooaaGreatDoorGxA3
noncomputable section
namespace Gw
set_option linter.unusedSimpArgs false
open Go

def Opd.tmps : Opd → List Nat
  | .tmp t => [t]
  | .cst _ => []
def opdsT : List Opd → List Nat
  | [] => []
  | x :: l => x.tmps ++ opdsT l
def optT : Option Opd → List Nat
  | none => []
  | some x => x.tmps
def partsT : List (Nat × Nat × Opd) → List Nat
  | [] => []
  | (_, _, x) :: l => x.tmps ++ partsT l

def PK.tmps : PK → List Nat
  | .mov x => x.tmps
  | .pick c a b => c.tmps ++ (a.tmps ++ b.tmps)
  | .build _ ps => partsT ps
  | .nilCheck x => x.tmps
  | .bin _ x y => x.tmps ++ y.tmps
  | .eq _ _ x y => x.tmps ++ y.tmps
  | .neg x => x.tmps
  | .not x => x.tmps
  | .xor x => x.tmps
  | .conv _ x => x.tmps
  | .isStr x => x.tmps
  | .mkI _ x => x.tmps
  | .mkF _ cs => opdsT cs
  | .slice _ x lo hi mx => x.tmps ++ (optT lo ++ (optT hi ++ optT mx))
  | .sliceS x lo hi => x.tmps ++ (optT lo ++ optT hi)
  | .fieldA _ x => x.tmps
  | .field _ _ _ x => x.tmps
  | .idxS _ x i => x.tmps ++ i.tmps
  | .idxA _ _ x i => x.tmps ++ i.tmps
  | .idxStr x i => x.tmps ++ i.tmps
  | .idxArr _ _ _ x i => x.tmps ++ i.tmps
  | .tassert _ _ _ x => x.tmps
  | .extract x _ => x.tmps
  | .len x => x.tmps
  | .lenStr x => x.tmps
  | .lenA _ => []
  | .cap x => x.tmps
  | .min x xs => x.tmps ++ opdsT xs
  | .max x xs => x.tmps ++ opdsT xs
  | .bad => []
def RK.tmps : RK → List Nat
  | .ld x => x.tmps
  | .ldN _ x => x.tmps
  | .b2s x => x.tmps
  | .r2s x => x.tmps
  | .lk _ m k => m.tmps ++ k.tmps
def AK.tmps : AK → List Nat
  | .alloc _ => []
  | .box x => x.tmps
  | .bslice _ _ _ ps => partsT ps
  | .s2b x => x.tmps
  | .mkslice _ _ _ l c => l.tmps ++ c.tmps
  | .iter x => x.tmps
  | .mkmap => []
def EK.tmps : EK → List Nat
  | .store _ a x => a.tmps ++ x.tmps
  | .call f args => f.tmps ++ opdsT args
  | .append _ _ s x => s.tmps ++ x.tmps
  | .appendZ _ _ _ s x => s.tmps ++ x.tmps
  | .copy _ d s => d.tmps ++ s.tmps
  | .clear _ _ x => x.tmps
  | .next x => x.tmps
  | .froz x => x.tmps
  | .insert m k x => m.tmps ++ (k.tmps ++ x.tmps)
def K.tmps : K → List Nat
  | .p k => k.tmps
  | .r k => k.tmps
  | .a _ k => k.tmps
  | .e k => k.tmps
def DOp.looks (o : DOp) : List Nat := (match o.g with | some (j, _) => [j] | none => []) ++ o.k.tmps

/-- Two rows of slots that agree on some. -/
def Agree (l : List Nat) (t u : List V) : Prop := ∀ i ∈ l, nth t i = nth u i

theorem Agree.left {l m : List Nat} {t u : List V} (h : Agree (l ++ m) t u) : Agree l t u := fun i hi => h i (List.mem_append_left m hi)
theorem Agree.right {l m : List Nat} {t u : List V} (h : Agree (l ++ m) t u) : Agree m t u := fun i hi => h i (List.mem_append_right l hi)

theorem ag_opd {x : Opd} {t u : List V} (h : Agree x.tmps t u) : x.ev t = x.ev u := by
  cases x with
  | tmp i => exact h i (by simp [Opd.tmps])
  | cst v => rfl
theorem ag_opds {t u : List V} : ∀ {l : List Opd}, Agree (opdsT l) t u → evs t l = evs u l
  | [], _ => rfl
  | x :: l, h => by simp only [evs]; rw [ag_opd h.left, ag_opds h.right]
theorem ag_opt {t u : List V} : ∀ {x : Option Opd}, Agree (optT x) t u → evO t x = evO u x
  | none, _ => rfl
  | some x, h => by simp only [evO]; rw [ag_opd h]
theorem ag_parts {t u : List V} : ∀ {l : List (Nat × Nat × Opd)}, Agree (partsT l) t u → evP t l = evP u l
  | [], _ => rfl
  | (_, _, x) :: l, h => by simp only [evP]; rw [ag_opd h.left, ag_parts h.right]

theorem ag_p {k : PK} {t u : List V} (h : Agree k.tmps t u) : k.ev t = k.ev u := by
  cases k <;> simp only [PK.ev, PK.tmps] at h ⊢
  case mov x => rw [ag_opd h]
  case pick c a b => rw [ag_opd h.left, ag_opd h.right.left, ag_opd h.right.right]
  case build z ps => rw [ag_parts h]
  case nilCheck x => rw [ag_opd h]
  case bin op x y => rw [ag_opd h.left, ag_opd h.right]
  case eq c n x y => rw [ag_opd h.left, ag_opd h.right]
  case neg x => rw [ag_opd h]
  case not x => rw [ag_opd h]
  case xor x => rw [ag_opd h]
  case conv k x => rw [ag_opd h]
  case isStr x => rw [ag_opd h]
  case mkI ty x => rw [ag_opd h]
  case mkF f cs => rw [ag_opds h]
  case slice e x lo hi mx => rw [ag_opd h.left, ag_opt h.right.left, ag_opt h.right.right.left, ag_opt h.right.right.right]
  case sliceS x lo hi => rw [ag_opd h.left, ag_opt h.right.left, ag_opt h.right.right]
  case fieldA off x => rw [ag_opd h]
  case field off sz g x => rw [ag_opd h]
  case idxS e x i => rw [ag_opd h.left, ag_opd h.right]
  case idxA n e x i => rw [ag_opd h.left, ag_opd h.right]
  case idxStr x i => rw [ag_opd h.left, ag_opd h.right]
  case idxArr n sz g x i => rw [ag_opd h.left, ag_opd h.right]
  case tassert ty z ok x => rw [ag_opd h]
  case extract x i => rw [ag_opd h]
  case len x => rw [ag_opd h]
  case lenStr x => rw [ag_opd h]
  case cap x => rw [ag_opd h]
  case min x xs => rw [ag_opd h.left, ag_opds h.right]
  case max x xs => rw [ag_opd h.left, ag_opds h.right]
theorem ag_r {k : RK} {t u : List V} (h : Agree k.tmps t u) : k.res t = k.res u := by
  cases k <;> simp only [RK.res, RK.tmps] at h ⊢
  case ld x => rw [ag_opd h]
  case ldN n x => rw [ag_opd h]
  case b2s x => rw [ag_opd h]
  case r2s x => rw [ag_opd h]
  case lk z m k => rw [ag_opd h.left, ag_opd h.right]
theorem ag_a {k : AK} {t u : List V} {id : Nat} (h : Agree k.tmps t u) : k.mk t id = k.mk u id := by
  cases k <;> simp only [AK.mk, AK.tmps] at h ⊢
  case box x => rw [ag_opd h]
  case bslice e zs n ps => rw [ag_parts h]
  case s2b x => rw [ag_opd h]
  case mkslice e b z l c => rw [ag_opd h.left, ag_opd h.right]
  case iter x => rw [ag_opd h]
theorem ag_e {k : EK} {cl : Cl} {t u : List V} {h' : Heap} (h : Agree k.tmps t u) : k.run cl t h' = k.run cl u h' := by
  cases k <;> simp only [EK.run, EK.tmps] at h ⊢
  case store n a x => rw [ag_opd h.left, ag_opd h.right]
  case call f args => rw [ag_opd h.left, ag_opds h.right]
  case append e b s x => rw [ag_opd h.left, ag_opd h.right]
  case appendZ e b z s x => rw [ag_opd h.left, ag_opd h.right]
  case copy e d s => rw [ag_opd h.left, ag_opd h.right]
  case clear e z x => rw [ag_opd h]
  case next x => rw [ag_opd h]
  case froz x => rw [ag_opd h]
  case insert m k x => rw [ag_opd h.left, ag_opd h.right.left, ag_opd h.right.right]

/-- What an operation does, its answer apart. -/
def actK (cl : Cl) (b : Nat) (o : DOp) (t : List V) (h : Heap) (w : Nat → Option (RV × V)) : K → Option (V × Heap × (Nat → Option (RV × V)))
  | .p k => (k.ev t).map fun v => (v, h, w)
  | .r k => (k.res t).bind fun r => (r.rd h).map fun v => (v, h, if o.wt then wset w o.i (r, v) else w)
  | .a sl k => match h.get (b + sl) with
    | none => if b + sl < h.n then (k.mk t (b + sl)).map fun p => (p.2, h.put (b + sl) (some p.1), w) else none
    | some _ => none
  | .e k => (k.run cl t h).bind fun p => cond (okW w p.2 o.cs) (some (p.1, p.2, w)) none
def act (cl : Cl) (b : Nat) (o : DOp) (t : List V) (h : Heap) (w : Nat → Option (RV × V)) : Option (V × Heap × (Nat → Option (RV × V))) :=
  cond (gok o.g t) (cond (wantD o.g t) (actK cl b o t h w o.k) (some (undefV, h, w))) none

theorem step_act (cl : Cl) (b : Nat) (o : DOp) (s : RS) : stepOp cl b o s = (act cl b o s.t s.h s.w).map fun r => ⟨putD s.t o.dst r.1, r.2.1, r.2.2⟩ := by
  unfold stepOp act
  cases gok o.g s.t with
  | false => rfl
  | true =>
  simp only [cond_true]
  cases wantD o.g s.t with
  | false => rfl
  | true =>
    simp only [cond_true]
    cases o.k with
    | p k => simp only [stepK, actK]; cases k.ev s.t <;> rfl
    | r k =>
      simp only [stepK, actK]
      cases k.res s.t with
      | none => rfl
      | some r => simp only [Option.bind_some]; cases r.rd s.h <;> rfl
    | a sl k =>
      simp only [stepK, actK]
      cases s.h.get (b + sl) with
      | some x => rfl
      | none =>
        simp only
        split
        · cases k.mk s.t (b + sl) <;> rfl
        · rfl
    | e k =>
      simp only [stepK, actK]
      cases k.run cl s.t s.h with
      | none => rfl
      | some p => simp only [Option.bind_some]; cases okW s.w p.2 o.cs <;> rfl

theorem ag_want {g : Option (Nat × Bool)} {t u : List V} (h : Agree (match g with | some (j, _) => [j] | none => []) t u) : wantD g t = wantD g u := by
  cases g with
  | none => rfl
  | some p => obtain ⟨j, b⟩ := p; simp only [wantD]; rw [h j (by simp)]
theorem ag_gok {g : Option (Nat × Bool)} {t u : List V} (h : Agree (match g with | some (j, _) => [j] | none => []) t u) : gok g t = gok g u := by
  cases g with
  | none => rfl
  | some p => obtain ⟨j, b⟩ := p; simp only [gok]; rw [h j (by simp)]

theorem ag_act {cl : Cl} {b : Nat} {o : DOp} {t u : List V} {h' : Heap} {w : Nat → Option (RV × V)} (h : Agree o.looks t u) : act cl b o t h' w = act cl b o u h' w := by
  unfold act
  rw [ag_want h.left, ag_gok h.left]
  cases gok o.g u with
  | false => rfl
  | true =>
  simp only [cond_true]
  cases wantD o.g u with
  | false => rfl
  | true =>
    simp only [cond_true]
    have hk := h.right
    cases ho : o.k with
    | p k => rw [ho] at hk; simp only [actK]; rw [ag_p hk]
    | r k => rw [ho] at hk; simp only [actK]; rw [ag_r hk]
    | a sl k => rw [ho] at hk; simp only [actK]; rw [ag_a hk]
    | e k => rw [ho] at hk; simp only [actK]; rw [ag_e hk]

theorem nth_upd_ne : ∀ (t : List V) (d i : Nat) (v : V), i ≠ d → nth (upd t d v) i = nth t i
  | [], _, _, _, _ => rfl
  | _ :: _, 0, 0, _, h => absurd rfl h
  | _ :: _, 0, _ + 1, _, _ => rfl
  | _ :: _, _ + 1, 0, _, _ => rfl
  | _ :: t, d + 1, i + 1, v, h => nth_upd_ne t d i v (by omega)
theorem upd_comm : ∀ (t : List V) (d e : Nat) (u v : V), d ≠ e → upd (upd t d u) e v = upd (upd t e v) d u
  | [], _, _, _, _, _ => rfl
  | _ :: _, 0, 0, _, _, h => absurd rfl h
  | _ :: _, 0, _ + 1, _, _, _ => rfl
  | _ :: _, _ + 1, 0, _, _, _ => rfl
  | x :: t, d + 1, e + 1, u, v, h => by simp only [upd_succ]; rw [upd_comm t d e u v (by omega)]

theorem ag_put {l : List Nat} {t : List V} {d : Option Nat} {v : V} (h : ∀ x, d = some x → x ∉ l) : Agree l (putD t d v) t := by
  intro i hi
  cases d with
  | none => rfl
  | some d => exact nth_upd_ne t d i v (fun e => h d rfl (e ▸ hi))

theorem putD_comm {t : List V} {d e : Option Nat} {u v : V} (h : ∀ x, d = some x → e ≠ some x) : putD (putD t d u) e v = putD (putD t e v) d u := by
  cases d with
  | none => rfl
  | some d =>
    cases e with
    | none => rfl
    | some e => exact upd_comm t d e u v (fun x => h d rfl (by rw [x]))

/-- Which of two operations may be taken in another order than x, y. -/
inductive Cls where
  | p | r | a | e
  deriving DecidableEq
def K.cls : K → Cls
  | .p _ => .p
  | .r _ => .r
  | .a _ _ => .a
  | .e _ => .e

def okPair (x y : DOp) : Bool :=
  match x.k.cls, y.k.cls with
  | .p, _ => true
  | _, .p => true
  | .r, .r => true
  | .r, .a => true
  | .r, .e => x.wt && y.cs.contains x.i
  | .a, .a => true
  | .e, .a => true
  | _, _ => false
def apartD (x y : DOp) : Bool :=
  (match x.dst with
  | some d => !y.looks.contains d && y.dst != some d
  | none => true) &&
  (match y.dst with
  | some d => !x.looks.contains d
  | none => true)
def slotOk (o : DOp) : Bool :=
  match o.k with
  | .a s _ => s == o.i
  | _ => true

/-- x, then y: the same as y, then x. -/
theorem act_swap {cl : Cl} (hcl : FrC cl) {b : Nat} {x y : DOp} (hp : okPair x y = true) (hi : x.i ≠ y.i) (sx : slotOk x = true) (sy : slotOk y = true) {t : List V} {h : Heap} {w : Nat → Option (RV × V)}
    (fw : w x.i = none) (fy : ∀ s k, y.k = .a s k → Free h (b + s)) {v1 v2 : V} {h1 h2 : Heap} {w1 w2 : Nat → Option (RV × V)}
    (e1 : act cl b x t h w = some (v1, h1, w1)) (e2 : act cl b y t h1 w1 = some (v2, h2, w2)) :
    ∃ h1' w1', act cl b y t h w = some (v2, h1', w1') ∧ act cl b x t h1' w1' = some (v1, h2, w2) := by
  unfold act at e1 e2 ⊢
  cases hgx : gok x.g t with
  | false => rw [hgx] at e1; cases e1
  | true =>
  rw [hgx] at e1
  cases hgy : gok y.g t with
  | false => rw [hgy] at e2; cases e2
  | true =>
  rw [hgy] at e2
  simp only [cond_true] at e1 e2 ⊢
  cases hwx : wantD x.g t with
  | false =>
    rw [hwx] at e1
    simp only [cond_false, Option.some.injEq, Prod.mk.injEq] at e1
    obtain ⟨rfl, rfl, rfl⟩ := e1
    exact ⟨h2, w2, e2, rfl⟩
  | true =>
    rw [hwx] at e1
    simp only [cond_true] at e1 ⊢
    cases hwy : wantD y.g t with
    | false =>
      rw [hwy] at e2
      simp only [cond_false, Option.some.injEq, Prod.mk.injEq] at e2
      obtain ⟨rfl, rfl, rfl⟩ := e2
      exact ⟨h, w, rfl, e1⟩
    | true =>
      rw [hwy] at e2
      simp only [cond_true] at e2 ⊢
      cases hx : x.k with
      | p kx =>
        rw [hx] at e1
        simp only [actK, Option.map_eq_some_iff, Prod.mk.injEq] at e1
        obtain ⟨v, hv, rfl, rfl, rfl⟩ := e1
        exact ⟨h2, w2, e2, by simp only [actK, hv, Option.map_some]⟩
      | r kx =>
        rw [hx] at e1
        simp only [actK, Option.map_eq_some_iff, Option.bind_eq_some_iff, Prod.mk.injEq] at e1
        obtain ⟨r, hr, v, hv, rfl, rfl, rfl⟩ := e1
        cases hy : y.k with
        | p ky =>
          rw [hy] at e2
          simp only [actK, Option.map_eq_some_iff, Prod.mk.injEq] at e2
          obtain ⟨u, hu, rfl, rfl, rfl⟩ := e2
          exact ⟨h, w, by simp only [actK, hu, Option.map_some], by simp only [actK, hr, hv, Option.bind_some, Option.map_some]⟩
        | r ky =>
          rw [hy] at e2
          simp only [actK, Option.map_eq_some_iff, Option.bind_eq_some_iff, Prod.mk.injEq] at e2
          obtain ⟨r', hr', u, hu, rfl, rfl, rfl⟩ := e2
          refine ⟨h, if y.wt then wset w y.i (r', u) else w, by simp only [actK, hr', hu, Option.bind_some, Option.map_some], ?_⟩
          simp only [actK, hr, hv, Option.bind_some, Option.map_some, Option.some.injEq, Prod.mk.injEq, true_and]
          cases x.wt <;> cases y.wt <;> simp only [Bool.false_eq_true, if_true, if_false]
          funext j
          simp only [wset]
          by_cases hj : j = x.i
          · subst hj; simp [hi]
          · simp [hj]
        | a s ky =>
          have hfree := fy s ky hy
          rw [hy] at e2
          simp only [actK, hfree.1, hfree.2, if_true, Option.map_eq_some_iff, Prod.mk.injEq] at e2
          obtain ⟨p, hpp, rfl, rfl, rfl⟩ := e2
          have hv' : r.rd (h.put (b + s) (some p.1)) = some v := fr_rd r h v hv (b + s) (some p.1) hfree
          exact ⟨h.put (b + s) (some p.1), w, by simp only [actK, hfree.1, hfree.2, if_true, hpp, Option.map_some], by simp only [actK, hr, hv', Option.bind_some, Option.map_some]⟩
        | e ky =>
          have hp' : x.wt = true ∧ x.i ∈ y.cs := by
            unfold okPair at hp
            rw [hx, hy] at hp
            simp only [K.cls, Bool.and_eq_true, List.contains_iff_mem] at hp
            exact hp
          rw [hy] at e2
          simp only [actK, hp'.1, if_true, Option.bind_eq_some_iff] at e2
          obtain ⟨⟨u, h3⟩, hrun, hok⟩ := e2
          cases hokw : okW (wset w x.i (r, v)) h3 y.cs with
          | false => simp only [hokw] at hok; cases hok
          | true =>
            simp only [hokw, cond_true, Option.some.injEq, Prod.mk.injEq] at hok
            obtain ⟨rfl, rfl, rfl⟩ := hok
            have hstab : ∀ cs : List Nat, okW (wset w x.i (r, v)) h3 cs = true → okW w h3 cs = true ∧ (x.i ∈ cs → r.rd h3 = some v) := by
              intro cs
              induction cs with
              | nil => intro _; exact ⟨rfl, fun h => by simp at h⟩
              | cons j l ih =>
                intro ho
                simp only [okW, Bool.and_eq_true] at ho ⊢
                obtain ⟨g1, g2⟩ := ih ho.2
                by_cases hj : j = x.i
                · subst hj
                  have ho1 := ho.1
                  simp only [wset, if_true] at ho1
                  refine ⟨⟨by rw [fw], g1⟩, fun _ => ?_⟩
                  cases hrd : r.rd h3 with
                  | none => rw [hrd] at ho1; cases ho1
                  | some q => rw [hrd] at ho1; rw [V.eq_of_beq _ _ ho1]
                · have ho1 := ho.1
                  simp only [wset, hj, if_false] at ho1
                  refine ⟨⟨ho1, g1⟩, fun hm => ?_⟩
                  rcases List.mem_cons.1 hm with hm | hm
                  · exact absurd hm.symm hj
                  · exact g2 hm
            obtain ⟨q1, q2⟩ := hstab y.cs hokw
            refine ⟨h3, w, by simp only [actK, hrun, Option.bind_some, q1, cond_true], ?_⟩
            simp only [actK, hr, q2 hp'.2, Option.bind_some, Option.map_some, hp'.1, if_true]
      | a sl kx =>
        rw [hx] at e1
        cases hgx : h.get (b + sl) with
        | some q => simp only [actK, hgx] at e1; cases e1
        | none =>
          simp only [actK, hgx] at e1
          split at e1
          case isFalse => cases e1
          rename_i hlt
          simp only [Option.map_eq_some_iff, Prod.mk.injEq] at e1
          obtain ⟨p, hpp, rfl, rfl, rfl⟩ := e1
          cases hy : y.k with
          | p ky =>
            rw [hy] at e2
            simp only [actK, Option.map_eq_some_iff, Prod.mk.injEq] at e2
            obtain ⟨u, hu, rfl, rfl, rfl⟩ := e2
            exact ⟨h, w, by simp only [actK, hu, Option.map_some], by simp only [actK, hgx, hlt, if_true, hpp, Option.map_some]⟩
          | a s ky =>
            have hfree := fy s ky hy
            have hne : sl ≠ s := by
              simp only [slotOk, hx, beq_iff_eq] at sx
              simp only [slotOk, hy, beq_iff_eq] at sy
              omega
            have hne' : b + s ≠ b + sl := by omega
            rw [hy] at e2
            simp only [actK, Heap.get_put_ne _ _ _ _ hne', Heap.put_n, hfree.1, hfree.2, if_true, Option.map_eq_some_iff, Prod.mk.injEq] at e2
            obtain ⟨q, hq, rfl, rfl, rfl⟩ := e2
            refine ⟨h.put (b + s) (some q.1), w, by simp only [actK, hfree.1, hfree.2, if_true, hq, Option.map_some], ?_⟩
            simp only [actK, Heap.get_put_ne _ _ _ _ (Ne.symm hne'), hgx, Heap.put_n, hlt, if_true, hpp, Option.map_some, Option.some.injEq, Prod.mk.injEq, true_and, and_true]
            exact Heap.put_comm _ _ _ _ _ hne'
          | r ky => simp [okPair, hx, hy, K.cls] at hp
          | e ky => simp [okPair, hx, hy, K.cls] at hp
      | e kx =>
        rw [hx] at e1
        simp only [actK, Option.bind_eq_some_iff] at e1
        obtain ⟨⟨u, h3⟩, hrun, hok⟩ := e1
        cases hokw : okW w h3 x.cs with
        | false => simp only [hokw] at hok; cases hok
        | true =>
          simp only [hokw, cond_true, Option.some.injEq, Prod.mk.injEq] at hok
          obtain ⟨rfl, rfl, rfl⟩ := hok
          cases hy : y.k with
          | p ky =>
            rw [hy] at e2
            simp only [actK, Option.map_eq_some_iff, Prod.mk.injEq] at e2
            obtain ⟨u', hu, rfl, rfl, rfl⟩ := e2
            exact ⟨h, w, by simp only [actK, hu, Option.map_some], by simp only [actK, hrun, Option.bind_some, hokw, cond_true]⟩
          | a s ky =>
            have hfree := fy s ky hy
            rw [hy] at e2
            cases hg3 : h3.get (b + s) with
            | some q => simp only [actK, hg3] at e2; cases e2
            | none =>
              simp only [actK, hg3] at e2
              split at e2
              case isFalse => cases e2
              simp only [Option.map_eq_some_iff, Prod.mk.injEq] at e2
              obtain ⟨q, hq, rfl, rfl, rfl⟩ := e2
              obtain ⟨f1, f2⟩ := fr_eff hcl t kx h u h3 hrun (b + s) (some q.1) hfree
              have f1' : kx.run cl t (h.put (b + s) (some q.1)) = some (u, h3.put (b + s) (some q.1)) := f1
              refine ⟨h.put (b + s) (some q.1), w, by simp only [actK, hfree.1, hfree.2, if_true, hq, Option.map_some], ?_⟩
              simp only [actK, f1', Option.bind_some, fr_okW f2 x.cs hokw, cond_true]
          | r ky => simp [okPair, hx, hy, K.cls] at hp
          | e ky => simp [okPair, hx, hy, K.cls] at hp

/-- What holds of the operations that are still to come. -/
def ToCome (b : Nat) (l : List DOp) (s : RS) : Prop := ∀ o ∈ l, s.w o.i = none ∧ ∀ sl k, o.k = .a sl k → Free s.h (b + sl)

theorem ToCome.step {cl : Cl} (hcl : FrC cl) {b : Nat} {x : DOp} {l : List DOp} {s s1 : RS} (h : ToCome b (x :: l) s) (hs : stepOp cl b x s = some s1) (hx : ∀ o ∈ l, o.i ≠ x.i) (sx : slotOk x = true) (sl : ∀ o ∈ l, slotOk o = true) : ToCome b l s1 := by
  intro o ho
  obtain ⟨h1, h2⟩ := h o (List.mem_cons_of_mem x ho)
  refine ⟨?_, fun s' k hk => ?_⟩
  · have hne := hx o ho
    rw [step_act] at hs
    simp only [Option.map_eq_some_iff] at hs
    obtain ⟨⟨v, h', w'⟩, ha, rfl⟩ := hs
    simp only
    unfold act at ha
    cases hgo : gok x.g s.t with
    | false => rw [hgo] at ha; cases ha
    | true =>
    rw [hgo] at ha
    simp only [cond_true] at ha
    cases hw : wantD x.g s.t with
    | false =>
      rw [hw] at ha
      simp only [cond_false, Option.some.injEq, Prod.mk.injEq] at ha
      rw [← ha.2.2]; exact h1
    | true =>
      rw [hw] at ha
      simp only [cond_true] at ha
      cases hk : x.k with
      | p k => rw [hk] at ha; simp only [actK, Option.map_eq_some_iff, Prod.mk.injEq] at ha; obtain ⟨_, _, _, _, rfl⟩ := ha; exact h1
      | r k =>
        rw [hk] at ha
        simp only [actK, Option.map_eq_some_iff, Option.bind_eq_some_iff, Prod.mk.injEq] at ha
        obtain ⟨_, _, _, _, _, _, rfl⟩ := ha
        cases x.wt
        · exact h1
        · simp only [if_true, wset, hne, if_false]; exact h1
      | a sl k =>
        rw [hk] at ha
        simp only [actK] at ha
        split at ha
        · split at ha
          · simp only [Option.map_eq_some_iff, Prod.mk.injEq] at ha; obtain ⟨_, _, _, _, rfl⟩ := ha; exact h1
          · cases ha
        · cases ha
      | e k =>
        rw [hk] at ha
        simp only [actK, Option.bind_eq_some_iff] at ha
        obtain ⟨p, _, ha⟩ := ha
        cases ho : okW s.w p.2 x.cs with
        | false => rw [ho] at ha; cases ha
        | true => rw [ho] at ha; simp only [cond_true, Option.some.injEq, Prod.mk.injEq] at ha; rw [← ha.2.2]; exact h1
  · refine (fr_stepOp hcl b x s s1 hs (b + s') none (h2 s' k hk) fun sl' k' hk' => ?_).2
    have q1 : sl' = x.i := by simpa [slotOk, hk'] using sx
    have q2 : s' = o.i := by simpa [slotOk, hk] using sl o ho
    have := hx o ho
    omega

/-- An operation is drawn to the front, past others that it does not hang on. -/
theorem run_front {cl : Cl} (hcl : FrC cl) {b : Nat} {y : DOp} (sy : slotOk y = true) : ∀ (l1 l2 : List DOp) (s e : RS), (∀ x ∈ l1, okPair x y = true ∧ apartD x y = true ∧ x.i ≠ y.i ∧ slotOk x = true) → (l1 ++ y :: l2).Pairwise (fun p q => p.i ≠ q.i) → (∀ o ∈ l1 ++ y :: l2, slotOk o = true) →
    ToCome b (l1 ++ y :: l2) s → runOps cl b (l1 ++ y :: l2) s = some e → ∃ s1, stepOp cl b y s = some s1 ∧ runOps cl b (l1 ++ l2) s1 = some e
  | [], l2, s, e, _, _, _, _, h => by
    simp only [List.nil_append, runOps, Option.bind_eq_some_iff] at h
    exact h
  | x :: l1, l2, s, e, hok, hpw, hso, hc, h => by
    simp only [List.cons_append, runOps, Option.bind_eq_some_iff] at h
    obtain ⟨s1, hs1, hr⟩ := h
    have hpw' := hpw
    rw [List.cons_append, List.pairwise_cons] at hpw'
    have hc1 : ToCome b (l1 ++ y :: l2) s1 := hc.step hcl hs1 (fun o ho => Ne.symm (hpw'.1 o ho)) (hso x (by simp)) (fun o ho => hso o (List.mem_cons_of_mem _ ho))
    obtain ⟨s2, hs2, hr2⟩ := run_front hcl sy l1 l2 s1 e (fun z hz => hok z (by simp [hz])) hpw'.2 (fun o ho => hso o (List.mem_cons_of_mem _ ho)) hc1 hr
    obtain ⟨hp, hap, hne, hsx⟩ := hok x (by simp)
    -- x, then y
    rw [step_act] at hs1 hs2
    simp only [Option.map_eq_some_iff] at hs1 hs2
    obtain ⟨⟨v1, h1, w1⟩, e1, rfl⟩ := hs1
    obtain ⟨⟨v2, h2, w2⟩, e2, rfl⟩ := hs2
    simp only at e2 hr2 hc1
    simp only [apartD, Bool.and_eq_true] at hap
    have ay : Agree y.looks (putD s.t x.dst v1) s.t := ag_put fun d hd => by
      have := hap.1; rw [hd] at this
      simp only [Bool.and_eq_true, Bool.not_eq_true', bne_iff_ne] at this
      intro hm
      have := this.1
      rw [List.contains_iff_mem.2 hm] at this; cases this
    have ax : Agree x.looks (putD s.t y.dst v2) s.t := ag_put fun d hd => by
      have := hap.2; rw [hd] at this
      simp only [Bool.not_eq_true'] at this
      intro hm
      rw [List.contains_iff_mem.2 hm] at this; cases this
    have hd : ∀ d, x.dst = some d → y.dst ≠ some d := by
      intro d hd
      have := hap.1; rw [hd] at this
      simp only [Bool.and_eq_true, bne_iff_ne] at this
      exact this.2
    rw [ag_act ay] at e2
    have hcx := hc x (by simp)
    have hcy := hc y (by simp)
    obtain ⟨h1', w1', f1, f2⟩ := act_swap hcl hp hne hsx sy hcx.1 hcy.2 e1 e2
    refine ⟨⟨putD s.t y.dst v2, h1', w1'⟩, by rw [step_act]; simp only [f1, Option.map_some], ?_⟩
    simp only [List.cons_append, runOps]
    rw [step_act]
    simp only
    rw [ag_act ax, f2]
    simp only [Option.map_some, Option.bind_some]
    rw [← putD_comm hd]
    exact hr2

end Gw
