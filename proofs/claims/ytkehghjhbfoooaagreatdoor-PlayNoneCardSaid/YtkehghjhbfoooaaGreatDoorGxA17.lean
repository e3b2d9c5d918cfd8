/- One operation of a region, in the machine and in the model. Code, compiled. -/
import Derived.Test.YtkehghjhbfoooaaGreatDoorGxA15
import Derived.Test.YtkehghjhbfoooaaGreatDoorGxA16
import Derived.Orders
noncomputable section
namespace Gw
open Go Go.RowKit

/-- What is before an operation, as bits. -/
def maskOf (acc : List Nat) : List Edge → Nat
  | [] => 0
  | e :: l => if Region.binds .any e then (2 ^ e.on ||| acc.getD e.on 0) ||| maskOf acc l else maskOf acc l
def befs : List Oper → List Nat → List Nat
  | [], acc => acc
  | o :: l, acc => befs l (acc ++ [maskOf acc o.after.toList])

theorem maskOf_bit {acc : List Nat} : ∀ {l : List Edge} {j : Nat}, (maskOf acc l).testBit j = true ↔ ∃ e ∈ l, Region.binds .any e = true ∧ (j = e.on ∨ (acc.getD e.on 0).testBit j = true)
  | [], j => by simp [maskOf]
  | e :: l, j => by
    simp only [maskOf]
    by_cases hb : Region.binds .any e = true
    · rw [if_pos hb, Nat.testBit_or, Nat.testBit_or, Nat.testBit_two_pow]
      simp only [Bool.or_eq_true, decide_eq_true_eq, List.mem_cons, exists_eq_or_imp, maskOf_bit (acc := acc) (l := l) (j := j)]
      constructor
      · rintro ((h | h) | h)
        · exact .inl ⟨hb, .inl h.symm⟩
        · exact .inl ⟨hb, .inr h⟩
        · exact .inr h
      · rintro (⟨_, h | h⟩ | h)
        · exact .inl (.inl h.symm)
        · exact .inl (.inr h)
        · exact .inr h
    · rw [if_neg hb]
      simp only [List.mem_cons, exists_eq_or_imp, maskOf_bit (acc := acc) (l := l) (j := j)]
      constructor
      · exact fun h => .inr h
      · rintro (⟨h, _⟩ | h)
        · exact absurd h hb
        · exact h

theorem befs_spec : ∀ (l : List Oper) (acc : List Nat), ∃ r, befs l acc = acc ++ r ∧ r.length = l.length ∧ ∀ (i : Nat) (o : Oper), l[i]? = some o → (befs l acc)[acc.length + i]? = some (maskOf ((befs l acc).take (acc.length + i)) o.after.toList)
  | [], acc => ⟨[], by simp [befs], rfl, fun i o h => by simp at h⟩
  | o :: l, acc => by
    obtain ⟨r, h1, h2, h3⟩ := befs_spec l (acc ++ [maskOf acc o.after.toList])
    refine ⟨maskOf acc o.after.toList :: r, by simp only [befs]; rw [h1]; simp, by simp [h2], fun i p hp => ?_⟩
    simp only [befs]
    cases i with
    | zero =>
      simp only [List.getElem?_cons_zero, Option.some.injEq] at hp; subst hp
      rw [h1]; simp
    | succ i =>
      simp only [List.getElem?_cons_succ] at hp
      have := h3 i p hp
      simp only [List.length_append, List.length_cons, List.length_nil] at this
      rw [show acc.length + (i + 1) = acc.length + (0 + 1) + i by omega]
      exact this

/-- The bits of the operation at a place: its own edges, and what is before those. -/
theorem befs_bit {ops : List Oper} {i j : Nat} {o : Oper} (ho : ops[i]? = some o) (hlt : ∀ e ∈ o.after.toList, Region.binds .any e = true → e.on < i) :
    ((befs ops []).getD i 0).testBit j = true ↔ ∃ e ∈ o.after.toList, Region.binds .any e = true ∧ (j = e.on ∨ ((befs ops []).getD e.on 0).testBit j = true) := by
  obtain ⟨r, h1, h2, h3⟩ := befs_spec ops []
  have h4 := h3 i o ho
  simp only [List.length_nil, Nat.zero_add] at h4
  have e1 : (befs ops []).getD i 0 = maskOf ((befs ops []).take i) o.after.toList := by simp [List.getD, h4]
  rw [e1, maskOf_bit]
  constructor
  · rintro ⟨e, he, hb, h⟩
    refine ⟨e, he, hb, ?_⟩
    rcases h with h | h
    · exact .inl h
    · refine .inr ?_
      have := hlt e he hb
      simpa [List.getD, List.getElem?_take, this] using h
  · rintro ⟨e, he, hb, h⟩
    refine ⟨e, he, hb, ?_⟩
    rcases h with h | h
    · exact .inl h
    · refine .inr ?_
      have := hlt e he hb
      simpa [List.getD, List.getElem?_take, this] using h

/-- Two operations, the first one taken first. -/
def relB (M : List Nat) (x y : DOp) : Bool :=
  x.i != y.i && !(M.getD x.i 0).testBit y.i && ((M.getD y.i 0).testBit x.i || (okPair x y && apartD x y))

def chkPairs (M : List Nat) : List DOp → Bool
  | [] => true
  | x :: l => l.all (relB M x) && !(M.getD x.i 0).testBit x.i && chkPairs M l

def edgesOk : List Oper → Nat → Bool
  | [], _ => true
  | o :: l, i => (o.after.toList.all fun e => !Region.binds .any e || decide (e.on < i)) && edgesOk l (i + 1)

/-- The readings that an effect may turn, and the readings that an effect may turn. -/
def watches (P : Program) (ops : Array Oper) (M : List Nat) (i : Nat) (earlier : List Nat) : List Nat :=
  match (ops[i]?).bind (cOp P) with
  | some (.e _) => earlier.filter fun j => !(M.getD i 0).testBit j && (match (ops[j]?).bind (cOp P) with | some (.r _) => true | _ => false)
  | _ => []
def orderW (P : Program) (ops : Array Oper) (M : List Nat) : List Nat → List Nat → List (Nat × List Nat)
  | [], _ => []
  | i :: l, earlier => (i, watches P ops M i earlier) :: orderW P ops M l (i :: earlier)
def withW (l : List (Nat × List Nat)) : List (Nat × Bool × List Nat) := l.map fun (i, cs) => (i, l.any fun (_, ds) => ds.contains i, cs)

/-- A region whose order is drawn: 'ord' is the order in which the machine goes. -/
def cDraw (P : Program) (ops : Array Oper) (ord : List Nat) : Option DC :=
  let M := befs ops.toList []
  (cList P ops (withW (orderW P ops M ord []))).bind fun l =>
    if chkPairs M l && edgesOk ops.toList 0 && ((List.range ops.size).all fun i => l.any fun o => o.i == i) then some (.reg (roomOf ops.size l) l) else none

/-- Code; 'hint': for a region whose order is drawn, the order in which the machine goes. -/
def cCode (P : Program) (hint : Nat → List Nat) : Code → Option DC
  | .skip => some .skip
  | .region id ops draw => if draw then cDraw P ops (hint id) else cReg P ops
  | .seq a b => (cCode P hint a).bind fun a => (cCode P hint b).map fun b => .seq a b
  | .cond c a b => (cOpd c).bind fun c => (cCode P hint a).bind fun a => (cCode P hint b).map fun b => .cond c a b
  | .block id a => (cCode P hint a).map fun a => .block id a
  | .loop a => (cCode P hint a).map fun a => .loop a
  | .exit id => some (.exit id)
  | .ret => some .ret
  | _ => none

def cFn (P : Program) (hint : Nat → List Nat) (f : Func) : Option DF :=
  if f.name = "runtime.NumGoroutine" then none else
  f.body.bind fun b => (cCode P hint b).bind fun c => (cRes P f.results.toList).map fun r => ⟨f.ntmps, c, r⟩

section
variable {P : Program} {ρ : Rho} {B : Nat → Prop}

/-- Calls do what the machine's do. -/
def ClS (P : Program) (cl : Cl) : Prop := ∀ f args h r h', cl f args h = some (r, h') →
  (∃ fn, P.funcs[f]? = some fn ∧ fn.name ≠ "runtime.NumGoroutine" ∧ fn.body.isSome = true) ∧
  ∀ (B : Nat → Prop) (ρ : Rho) (xs : List Value) (w : World), GR ρ → VRs ρ args xs → HR B ρ h w →
    Calls P f xs.toArray w fun e w' => ∃ x ρ', e = .returned x ∧ Le ρ ρ' ∧ VR ρ' r x ∧ HR B ρ' h' w' ∧ Keeps B w w'

theorem cAt_inv {ops : Array Oper} {i : Nat} {wt : Bool} {cs : List Nat} {o : DOp} (h : cAt P ops i wt cs = some o) : ∃ r k g, ops[i]? = some r ∧ cOp P r = some k ∧ cGuard ops r.guard = some g ∧ o = { i := i, dst := r.dst, g := g, k := k.toK i, wt := wt, cs := cs } := by
  simp only [cAt, Option.bind_eq_some_iff, Option.map_eq_some_iff] at h
  obtain ⟨r, hr, k, hk, g, hg, rfl⟩ := h
  exact ⟨r, k, g, hr, hk, hg, rfl⟩

theorem wanted_eq {ops : Array Oper} {r : Oper} {g : Option (Nat × Bool)} {t : List V} {a : Act} (hg : cGuard ops r.guard = some g) (ht : TR ρ t a.tmps) : gok g t = true → Region.wanted r (yielded ops a.tmps) = wantD g t := by
  intro hgo
  unfold cGuard at hg
  split at hg
  · rename_i h; simp only [Option.some.injEq] at hg; subst hg; simp [Region.wanted, h, wantD]
  · rename_i j b h
    simp only [Option.map_eq_some_iff] at hg
    obtain ⟨d, hd, rfl⟩ := hg
    simp only [Region.wanted, h, wantD, yielded, hd, Option.bind_some]
    have hr := ht.nth d
    rw [Array.getD_eq_getD_getElem?] at hr
    cases hx : a.tmps[d]? with
    | none =>
      rw [hx] at hr
      simp only [Option.getD_none] at hr
      cases hv : nth t d <;> rw [hv] at hr <;> simp [VR, undef] at hr <;> simp
    | some x =>
      rw [hx] at hr
      simp only [Option.getD_some] at hr
      cases hv : nth t d <;> rw [hv] at hr <;> simp only [VR] at hr
      case bool c => subst hr; simp only; cases b <;> cases c <;> rfl
      case int => subst hr; rfl
      case str => subst hr; rfl
      case nilp => subst hr; rfl
      case ptr => obtain ⟨L, _, rfl⟩ := hr; rfl
      case nils => subst hr; rfl
      case slice => obtain ⟨L, k, rfl, _⟩ := hr; rfl
      case nilm => subst hr; rfl
      case map => obtain ⟨L, _, rfl⟩ := hr; rfl
      case nilf => subst hr; rfl
      case func => obtain ⟨L, rfl, _⟩ := hr; rfl
      case nili => subst hr; rfl
      case iface => obtain ⟨L, rfl, _⟩ := hr; rfl
      case agg => obtain ⟨L, rfl, _⟩ := hr; rfl
      case tup =>
        rcases hr with hr | ⟨L, rfl, _⟩
        · simp only [gok, hv, V.isAny, hr, Bool.not_true, Bool.false_eq_true] at hgo
        · rfl

/-- The machine's slots and memory stand for the model's. -/
structure RelR (B : Nat → Prop) (ρ : Rho) (t : List V) (h : Heap) (a : Act) (w : World) : Prop where
  gr : GR ρ
  tr : TR ρ t a.tmps
  hr : HR B ρ h w

theorem GR.mono {ρ ρ' : Rho} (h : GR ρ) (hl : Le ρ ρ') : GR ρ' := fun g hg => let ⟨z, hz⟩ := h g hg; ⟨z, hl _ _ hz⟩
theorem TR.mono {ρ ρ' : Rho} {t : List V} {a : Array Value} (h : TR ρ t a) (hl : Le ρ ρ') : TR ρ' t a := VRs.mono hl _ _ h

theorem put_defers (a : Act) (d : Option Nat) (v : Value) : (a.put d v).defers = a.defers := by cases d <;> rfl

/-- One operation. -/
theorem sd_step {cl : Cl} (hcl : ClS P cl) {ops : Array Oper} {i : Nat} {wt : Bool} {cs : List Nat} {o : DOp} {b : Nat} {s s1 : RS} {a : Act} {w : World} {K : Act → World → Prop} {Q : Exit → Act → World → Prop}
    (hc : cAt P ops i wt cs = some o) (hs : stepOp cl b o s = some s1) (R : RelR B ρ s.t s.h a w)
    (hK : ∀ ρ' a' w', Le ρ ρ' → RelR B ρ' s1.t s1.h a' w' → Keeps B w w' → a'.defers = a.defers → K a' w') : wpOp P ops Q i K a w := by
  obtain ⟨r, k, g, hr, hk, hgd, rfl⟩ := cAt_inv hc
  unfold wpOp
  rw [hr]
  simp only
  unfold stepOp at hs
  simp only at hs
  cases hgo : gok g s.t with
  | false => rw [hgo] at hs; cases hs
  | true =>
  rw [hgo] at hs
  simp only [cond_true] at hs
  rw [wanted_eq hgd R.tr hgo]
  cases hw : wantD g s.t with
  | false =>
    rw [hw] at hs
    simp only [cond_false, Option.some.injEq] at hs
    subst hs
    simp only [Bool.false_eq_true, if_false]
    exact hK ρ _ w (Le.refl _) ⟨R.gr, R.tr.put _ (VR.undef ρ), R.hr⟩ (Keeps.refl _ _) (put_defers _ _ _)
  | true =>
    rw [hw] at hs
    simp only [cond_true] at hs
    simp only [if_true]
    left
    unfold Oper.wp
    cases k with
    | p k =>
      simp only [Kc.toK, stepK, Option.bind_eq_some_iff, Option.some.injEq] at hs
      obtain ⟨v, hv, rfl⟩ := hs
      obtain ⟨x, hx, hrun⟩ := sd_p R.gr R.tr hk hv
      rw [hrun]
      exact hK ρ _ w (Le.refl _) ⟨R.gr, R.tr.put _ hx, R.hr⟩ (Keeps.refl _ _) (put_defers _ _ _)
    | r k =>
      simp only [Kc.toK, stepK, Option.bind_eq_some_iff, Option.some.injEq] at hs
      obtain ⟨rv, hrv, v, hv, rfl⟩ := hs
      obtain ⟨x, hx, hrun⟩ := sd_r R.gr R.tr R.hr hk hrv hv
      rw [hrun]
      exact hK ρ _ w (Le.refl _) ⟨R.gr, R.tr.put _ hx, R.hr⟩ (Keeps.refl _ _) (put_defers _ _ _)
    | a k =>
      simp only [Kc.toK, stepK] at hs
      cases hg0 : s.h.get (b + i) with
      | some q => rw [hg0] at hs; cases hs
      | none =>
        rw [hg0] at hs
        simp only at hs
        split at hs
        case isFalse => cases hs
        rename_i hlt
        simp only [Option.bind_eq_some_iff, Option.some.injEq] at hs
        obtain ⟨⟨bl, v⟩, hm, rfl⟩ := hs
        obtain ⟨x, w', ρ', hrun, hle, hx, hh, hb⟩ := sd_a R.gr R.tr R.hr hlt hg0 hk hm
        rw [hrun]
        exact hK ρ' _ w' hle ⟨R.gr.mono hle, (R.tr.mono hle).put _ hx, hh⟩ hb (put_defers _ _ _)
    | e k =>
      simp only [Kc.toK, stepK, Option.bind_eq_some_iff] at hs
      obtain ⟨⟨v, h'⟩, hrun, hs⟩ := hs
      cases hok : okW s.w h' cs with
      | false => simp only [hok, cond_false] at hs; cases hs
      | true =>
        simp only [hok, cond_true, Option.some.injEq] at hs
        subst hs
        cases hcall : k.isCall with
        | false =>
          obtain ⟨nx, w', ρ', hex, hnx, hle, hh, hb⟩ := sd_e R.gr R.tr R.hr hk hcall hrun
          rw [hex]
          rcases hnx with ⟨rfl, rfl⟩ | ⟨x, rfl, hx⟩
          · exact hK ρ' _ w' hle ⟨R.gr.mono hle, (R.tr.mono hle).put _ (VR.undef ρ'), hh⟩ hb (put_defers _ _ _)
          · exact hK ρ' _ w' hle ⟨R.gr.mono hle, (R.tr.mono hle).put _ hx, hh⟩ hb (put_defers _ _ _)
        | true =>
          -- a call
          have hcv : ∃ fo args, k = .call fo args ∧ ∃ c fn', r.op = .call c ∧ c.callee = .value fn' ∧ cOpd fn' = some fo ∧ cOpds c.args.toList = some args := by
            cases k with
            | call fo args =>
              refine ⟨fo, args, rfl, ?_⟩
              unfold cOp at hk
              split at hk <;> (try simp only [Option.map_eq_some_iff, Option.bind_eq_some_iff, reduceCtorEq, and_false, exists_false, Kc.e.injEq] at hk)
              · obtain ⟨_, _, hk⟩ := hk
                split at hk <;> simp only [Option.map_eq_some_iff, Option.bind_eq_some_iff, reduceCtorEq, and_false, exists_false] at hk
              · split at hk
                · simp only [Option.bind_eq_some_iff] at hk
                  obtain ⟨_, _, hk⟩ := hk
                  split at hk
                  · cases hk
                  · simp only [Option.map_eq_some_iff, Option.bind_eq_some_iff, reduceCtorEq, and_false, exists_false] at hk
                · cases hk
              · obtain ⟨_, _, _, _, hk⟩ := hk
                split at hk
                · simp only [Option.map_eq_some_iff, reduceCtorEq, and_false, exists_false] at hk
                · cases hk
              · obtain ⟨_, _, _, _, hk⟩ := hk
                unfold cBin at hk
                split at hk
                · split at hk <;> simp only [Option.map_eq_some_iff, reduceCtorEq, and_false, exists_false, Option.some.injEq] at hk
                · split at hk <;> simp only [Option.map_eq_some_iff, reduceCtorEq, and_false, exists_false, Option.some.injEq] at hk
                · simp only [Option.some.injEq, reduceCtorEq] at hk
              · obtain ⟨_, _, hk⟩ := hk
                split at hk <;> simp only [reduceCtorEq, Option.some.injEq] at hk
              · obtain ⟨_, _, hk⟩ := hk
                unfold cConv at hk
                split at hk <;> (try simp only [reduceCtorEq, Option.some.injEq] at hk)
                · split at hk <;> simp only [reduceCtorEq, Option.some.injEq] at hk
                · split at hk <;> simp only [reduceCtorEq, Option.some.injEq] at hk
                · split at hk
                  · split at hk <;> simp only [reduceCtorEq, Option.some.injEq, Kc.e.injEq] at hk
                  · cases hk
              · obtain ⟨_, _, hk⟩ := hk
                split at hk <;> simp only [reduceCtorEq, Option.some.injEq] at hk
              · split at hk
                · simp only [Option.map_eq_some_iff, reduceCtorEq, and_false, exists_false] at hk
                · cases hk
              · split at hk <;> simp only [reduceCtorEq, Option.some.injEq] at hk
              · obtain ⟨_, _, _, _, hk⟩ := hk
                split at hk
                · simp only [Option.bind_eq_some_iff] at hk
                  obtain ⟨_, _, _, _, hk⟩ := hk
                  split at hk
                  · cases hk
                  · simp only [Option.map_eq_some_iff, reduceCtorEq, and_false, exists_false] at hk
                · cases hk
              · obtain ⟨_, _, _, _, _, _, _, _, hk⟩ := hk
                unfold cSlice at hk
                split at hk
                · split at hk <;> simp only [reduceCtorEq, Option.some.injEq] at hk
                · simp only [Option.bind_eq_some_iff] at hk
                  obtain ⟨_, _, hk⟩ := hk
                  split at hk <;> simp only [reduceCtorEq, Option.some.injEq] at hk
                · cases hk
              · obtain ⟨_, _, _, _, hk⟩ := hk
                split at hk <;> simp only [reduceCtorEq, Option.some.injEq] at hk
              · obtain ⟨_, _, _, _, hk⟩ := hk
                split at hk
                · simp only [Option.bind_eq_some_iff] at hk
                  obtain ⟨_, _, hk⟩ := hk
                  split at hk <;> simp only [reduceCtorEq, Option.some.injEq] at hk
                · simp only [Option.bind_eq_some_iff] at hk
                  obtain ⟨_, _, hk⟩ := hk
                  split at hk <;> simp only [reduceCtorEq, Option.some.injEq] at hk
                · cases hk
              · obtain ⟨_, _, _, _, hk⟩ := hk
                split at hk <;> simp only [Option.map_eq_some_iff, Option.bind_eq_some_iff, reduceCtorEq, and_false, exists_false, Option.some.injEq] at hk
              · obtain ⟨_, _, _, _, hk⟩ := hk
                split at hk
                · split at hk
                  · simp only [Option.map_eq_some_iff, reduceCtorEq, and_false, exists_false] at hk
                  · cases hk
                · cases hk
              · obtain ⟨_, _, _, _, _, _, hk⟩ := hk
                split at hk
                · split at hk <;> simp only [reduceCtorEq, Option.some.injEq, Kc.e.injEq] at hk
                · cases hk
              · obtain ⟨_, _, hk⟩ := hk
                split at hk <;> simp only [reduceCtorEq, Option.some.injEq] at hk
              · obtain ⟨_, _, hk⟩ := hk
                split at hk <;> simp only [Option.map_eq_some_iff, reduceCtorEq, and_false, exists_false] at hk
              · simp only [reduceCtorEq, Option.some.injEq] at hk
              · rename_i c hop
                obtain ⟨args', hargs, hk⟩ := hk
                split at hk
                · rename_i f hf
                  simp only [Option.map_eq_some_iff, Kc.e.injEq, EK.call.injEq] at hk
                  obtain ⟨x, hx, rfl, rfl⟩ := hk
                  exact ⟨c, f, hop, hf, hx, hargs⟩
                · unfold cBuiltin at hk
                  split at hk
                  · simp only [Option.bind_eq_some_iff] at hk
                    obtain ⟨_, _, hk⟩ := hk
                    split at hk <;> simp only [reduceCtorEq, Option.some.injEq] at hk
                  · simp only [Option.bind_eq_some_iff] at hk
                    obtain ⟨_, _, hk⟩ := hk
                    split at hk <;> simp only [reduceCtorEq, Option.some.injEq] at hk
                  · simp only [Option.bind_eq_some_iff] at hk
                    obtain ⟨_, _, _, _, hk⟩ := hk
                    split at hk <;> simp only [Option.bind_eq_some_iff, reduceCtorEq] at hk <;> (obtain ⟨_, _, _, _, hk⟩ := hk; split at hk) <;> simp only [Option.map_eq_some_iff, reduceCtorEq, and_false, exists_false, Kc.e.injEq] at hk
                  · simp only [Option.bind_eq_some_iff] at hk
                    obtain ⟨_, _, hk⟩ := hk
                    split at hk <;> simp only [Option.bind_eq_some_iff, reduceCtorEq] at hk
                    obtain ⟨_, _, hk⟩ := hk
                    split at hk <;> simp only [reduceCtorEq, Option.some.injEq, Kc.e.injEq] at hk
                  · simp only [Option.bind_eq_some_iff] at hk
                    obtain ⟨_, _, hk⟩ := hk
                    split at hk <;> simp only [Option.bind_eq_some_iff, reduceCtorEq] at hk
                    obtain ⟨_, _, hk⟩ := hk
                    split at hk <;> simp only [Option.map_eq_some_iff, reduceCtorEq, and_false, exists_false, Kc.e.injEq] at hk
                  · simp only [reduceCtorEq, Option.some.injEq] at hk
                  · simp only [reduceCtorEq, Option.some.injEq] at hk
                  · cases hk
                · cases hk
            | _ => simp [EK.isCall] at hcall
          obtain ⟨fo, args, rfl, c, fn', hop, hcal, hfo, hargs⟩ := hcv
          simp only [EK.run] at hrun
          have rf := sd_opd R.gr R.tr hfo
          have rargs := sd_opds R.gr R.tr hargs
          unfold callV at hrun
          split at hrun
          case h_2 => cases hrun
          rename_i f cap hfe
          rw [hfe] at rf
          simp only [VR] at rf
          obtain ⟨ca, hfe', hcap⟩ := rf
          obtain ⟨⟨fn, hfn, hname, hbody⟩, hcalls⟩ := hcl f _ _ _ _ hrun
          have hex : (execOp a.eval r).run P w = .ok (.enter f (c.args.toList.map a.eval ++ ca).toArray) w := by
            have hn : (fn.name == "runtime.NumGoroutine") = false := by simpa using hname
            have hb : fn.body.isNone = false := by cases hbb : fn.body <;> simp [hbb] at hbody ⊢
            have harr : (c.args.map a.eval ++ ⟨ca⟩) = (c.args.toList.map a.eval ++ ca).toArray := by
              apply Array.ext'; simp
            simp only [execOp, hop, resolve, hcal, Deferred.ofValue, hfe', Sem.run_bind, Sem.run_pure, Result.andThen_ok, invoke, callFunc, run_program, hfn, hn, hb, Bool.false_eq_true, if_false]
            rw [← harr]
            simp
          rw [hex]
          simp only [Oper.upon]
          refine (hcalls B ρ _ w R.gr (rargs.append hcap) R.hr).mono ?_
          rintro e w' ⟨x, ρ', rfl, hle, hx, hh, hb⟩
          exact hK ρ' _ w' hle ⟨R.gr.mono hle, (R.tr.mono hle).put _ hx, hh⟩ hb (put_defers _ _ _)

end

end Gw
