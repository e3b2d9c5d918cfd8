/- Decisions as a tree: code is followed on values of which parts are unknown; what the tree says holds of the machine. -/
import Derived.Test.YtkehghjhbfoooaaGreatDoorGxT0
noncomputable section
namespace Gw
open Go

inductive DT (α : Type) where
  | fail
  | leaf (a : α)
  | node (c : Bool) (x y : DT α)
  | ob (p : Prop) (x : DT α)

/-- Whatever is decided, it comes to what is asked. -/
def DT.sat {α : Type} : DT α → (α → Prop) → Prop
  | .fail, _ => False
  | .leaf a, Q => Q a
  | .node c x y, Q => (c = true → x.sat Q) ∧ (c = false → y.sat Q)
  | .ob p x, Q => p ∧ x.sat Q

theorem DT.sat_mono {α : Type} : ∀ {d : DT α} {P Q : α → Prop}, d.sat P → (∀ a, P a → Q a) → d.sat Q
  | .fail, _, _, h, _ => h
  | .leaf _, _, _, h, hq => hq _ h
  | .node _ _ _, _, _, h, hq => ⟨fun c => DT.sat_mono (h.1 c) hq, fun c => DT.sat_mono (h.2 c) hq⟩
  | .ob _ _, _, _, h, hq => ⟨h.1, DT.sat_mono h.2 hq⟩

abbrev Ws := Nat → Option (RV × V)
/-- What is given for an operation, by the slot that it fills: its answer, and memory behind it. -/
abbrev Orc := Nat → Option (List V → Heap → V × Heap)

def memN (n : Nat) : List Nat → Bool
  | [] => false
  | m :: l => cond (Nat.beq n m) true (memN n l)
def delN (n : Nat) : List Nat → List Nat
  | [] => []
  | m :: l => cond (Nat.beq n m) (delN n l) (m :: delN n l)

def Opd.known (kn : List Nat) : Opd → Bool
  | .tmp j => memN j kn
  | .cst _ => true
/-- Is an answer a word that is known, if those slots are? -/
def PK.known (kn : List Nat) (t : List V) : PK → Bool
  | .mov x => x.known kn
  | .not x => x.known kn
  | .pick c a b => cond (c.known kn) (match c.ev t with | .bool true => a.known kn | .bool false => b.known kn | _ => false) false
  | .eq .ptr _ _ _ => true
  | .eq .slice _ _ _ => true
  | .eq .iface _ _ _ => true
  | .eq .map _ _ _ => true
  | .eq .fn _ _ _ => true
  | _ => false
def K.known (kn : List Nat) (t : List V) : K → Bool
  | .p k => k.known kn t
  | _ => false
def knNext (st : List Nat) (kn : List Nat) (t : List V) (d : Option Nat) (k : K) : List Nat :=
  match d with
  | none => kn
  | some d => cond (cond (memN d st) true (k.known kn t)) (d :: delN d kn) (delN d kn)

/-- Equal cells, all looked at. -/
def eqAll : List FK → List V → List V → Option Bool
  | [], [], [] => some true
  | .b :: ks, .bool a :: xs, .bool b :: ys => match eqAll ks xs ys with | some r => some ((a == b) && r) | none => none
  | .i :: ks, .int k a :: xs, .int k' b :: ys => if k = k' then (match eqAll ks xs ys with | some r => some ((a == b) && r) | none => none) else none
  | .s :: ks, .str a :: xs, .str b :: ys => match eqAll ks xs ys with | some r => some ((a == b) && r) | none => none
  | _, _, _ => none
theorem eqAll_ok : ∀ {ks : List FK} {xs ys : List V} {r : Bool}, eqAll ks xs ys = some r → eqCells ks xs ys = some r
  | [], xs, ys, r, h => by cases xs <;> cases ys <;> simp [eqAll] at h; subst h; rfl
  | k :: ks, xs, ys, r, h => by
    cases xs with
    | nil => cases k <;> simp [eqAll] at h
    | cons x xs =>
      cases ys with
      | nil => cases k <;> cases x <;> simp [eqAll] at h
      | cons y ys =>
        have key : ∀ (c : Bool), (match eqAll ks xs ys with | some r => some (c && r) | none => none) = some r → (if c = true then eqCells ks xs ys else some false) = some r := by
          intro c hc
          cases he : eqAll ks xs ys with
          | none => rw [he] at hc; cases hc
          | some q =>
            rw [he] at hc
            simp only [Option.some.injEq] at hc
            rw [eqAll_ok he]
            cases c <;> simpa using hc
        cases k <;> cases x <;> (try simp only [eqAll, reduceCtorEq] at h) <;> cases y <;> (try simp only [eqAll, reduceCtorEq] at h)
        · exact key _ h
        · rename_i k1 a k2 b
          split at h
          · rename_i hk; simp only [eqCells, if_pos hk]; exact key _ h
          · cases h
        · exact key _ h

/-- The bounds of a part: where it ends, where it begins. -/
def hiOb (len most : Nat) : Option V → Option (Prop × Nat)
  | none => some (True, len)
  | some v => match asI v with
    | some i => some (0 ≤ i ∧ i ≤ (most : Int), i.toNat)
    | none => none
def loOb (h : Nat) : Option V → Option (Prop × Nat)
  | none => some (True, 0)
  | some v => match asI v with
    | some i => some (0 ≤ i ∧ i ≤ (h : Int), i.toNat)
    | none => none
/-- Operations that ask for something: what they ask, what they answer then. -/
def pkOb (t : List V) : PK → Option (Prop × V)
  | .bin .quo x y => match x.ev t, y.ev t with
    | .int k a, .int k' b => some (k = k' ∧ b ≠ 0, .int k (wrapK k (a.tdiv b)))
    | _, _ => none
  | .bin .rem x y => match x.ev t, y.ev t with
    | .int k a, .int k' b => some (k = k' ∧ b ≠ 0, .int k (a.tmod b))
    | _, _ => none
  | .bin .shl x y => match x.ev t, y.ev t with
    | .int k a, .int _ b => some (¬ b < 0, .int k (wrapK k (a * ((2 ^ (min b.toNat (bitsOf k)) : Nat) : Int))))
    | _, _ => none
  | .bin .shr x y => match x.ev t, y.ev t with
    | .int k a, .int _ b => some (¬ b < 0, .int k (a.fdiv ((2 ^ (min b.toNat (bitsOf k)) : Nat) : Int)))
    | _, _ => none
  | .bin .add x y => match x.ev t, y.ev t with
    | .str a, .str b => some (a.length + b.length ≤ bound, .str (a ++ b))
    | _, _ => none
  | .eq (.agg ks) n x y => match x.ev t, y.ev t with
    | .agg a, .agg b => (match eqAll ks a b with
      | some r => some (True, .bool (cond n (!r) r))
      | none => none)
    | _, _ => none
  | .idxS e x i => match x.ev t, i.ev t with
    | .slice id off len e' _, .int _ n => some (e' = e ∧ 0 ≤ n ∧ n < (len : Int), .ptr id (off + n.toNat * e))
    | _, _ => none
  | .idxA len e x i => match x.ev t, i.ev t with
    | .ptr id off, .int _ n => some (0 ≤ n ∧ n < (len : Int), .ptr id (off + n.toNat * e))
    | _, _ => none
  | .idxStr x i => match x.ev t, i.ev t with
    | .str s, .int _ n => some (0 ≤ n ∧ n < (s.length : Int), .int .u8 (s.getD n.toNat 0).toNat)
    | _, _ => none
  | .slice e x lo hi none => match x.ev t with
    | .slice id off len e' cap => (match hiOb len (cap.getD len) (evO t hi) with
      | some ph => (match loOb ph.2 (evO t lo) with
        | some pl => some (e' = e ∧ ph.1 ∧ pl.1, .slice id (off + pl.2 * e) (ph.2 - pl.2) e (cap.map (· - pl.2)))
        | none => none)
      | none => none)
    | .nils => (match hiOb 0 0 (evO t hi) with
      | some ph => (match loOb ph.2 (evO t lo) with
        | some pl => some (ph.1 ∧ pl.1, .nils)
        | none => none)
      | none => none)
    | _ => none
  | .sliceS x lo hi => match x.ev t with
    | .str s => (match hiOb s.length s.length (evO t hi) with
      | some ph => (match loOb ph.2 (evO t lo) with
        | some pl => some (ph.1 ∧ pl.1, .str (extractL s pl.2 ph.2))
        | none => none)
      | none => none)
    | _ => none
  | _ => none
theorem hiOb_ok {len most : Nat} {hi : Option V} {p : Prop × Nat} (h : hiOb len most hi = some p) (hp : p.1) : bndHi len most hi = some p.2 := by
  cases hi with
  | none => simp only [hiOb, Option.some.injEq] at h; subst h; rfl
  | some v =>
    simp only [hiOb] at h
    simp only [bndHi]
    cases ha : asI v with
    | none => rw [ha] at h; cases h
    | some i => rw [ha] at h; simp only [Option.some.injEq] at h; subst h; simp only [if_pos hp]
theorem loOb_ok {m : Nat} {lo : Option V} {p : Prop × Nat} (h : loOb m lo = some p) (hp : p.1) : bndLo m lo = some p.2 := by
  cases lo with
  | none => simp only [loOb, Option.some.injEq] at h; subst h; rfl
  | some v =>
    simp only [loOb] at h
    simp only [bndLo]
    cases ha : asI v with
    | none => rw [ha] at h; cases h
    | some i => rw [ha] at h; simp only [Option.some.injEq] at h; subst h; simp only [if_pos hp]
theorem pkOb_ok {t : List V} {k : PK} {p : Prop × V} (h : pkOb t k = some p) (hp : p.1) : k.ev t = some p.2 := by
  cases k <;> simp only [pkOb, reduceCtorEq] at h
  case bin op x y =>
    cases op <;> (try simp only [reduceCtorEq] at h)
    · split at h <;> (try simp only [Option.some.injEq, reduceCtorEq] at h)
      subst h; rename_i h1 h2; simp only [PK.ev, h1, h2, binV, if_pos hp]
    · split at h <;> (try simp only [Option.some.injEq, reduceCtorEq] at h)
      subst h; rename_i h1 h2; simp only [PK.ev, h1, h2, binV, if_pos hp.1, binI, if_neg hp.2]
    · split at h <;> (try simp only [Option.some.injEq, reduceCtorEq] at h)
      subst h; rename_i h1 h2; simp only [PK.ev, h1, h2, binV, if_pos hp.1, binI, if_neg hp.2]
    · split at h <;> (try simp only [Option.some.injEq, reduceCtorEq] at h)
      subst h; rename_i h1 h2; simp only [PK.ev, h1, h2, binV, shlI, if_neg hp]
    · split at h <;> (try simp only [Option.some.injEq, reduceCtorEq] at h)
      subst h; rename_i h1 h2; simp only [PK.ev, h1, h2, binV, shrI, if_neg hp]
  case eq c n x y =>
    cases c <;> (try simp only [reduceCtorEq] at h)
    split at h <;> (try simp only [reduceCtorEq] at h)
    rename_i h1 h2
    split at h <;> (try simp only [Option.some.injEq, reduceCtorEq] at h)
    rename_i r hr
    subst h
    simp only [PK.ev, h1, h2, eqV, eqAll_ok hr, Option.map_some]
    cases n <;> rfl
  case idxS e x i =>
    split at h <;> (try simp only [Option.some.injEq, reduceCtorEq] at h)
    subst h; rename_i h1 h2; simp only [PK.ev, h1, h2, Gw.idxS, if_pos hp]
  case idxA len e x i =>
    split at h <;> (try simp only [Option.some.injEq, reduceCtorEq] at h)
    subst h; rename_i h1 h2; simp only [PK.ev, h1, h2, Gw.idxA, if_pos hp]
  case idxStr x i =>
    split at h <;> (try simp only [Option.some.injEq, reduceCtorEq] at h)
    subst h; rename_i s kk n h1 h2
    simp only [PK.ev, h1, h2, Gw.idxStr]
    have hlt : n.toNat < s.length := by have := hp.1; have := hp.2; omega
    rw [if_pos hp.1, List.getElem?_eq_getElem hlt]
    simp [List.getD_eq_getElem?_getD, List.getElem?_eq_getElem hlt]
  case slice e x lo hi mx =>
    cases mx with
    | some m => simp only [reduceCtorEq] at h
    | none =>
      simp only at h
      split at h
      · rename_i id off len e' cap hx
        split at h <;> (try simp only [reduceCtorEq] at h)
        rename_i ph h1
        split at h <;> (try simp only [Option.some.injEq, reduceCtorEq] at h)
        rename_i pl h2
        subst h
        have e1 : evO t (none : Option Opd) = none := rfl
        simp only [PK.ev, hx, sliceV, if_pos hp.1, e1, hiOb_ok h1 hp.2.1, loOb_ok h2 hp.2.2, Option.bind_some]
      · rename_i hx
        split at h <;> (try simp only [reduceCtorEq] at h)
        rename_i ph h1
        split at h <;> (try simp only [Option.some.injEq, reduceCtorEq] at h)
        rename_i pl h2
        subst h
        have e1 : evO t (none : Option Opd) = none := rfl
        simp only [PK.ev, hx, sliceV, e1, hiOb_ok h1 hp.1, loOb_ok h2 hp.2, Option.bind_some]
      · cases h
  case sliceS x lo hi =>
    split at h
    · rename_i s hx
      split at h <;> (try simp only [reduceCtorEq] at h)
      rename_i ph h1
      split at h <;> (try simp only [Option.some.injEq, reduceCtorEq] at h)
      rename_i pl h2
      subst h
      simp only [PK.ev, hx, Gw.sliceS, hiOb_ok h1 hp.1, loOb_ok h2 hp.2, Option.bind_some]
    · cases h

/-- What is added to a slice: its cells, how many elements. -/
def addOb (h : Heap) (esz : Nat) : V → Option (Prop × List V × Nat)
  | .slice id 0 n e _ => match rowOf h id with
    | some l => some (e = esz ∧ l.length = n * esz, l, n)
    | none => none
  | .str s => match esz with
    | 1 => some (True, byteVs s, s.length)
    | _ => none
  | _ => none
theorem takeN_eq : ∀ (l : List V) (n : Nat), n ≤ l.length → takeN l n = some (l.take n)
  | l, 0, _ => by cases l <;> simp [takeN]
  | [], n + 1, h => by simp at h
  | v :: l, n + 1, h => by simp only [takeN, takeN_eq l n (by simpa using h), Option.map_some, List.take_succ_cons]
theorem cellsAt_eq : ∀ (l : List V) (o n : Nat), o + n ≤ l.length → cellsAt l o n = some ((l.drop o).take n)
  | l, 0, n, h => by
    have : cellsAt l 0 n = takeN l n := by cases l <;> rfl
    rw [this, takeN_eq l n (by omega)]; simp
  | [], o + 1, n, h => by simp at h
  | v :: l, o + 1, n, h => by simp only [cellsAt]; rw [cellsAt_eq l o n (by simp at h; omega)]; simp
theorem addOb_ok {h : Heap} {esz : Nat} {x : V} {p : Prop × List V × Nat} (ho : addOb h esz x = some p) (hp : p.1) : addedV h esz x = some (p.2.1, p.2.2) := by
  unfold addOb at ho
  split at ho
  · rename_i id n e c
    split at ho <;> simp only [Option.some.injEq, reduceCtorEq] at ho
    rename_i l hl
    subst ho
    obtain ⟨h1, h2⟩ := hp
    simp only [addedV, if_pos h1, rdN]
    split
    · rename_i h0
      have : l = [] := List.eq_nil_of_length_eq_zero (by omega)
      simp [this]
    · rw [hl]
      simp only [Option.bind_some]
      rw [cellsAt_eq l 0 _ (by omega)]
      simp [← h2]
  · split at ho <;> simp only [Option.some.injEq, reduceCtorEq] at ho
    subst ho
    simp only [addedV, if_true]
  · cases ho
/-- 'append' of one element or more that are known to be some, to nothing, or to a slice whose capacity is open. -/
def ekOb (t : List V) (h : Heap) : EK → Option (Prop × V × Heap)
  | .append e b s x => match addOb h e (x.ev t) with
    | some (pa, vs, n + 1) => (match s.ev t with
      | .nils => some (pa ∧ allOne vs = true ∧ (n + 1) * b ≤ 70368744177664, .slice h.n 0 (n + 1) e none, (h.put h.n (some (.cells false vs))).up 1)
      | .slice id off len e' none => (match rowW h id with
        | some l => (match off with
          | 0 => some (pa ∧ allOne vs = true ∧ e' = e ∧ (len + (n + 1)) * b ≤ 70368744177664 ∧ l.length = len * e, .slice h.n 0 (len + (n + 1)) e none, ((h.put id (some .dead)).put h.n (some (.cells false (l ++ vs)))).up 1)
          | off + 1 => some (pa ∧ allOne vs = true ∧ e' = e ∧ (len + (n + 1)) * b ≤ 70368744177664 ∧ (off + 1) + len * e ≤ l.length, .slice h.n 0 (len + (n + 1)) e none, ((h.put id (some .dead)).put h.n (some (.cells false ((l.drop (off + 1)).take (len * e) ++ vs)))).up 1))
        | none => none)
      | _ => none)
    | _ => none
  | _ => none
theorem ekOb_ok {cl : Cl} {t : List V} {h : Heap} {k : EK} {p : Prop × V × Heap} (ho : ekOb t h k = some p) (hp : p.1) : k.run cl t h = some p.2 := by
  cases k <;> simp only [ekOb, reduceCtorEq] at ho
  case append e b s x =>
    split at ho
    · rename_i pa vs n hadd
      have hadd' := fun q => addOb_ok hadd q
      split at ho
      · rename_i hs
        simp only [Option.some.injEq] at ho; subst ho
        obtain ⟨h1, h2, h3⟩ := hp
        simp only [EK.run, hadd' h1, Option.bind_some, hs, appendV, if_pos h2, if_neg (show ¬ n + 1 = 0 by omega), if_pos h3]
      · rename_i id off len e' hs
        split at ho
        · rename_i l hl
          split at ho
          · simp only [Option.some.injEq] at ho; subst ho
            obtain ⟨h1, h2, h3, h4, h5⟩ := hp
            subst h3
            simp only [EK.run, hadd' h1, Option.bind_some, hs, appendV, if_pos h2, if_neg (show ¬ n + 1 = 0 by omega), if_pos h4, if_true, hl]
            rw [cellsAt_eq l 0 _ (by omega)]
            simp [← h5]
          · simp only [Option.some.injEq] at ho; subst ho
            obtain ⟨h1, h2, h3, h4, h5⟩ := hp
            subst h3
            simp only [EK.run, hadd' h1, Option.bind_some, hs, appendV, if_pos h2, if_neg (show ¬ n + 1 = 0 by omega), if_pos h4, if_true, hl]
            rw [cellsAt_eq l _ _ h5]
            simp
        · cases ho
      · cases ho
    · cases ho

def orcOf (orc : Orc) : Option Nat → Option (List V → Heap → V × Heap)
  | none => none
  | some d => orc d

/-- Functions that turn nothing, answered by a value. -/
abbrev ExtP := Nat → Option (List V → Heap → Option V)

/-- An operation that turns nothing: what it asks, what it answers. -/
def pureK (XP : ExtP) (orc : Orc) (o : DOp) (t : List V) (h : Heap) : Option (Prop × V) :=
  match o.wt, o.cs with
  | false, [] => (match orcOf orc o.dst with
    | none => (match o.k with
      | .p k => cond (k.fine t) (match pkOb t k with
        | some p => some p
        | none => (match k.ev t with | some v => some (True, v) | none => none)) none
      | .r k => cond (k.fine t) (match k.res t with
        | some r => (match r.rd h with | some v => some (True, v) | none => none)
        | none => none) none
      | .e (.call fo args) => cond (notAny t fo && args.all (notAny t)) (match fo.ev t with
        | .func f cap => (match XP f with
          | some g => (match g (evs t args ++ cap) h with | some v => some (True, v) | none => none)
          | none => none)
        | _ => none) none
      | _ => none)
    | some f => (match o.k with
      | .r k => cond (k.fine t) (match k.res t with
        | some rv => some (rv.rd h = some (f t h).1, (f t h).1)
        | none => none) none
      | _ => none))
  | _, _ => none

def spanG : List DOp → List DOp × List DOp
  | [] => ([], [])
  | o :: l => match o.g with
    | none => ([], o :: l)
    | some _ => (o :: (spanG l).1, (spanG l).2)
def dsts : List DOp → List Nat
  | [] => []
  | o :: l => match o.dst with
    | some d => d :: dsts l
    | none => dsts l
def forgetL (t : List V) : List Nat → List V
  | [] => t
  | d :: l => forgetL (upd t d anyV) l
def delAll (kn : List Nat) : List Nat → List Nat
  | [] => kn
  | d :: l => delAll (delN d kn) l
/-- Operations that are all passed by, since their guard is none. -/
def skipL (j : Nat) (bb : Bool) : List DOp → List V → Option (List V)
  | [], t => some t
  | o :: l, t => match o.g with
    | none => none
    | some (j', b') => cond (Nat.beq j' j)
        (cond (b' == bb) (skipL j bb l (putD t o.dst undefV)) none)
        (match nth t j' with
          | .tup [] => skipL j bb l (putD t o.dst undefV)
          | _ => none)
/-- Guarded operations and the choice behind them, as one: both ways. -/
def joinS (rec : List DOp → List V → List Nat → Option (Prop × List V × List Nat)) (l : List DOp) (t : List V) (kn : List Nat) (j : Nat) (bb c : Bool) : Option (Prop × List V × List Nat × List DOp) :=
  match (spanG l).2 with
  | ⟨_, some d, none, .p (.pick (.tmp j') a b), false, []⟩ :: rest => cond (Nat.beq j' j && !memN j (dsts (spanG l).1))
      (match rec (spanG l).1 (upd t j (.bool bb)) (j :: kn), skipL j bb (spanG l).1 (upd t j (.bool (!bb))) with
        | some (p, tA, _), some tB => (match cond (notAny tA (.tmp j')) (PK.ev tA (.pick (.tmp j') a b)) none, cond (notAny tB (.tmp j')) (PK.ev tB (.pick (.tmp j') a b)) none with
          | some (.bool x), some (.bool y) => some ((c == bb) = true → p, upd (forgetL t (dsts (spanG l).1)) d (.bool (cond (c == bb) x y)), delN d (delAll kn (dsts (spanG l).1)), rest)
          | _, _ => none)
        | _, _ => none) none
  | _ => none

/-- Operations that turn nothing, one behind the other. -/
def pureL (XP : ExtP) (orc : Orc) (st : List Nat) (h : Heap) : Nat → List DOp → List V → List Nat → Option (Prop × List V × List Nat)
  | 0, _, _, _ => none
  | _ + 1, [], t, kn => some (True, t, kn)
  | f + 1, o :: l, t, kn => match o.g with
    | none => (match pureK XP orc o t h with
      | some p => (match pureL XP orc st h f l (putD t o.dst p.2) (knNext st kn t o.dst o.k) with
        | some q => some (p.1 ∧ q.1, q.2)
        | none => none)
      | none => none)
    | some (j, bb) => (match nth t j with
      | .bool c => cond (memN j kn)
          (cond (c == bb)
            (match pureK XP orc o t h with
              | some p => (match pureL XP orc st h f l (putD t o.dst p.2) (knNext st kn t o.dst o.k) with
                | some q => some (p.1 ∧ q.1, q.2)
                | none => none)
              | none => none)
            (pureL XP orc st h f l (putD t o.dst undefV) (knNext [] kn t o.dst (.r (.ld (.tmp 0))))))
          (match joinS (pureL XP orc st h f) (o :: l) t kn j bb c with
            | some q => (match pureL XP orc st h f q.2.2.2 q.2.1 q.2.2.1 with
              | some r => some (q.1 ∧ r.1, r.2)
              | none => none)
            | none => none)
      | .tup [] => pureL XP orc st h f l (putD t o.dst undefV) (knNext [] kn t o.dst (.r (.ld (.tmp 0))))
      | _ => none)

section
variable {α : Type}

/-- What an operation that turns memory does. -/
def eT (cl : Cl) (o : DOp) (t : List V) (h : Heap) (w : Ws) (C : V → Heap → Ws → DT α) (k : EK) : DT α :=
  match ekOb t h k with
  | some p => (match o.cs with
    | [] => .ob p.1 (C p.2.1 p.2.2 w)
    | cs => .ob (p.1 ∧ okW w p.2.2 cs = true) (C p.2.1 p.2.2 w))
  | none => (match k.run cl t h with
    | some p => (match o.cs with
      | [] => C p.1 p.2 w
      | cs => .ob (okW w p.2 cs = true) (C p.1 p.2 w))
    | none => .fail)
def eK (ct : Nat → List V → Heap → (V → Heap → DT α) → DT α) (cl : Cl) (o : DOp) (t : List V) (h : Heap) (w : Ws) (C : V → Heap → Ws → DT α) : EK → DT α
  | .call fo args => (match fo.ev t with
    | .func f cap => ct f (evs t args ++ cap) h fun r h' => (match o.cs with
      | [] => C r h' w
      | cs => .ob (okW w h' cs = true) (C r h' w))
    | _ => .fail)
  | k => eT cl o t h w C k
def K.fine (t : List V) : K → Bool
  | .p k => k.fine t
  | .r k => k.fine t
  | .a _ k => k.fine t
  | .e k => k.fine t
/-- What an operation does; 'ct': what a call does. -/
def kT (ct : Nat → List V → Heap → (V → Heap → DT α) → DT α) (cl : Cl) (b : Nat) (o : DOp) (t : List V) (h : Heap) (w : Ws) (C : V → Heap → Ws → DT α) : K → DT α
  | .p k => match pkOb t k with
    | some p => .ob p.1 (C p.2 h w)
    | none => (match k.ev t with | some v => C v h w | none => .fail)
  | .r k => match k.res t with
    | some r => (match r.rd h with | some v => C v h (cond o.wt (wset w o.i (r, v)) w) | none => .fail)
    | none => .fail
  | .a sl k => match h.get (b + sl) with
    | some _ => .fail
    | none => match Nat.ble (b + sl + 1) h.n with
      | true => (match k.mk t (b + sl) with | some p => C p.2 (h.put (b + sl) (some p.1)) w | none => .fail)
      | false => .fail
  | .e k => eK ct cl o t h w C k
/-- The same, its answer given. -/
def gT (cl : Cl) (o : DOp) (t : List V) (h : Heap) (w : Ws) (r : V × Heap) (C : V → Heap → Ws → DT α) : K → DT α
  | .p k => .ob (k.ev t = some r.1) (C r.1 h w)
  | .r k => match k.res t with
    | some rv => .ob (rv.rd h = some r.1) (C r.1 h (cond o.wt (wset w o.i (rv, r.1)) w))
    | none => .fail
  | .a _ _ => .fail
  | .e k => match o.cs with
    | [] => .ob (k.run cl t h = some r) (C r.1 r.2 w)
    | _ => .fail
def doT (ct : Nat → List V → Heap → (V → Heap → DT α) → DT α) (cl : Cl) (orc : Orc) (b : Nat) (o : DOp) (t : List V) (h : Heap) (w : Ws) (C : V → Heap → Ws → DT α) : DT α :=
  match o.k.fine t with
  | true => (match orcOf orc o.dst with
    | none => kT ct cl b o t h w C o.k
    | some f => gT cl o t h w (f t h) C o.k)
  | false => .fail

/-- The operations of a region; 'f': how far both ways are gone at once. -/
def opsT (ct : Nat → List V → Heap → (V → Heap → DT α) → DT α) (cl : Cl) (XP : ExtP) (orc : Orc) (st : List Nat) (b : Nat) : Nat → List DOp → List V → List Nat → Heap → Ws → (List V → List Nat → Heap → DT α) → DT α
  | 0, _, _, _, _, _, _ => .fail
  | _ + 1, [], t, kn, h, _, C => C t kn h
  | f + 1, o :: l, t, kn, h, w, C =>
    match o.g with
    | none => doT ct cl orc b o t h w fun v h w => opsT ct cl XP orc st b f l (putD t o.dst v) (knNext st kn t o.dst o.k) h w C
    | some (j, bb) => match nth t j with
      | .bool c => cond (memN j kn)
          (cond (c == bb) (doT ct cl orc b o t h w fun v h w => opsT ct cl XP orc st b f l (putD t o.dst v) (knNext st kn t o.dst o.k) h w C)
            (opsT ct cl XP orc st b f l (putD t o.dst undefV) (knNext [] kn t o.dst (.r (.ld (.tmp 0)))) h w C))
          (match joinS (pureL XP orc st h f) (o :: l) t kn j bb c with
            | some q => .ob q.1 (opsT ct cl XP orc st b f q.2.2.2 q.2.1 q.2.2.1 h w C)
            | none => .node (c == bb)
              (doT ct cl orc b o (upd t j (.bool bb)) h w fun v h w => opsT ct cl XP orc st b f l (putD (upd t j (.bool bb)) o.dst v) (knNext st (j :: kn) (upd t j (.bool bb)) o.dst o.k) h w C)
              (opsT ct cl XP orc st b f l (putD (upd t j (.bool (!bb))) o.dst undefV) (knNext [] (j :: kn) t o.dst (.r (.ld (.tmp 0)))) h w C))
      | .tup [] => opsT ct cl XP orc st b f l (putD t o.dst undefV) (knNext [] kn t o.dst (.r (.ld (.tmp 0)))) h w C
      | _ => .fail

/-- How loops are: by their blocks. -/
abbrev Lt := Nat → List V → Heap → DT (Ex × List V × Heap)
def DT.bind {β : Type} : DT β → (β → DT α) → DT α
  | .fail, _ => .fail
  | .leaf a, f => f a
  | .node c x y, f => .node c (x.bind f) (y.bind f)
  | .ob p x, f => .ob p (x.bind f)

/-- A loop, round by round. -/
def unrT (body : List V → List Nat → Heap → (Ex → List V → List Nat → Heap → DT α) → DT α) : Nat → List V → List Nat → Heap → (Ex → List V → List Nat → Heap → DT α) → DT α
  | 0, _, _, _, _ => .fail
  | n + 1, t, kn, h, C => body t kn h fun ex t kn h => match ex with
    | .normal => unrT body n t kn h C
    | .exit i => C (.exit i) t kn h
    | .ret => C .ret t kn h

def codeT (ct : Nat → List V → Heap → (V → Heap → DT α) → DT α) (cl : Cl) (XP : ExtP) (orc : Orc) (st : List Nat) (lt : Lt) (k : Nat) : DC → List V → List Nat → Heap → (Ex → List V → List Nat → Heap → DT α) → DT α
  | .skip, t, kn, h, C => C .normal t kn h
  | .reg n ops, t, kn, h, C => opsT ct cl XP orc st h.n (ops.length + 1) ops t kn (h.up n) (fun _ => none) fun t kn h => C .normal t kn h
  | .seq x y, t, kn, h, C => codeT ct cl XP orc st lt k x t kn h fun ex t kn h => match ex with
    | .normal => codeT ct cl XP orc st lt k y t kn h C
    | .exit i => C (.exit i) t kn h
    | .ret => C .ret t kn h
  | .cond (.tmp j) x y, t, kn, h, C => match nth t j with
    | .bool c => cond (memN j kn) (cond c (codeT ct cl XP orc st lt k x t kn h C) (codeT ct cl XP orc st lt k y t kn h C))
        (.node c (codeT ct cl XP orc st lt k x (upd t j (.bool true)) (j :: kn) h C) (codeT ct cl XP orc st lt k y (upd t j (.bool false)) (j :: kn) h C))
    | _ => .fail
  | .cond (.cst v) x y, t, kn, h, C => match v with
    | .bool true => codeT ct cl XP orc st lt k x t kn h C
    | .bool false => codeT ct cl XP orc st lt k y t kn h C
    | _ => .fail
  | .block id x, t, kn, h, C => codeT ct cl XP orc st lt id x t kn h fun ex t kn h => match ex with
    | .normal => C .normal t kn h
    | .exit i => cond (Nat.beq i id) (C .normal t kn h) (C (.exit i) t kn h)
    | .ret => C .ret t kn h
  | .loop c, t, kn, h, C => match lt k t h with
    | .fail => unrT (codeT ct cl XP orc st lt k c) 400 t kn h C
    | .leaf r => C r.1 r.2.1 [] r.2.2
    | .node b x y => .node b (x.bind fun r => C r.1 r.2.1 [] r.2.2) (y.bind fun r => C r.1 r.2.1 [] r.2.2)
    | .ob p x => .ob p (x.bind fun r => C r.1 r.2.1 [] r.2.2)
  | .exit i, t, kn, h, C => C (.exit i) t kn h
  | .ret, t, kn, h, C => C .ret t kn h
end

end Gw
