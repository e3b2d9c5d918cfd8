/- A log read off its cells. -/
import Derived.Test.YtjnhaaolbcmdbaaGreatDoorGxT9
namespace Gw
open Go Go.RowKit

def readDevs : List V → Option (List Device)
  | [] => some []
  | .int .u32 a :: .str s :: l => (match readDevs l with | some r => some (⟨a, s⟩ :: r) | none => none)
  | _ => none
def readInts (k : IntKind) : List V → Option (List Int)
  | [] => some []
  | .int k' a :: l => (match decide (k' = k), readInts k l with | true, some r => some (a :: r) | _, _ => none)
  | _ => none
theorem readDevs_ok : ∀ {r : List V} {l : List Device}, readDevs r = some l → r = l.flatMap Device.vs
  | [], l, h => by simp only [readDevs, Option.some.injEq] at h; subst h; rfl
  | .int .u32 a :: .str s :: r, l, h => by
    simp only [readDevs] at h
    split at h
    · rename_i q hq
      simp only [Option.some.injEq] at h
      subst h
      rw [List.flatMap_cons, ← readDevs_ok hq]
      rfl
    · cases h
theorem readInts_ok {k : IntKind} : ∀ {r : List V} {l : List Int}, readInts k r = some l → r = l.map (V.int k)
  | [], l, h => by simp only [readInts, Option.some.injEq] at h; subst h; rfl
  | .int k' a :: r, l, h => by
    simp only [readInts] at h
    split at h
    · rename_i q hk hq
      simp only [Option.some.injEq, decide_eq_true_eq] at h hk
      subst h hk
      rw [List.map_cons, ← readInts_ok hq]
    · cases h
/-- A slice's elements, and its row's name. -/
def readS {α : Type} (rd : List V → Option (List α)) (e : Nat) (h : Heap) : V → Option (Option (List α) × List Nat)
  | .nils => some (none, [])
  | .slice j off n e' _ => match Nat.beq e' e, rowP h j with
    | true, some row => (match rd ((row.drop off).take (n * e)) with
      | some l => (match Nat.beq l.length n with | true => some (some l, [j]) | false => none)
      | none => none)
    | _, _ => none
  | _ => none
def nodupB : List Nat → Bool
  | [] => true
  | i :: l => !l.contains i && nodupB l
theorem nodupB_ok : ∀ {l : List Nat}, nodupB l = true → l.Nodup
  | [], _ => .nil
  | i :: l, h => by
    simp only [nodupB, Bool.and_eq_true, Bool.not_eq_true', List.contains_eq_mem, decide_eq_false_iff_not] at h
    exact List.nodup_cons.2 ⟨h.1, nodupB_ok h.2⟩
def readLogX (ks : List Nat) (h : Heap) (i : Nat) : Option Log := match h.get i with
  | some (.cells false [.int .u32 me, a, b, c]) => (match readS readDevs 2 h a, readS (readInts .i64) 1 h b, readS (readInts .u32) 1 h c with
    | some x, some y, some z => (match nodupB (ks ++ i :: (x.2 ++ (y.2 ++ z.2))) with
      | true => some ⟨me, x.1, y.1, z.1⟩
      | false => none)
    | _, _, _ => none)
  | _ => none
def readLog : Heap → Nat → Option Log := readLogX []
theorem flats_devs : ∀ l : List Device, V.flats (l.flatMap Device.vs) = true
  | [] => rfl
  | a :: l => by simp [Device.vs, V.flats, V.flat, flats_devs l]
theorem devs_len : ∀ l : List Device, (l.flatMap Device.vs).length = l.length * 2
  | [] => rfl
  | a :: l => by simp [Device.vs, devs_len l]; omega

theorem closeS {α : Type} {rd : List V → Option (List α)} {e : Nat} {mk : List α → Ob} {rw : List α → List V} (hrd : ∀ {r l}, rd r = some l → r = rw l) (hrow : ∀ l, (mk l).row = some (rw l)) (hlen : ∀ l, (rw l).length = l.length * e) (hfl : ∀ l, V.flats (rw l) = true)
    {h : Heap} {v : V} {x : Option (List α) × List Nat} (hx : readS rd e h v = some x) {vs : List V} {cs : List Ce} {ids : List Nat} (hc : closeOk h vs cs ids) : closeOk h (v :: vs) (oS x.1 mk e :: cs) (x.2 ++ ids) := by
  cases v <;> simp only [readS, reduceCtorEq, Option.some.injEq] at hx
  case nils => subst hx; exact ⟨rfl, rfl, hc⟩
  case slice j off n e' c =>
    split at hx
    · rename_i row he hr
      split at hx
      · rename_i l hl
        split at hx
        · rename_i hn
          simp only [Option.some.injEq] at hx
          subst hx
          have he' := Nat.eq_of_beq_eq_true he
          have hn' := Nat.eq_of_beq_eq_true hn
          subst he' hn'
          refine ⟨j, off, c, ids, rfl, rfl, .inl ⟨row, rw l, hr, hrow l, hrd hl, hlen l, hfl l⟩, hc⟩
        · cases hx
      · cases hx
    · cases hx
theorem readLogX_ok {ks : List Nat} {h : Heap} {i : Nat} {L : Log} (hr : readLogX ks h i = some L) : ∃ vs ids, h.get i = some (.cells false vs) ∧ closeOk h vs (Ob.log L).enc ids ∧ ids.Nodup ∧ i ∉ ids ∧ ∀ k ∈ ks, k ∉ ids := by
  unfold readLogX at hr
  split at hr
  · rename_i me a b c hg
    split at hr
    · rename_i x y z hx hy hz
      split at hr
      · rename_i hn
        simp only [Option.some.injEq] at hr
        subst hr
        have hn' := nodupB_ok hn
        rw [List.nodup_append, List.nodup_cons] at hn'
        refine ⟨_, _, hg, ⟨rfl, rfl, ?_⟩, hn'.2.1.2, hn'.2.1.1, fun k hk hk' => hn'.2.2 k hk k (List.mem_cons_of_mem _ hk') rfl⟩
        have h1 := closeS (mk := .ints .u32) (rw := fun l => l.map (V.int .u32)) readInts_ok (fun _ => rfl) (fun _ => by simp) (flats_int .u32) hz (show closeOk h [] [] [] from rfl)
        rw [List.append_nil] at h1
        exact closeS (mk := .devs) (rw := fun l => l.flatMap Device.vs) readDevs_ok (fun _ => rfl) devs_len flats_devs hx (closeS (mk := .ints .i64) (rw := fun l => l.map (V.int .i64)) readInts_ok (fun _ => rfl) (fun _ => by simp) (flats_int .i64) hy h1)
      · cases hr
    · cases hr
  · cases hr
theorem readLog_ok {h : Heap} {i : Nat} {L : Log} (hr : readLog h i = some L) : ∃ vs ids, h.get i = some (.cells false vs) ∧ closeOk h vs (Ob.log L).enc ids ∧ ids.Nodup ∧ i ∉ ids := by
  obtain ⟨vs, ids, h1, h2, h3, h4, _⟩ := readLogX_ok hr
  exact ⟨vs, ids, h1, h2, h3, h4⟩
end Gw

/- Calls of a thing that ask something of it; calls that give a row of their own. -/
namespace Gw
open Go Go.RowKit
variable {P : Program}

/-- A function of a thing and plain values that asks for something. -/
def gC (p : List V → Ob → Option (Prop × V × Ob)) (args : List V) (h : Heap) : DT (V × Heap) :=
  match args with
  | .ptr i 0 :: as => (match h.get i with
    | some (.obj x) => (match p as x with
      | some q => .ob q.1 (.leaf (q.2.1, h.put i (some (.obj q.2.2))))
      | none => .fail)
    | _ => .fail)
  | _ => .fail
open Classical in
noncomputable def pC (p : List V → Ob → Option (Prop × V × Ob)) (as : List V) (x : Ob) : Option (V × Ob) := match p as x with
  | some q => if q.1 then some q.2 else none
  | none => none
theorem run_gC (p : List V → Ob → Option (Prop × V × Ob)) (args : List V) (h : Heap) : (gC p args h).run = gO (pC p) args h := by
  match args with
  | [] => rfl
  | .ptr i (o + 1) :: as => rfl
  | .ptr i 0 :: as =>
    simp only [gC, gO]
    cases hg : h.get i with
    | none => rfl
    | some b =>
      cases b with
      | obj x =>
        simp only [pC]
        cases hp : p as x with
        | none => rfl
        | some q => by_cases hq : q.1 <;> simp [DT.run, hq]
      | cells _ _ => rfl
      | mp _ => rfl
      | iter _ _ => rfl
      | dead => rfl
  | .bool _ :: _ => rfl
  | .int _ _ :: _ => rfl
  | .str _ :: _ => rfl
  | .nilp :: _ => rfl
  | .slice _ _ _ _ _ :: _ => rfl
  | .nils :: _ => rfl
  | .map _ :: _ => rfl
  | .nilm :: _ => rfl
  | .func _ _ :: _ => rfl
  | .nilf :: _ => rfl
  | .iface _ _ :: _ => rfl
  | .nili :: _ => rfl
  | .agg _ :: _ => rfl
  | .tup _ :: _ => rfl
theorem ansC {f : Nat} {p : List V → Ob → Option (Prop × V × Ob)} (hp : ∀ as x q, p as x = some q → q.1 → V.flats as = true ∧ q.2.1.flat = true ∧ ∃ hs, Opens (smallH [.o 0 x]) hs ∧ Run P f (.ptr NG 0 :: as) hs fun r1 h1 => Ends [.o 0 x] [q.2.2] [] [.f q.2.1] r1 h1) :
    AnsO P f (fun args h => (gC p args h).run) := by
  have e : (fun args h => (gC p args h).run) = gO (pC p) := by funext args h; exact run_gC p args h
  rw [e]
  refine ansO fun as x q hq => ?_
  unfold pC at hq
  split at hq
  · rename_i q' hq'
    split at hq
    · rename_i hh
      simp only [Option.some.injEq] at hq
      subst hq
      exact hp as x q' hq' hh
    · cases hq
  · cases hq

/-- The answer is a row of its own; the thing stays. -/
theorem ends_s {j : Nat} {x0 x y : Ob} {h : Heap} {vs row : List V} {ids : List Nat} {k n e : Nat} (hg : h.get NG = some (.cells false vs)) (hc : closeOk h vs x.enc ids) (hn : ids.Nodup) (hi : NG ∉ ids) (hk : NG + 1 ≤ k) (hki : k ∉ ids) (hr : h.get k = some (.cells false row)) (hy : y.row = some row) (hf : V.flats row = true) :
    Ends [.o j x0] [x] [y] [.s 0 n e] (.slice k 0 n e none) h := by
  have hkn : k ≠ NG := by omega
  refine ⟨(closeAt h NG x ids).put k (some (.obj y)), [k], .one NG x vs ids hg hc hn hi (.row k y row (by rw [closeAt_get, if_neg hki, if_neg hkn]; exact hr) hy hf .refl), rfl, by simp, by simpa using hk, fun i m y0 z h1 h2 => ?_, fun m f z h1 h2 => ?_, fun ρ v hv => hv⟩
  · cases i with
    | zero =>
      simp at h1 h2
      obtain ⟨rfl, rfl⟩ := h1; subst h2
      rw [Heap.get_put, if_neg (by omega), closeAt_get, Nat.add_zero, if_neg hi, if_pos rfl]
    | succ i => simp at h1
  · cases m with
    | zero => simp at h1 h2; subst h1 h2; rw [Heap.get_put, if_pos rfl]
    | succ m => simp at h1
/-- What is looked at behind a call that gives a row. -/
def obsR {α : Type} (rd : List Nat → Heap → Nat → Option α) (v : V) (h : Heap) : V × Option α × Option Blk := match v with
  | .slice k _ _ _ _ => (v, rd [k] h NG, h.get k)
  | _ => (v, rd [] h NG, none)
/-- A function of a thing: a row of its own, or none (second: whether there is one). -/
def gR (p : List V → Ob → Option (Prop × Bool × Ob × Nat × Nat)) (args : List V) (h : Heap) : DT (V × Heap) :=
  match args with
  | .ptr i 0 :: as => (match h.get i with
    | some (.obj x) => (match p as x with
      | some q => .ob q.1 (.node q.2.1 (.leaf (.slice h.n 0 q.2.2.2.1 q.2.2.2.2 none, ((h.put i (some (.obj x))).up 1).put h.n (some (.obj q.2.2.1)))) (.leaf (.nils, h.put i (some (.obj x)))))
      | none => .fail)
    | _ => .fail)
  | _ => .fail
theorem gR_in {p : List V → Ob → Option (Prop × Bool × Ob × Nat × Nat)} {args : List V} {h : Heap} {r : V × Heap} (hr : (gR p args h).run = some r) : ∃ i as x q, args = .ptr i 0 :: as ∧ h.get i = some (.obj x) ∧ p as x = some q ∧ q.1 ∧
    r = cond q.2.1 (.slice h.n 0 q.2.2.2.1 q.2.2.2.2 none, ((h.put i (some (.obj x))).up 1).put h.n (some (.obj q.2.2.1))) (.nils, h.put i (some (.obj x))) := by
  unfold gR at hr
  split at hr
  · rename_i i as
    split at hr
    · rename_i x hg
      split at hr
      · rename_i q hq
        simp only [DT.run] at hr
        split at hr
        · rename_i h1
          refine ⟨i, as, x, q, rfl, hg, hq, h1, ?_⟩
          cases hb : q.2.1 <;> rw [hb] at hr <;> simpa using hr.symm
        · cases hr
      · cases hr
    · cases hr
  · cases hr
theorem gR_out {p : List V → Ob → Option (Prop × Bool × Ob × Nat × Nat)} {i : Nat} {as : List V} {h : Heap} {x : Ob} {q : Prop × Bool × Ob × Nat × Nat} (hg : h.get i = some (.obj x)) (hq : p as x = some q) (h1 : q.1) :
    (gR p (.ptr i 0 :: as) h).run = some (cond q.2.1 (.slice h.n 0 q.2.2.2.1 q.2.2.2.2 none, ((h.put i (some (.obj x))).up 1).put h.n (some (.obj q.2.2.1))) (.nils, h.put i (some (.obj x)))) := by
  simp only [gR, hg, hq, DT.run, if_pos h1]
  cases q.2.1 <;> rfl
theorem fr_gR (p : List V → Ob → Option (Prop × Bool × Ob × Nat × Nat)) (args : List V) : FrM fun h => (gR p args h).run := by
  intro h r h' hr k b hf
  obtain ⟨i, as, x, q, rfl, hg, hq, h1, he⟩ := gR_in hr
  have hki : k ≠ i := get_ne hf hg |>.symm
  have hg' : (h.put k b).get i = some (.obj x) := by rw [Heap.get_put_ne _ _ _ _ (Ne.symm hki)]; exact hg
  show (gR p (.ptr i 0 :: as) (h.put k b)).run = _ ∧ _
  rw [gR_out hg' hq h1]
  cases hc : q.2.1 with
  | true =>
    rw [hc] at he
    simp only [cond_true, Prod.mk.injEq] at he
    obtain ⟨rfl, rfl⟩ := he
    have hn : h.n ≠ k := by have := hf.2; omega
    refine ⟨?_, (Free.up (k := 1) (hf.put hki)).put (Ne.symm hn)⟩
    simp only [cond_true, Option.some.injEq, Prod.mk.injEq]
    refine ⟨rfl, ?_⟩
    show ((((h.put k b).put i _).up 1).put h.n _) = _
    rw [Heap.put_comm h k i _ _ hki]
    show ((((h.put i _).up 1).put k b).put h.n _) = _
    rw [Heap.put_comm _ k h.n _ _ (Ne.symm hn)]
  | false =>
    rw [hc] at he
    simp only [cond_false, Prod.mk.injEq] at he
    obtain ⟨rfl, rfl⟩ := he
    refine ⟨?_, hf.put hki⟩
    simp only [cond_false, Option.some.injEq, Prod.mk.injEq]
    exact ⟨trivial, Heap.put_comm h k i _ _ hki⟩
theorem ansR {f : Nat} {p : List V → Ob → Option (Prop × Bool × Ob × Nat × Nat)} (hp : ∀ as x q, p as x = some q → q.1 → V.flats as = true ∧ ∃ hs, Opens (smallH [.o 0 x]) hs ∧ Run P f (.ptr NG 0 :: as) hs fun r1 h1 => match q.2.1 with
    | true => Ends [.o 0 x] [x] [q.2.2.1] [.s 0 q.2.2.2.1 q.2.2.2.2] r1 h1
    | false => Ends [.o 0 x] [x] [] [.f .nils] r1 h1) : AnsO P f (fun args h => (gR p args h).run) := by
  refine ⟨fr_gR p, fun args h r h' he => ?_⟩
  obtain ⟨i, as, x, q, rfl, hg, hq, h1, hr⟩ := gR_in he
  obtain ⟨h2, hs, h3, h4⟩ := hp as x q hq h1
  have hok : ∀ a ∈ [Ar.o i x], a.ok h := by intro a ha; simp at ha; subst ha; exact hg
  have swap : ∀ {ys rs r1 h1}, Ends [.o 0 x] [x] ys rs r1 h1 → Ends [.o i x] [x] ys rs r1 h1 := by
    intro ys rs r1 h1 e
    obtain ⟨h', frs, a1, a2, a3, a4, a5, a6⟩ := e.ends
    refine ⟨h', frs, a1, a2, a3, a4, fun k j y0 y b1 b2 => ?_, a6⟩
    cases k with
    | zero => exact a5 0 0 x y rfl b2
    | succ k => simp at b1
  cases hc : q.2.1 with
  | true =>
    rw [hc] at hr
    simp only [cond_true, Prod.mk.injEq] at hr
    obtain ⟨rfl, rfl⟩ := hr
    have := con_of (P := P) (f := f) (l := [.o i x]) (h := h) (hs := hs) (sargs := .ptr NG 0 :: as) (bargs := .ptr i 0 :: as) (xs := [x]) (ys := [q.2.2.1]) (rs := [.s 0 q.2.2.2.1 q.2.2.2.2])
      (.cons (.o (i := 0) rfl) (argsR_flat as h2)) hok ⟨by simp, trivial⟩ h3 h4 (fun r1 h1 e => by rw [hc] at e; exact swap e) rfl (by simp [Ri.ok])
    exact this
  | false =>
    rw [hc] at hr
    simp only [cond_false, Prod.mk.injEq] at hr
    obtain ⟨rfl, rfl⟩ := hr
    have := con_of (P := P) (f := f) (l := [.o i x]) (h := h) (hs := hs) (sargs := .ptr NG 0 :: as) (bargs := .ptr i 0 :: as) (xs := [x]) (ys := []) (rs := [.f .nils])
      (.cons (.o (i := 0) rfl) (argsR_flat as h2)) hok ⟨by simp, trivial⟩ h3 h4 (fun r1 h1 e => by rw [hc] at e; exact swap e) rfl (by simp [Ri.ok, V.flat])
    exact this
end Gw
