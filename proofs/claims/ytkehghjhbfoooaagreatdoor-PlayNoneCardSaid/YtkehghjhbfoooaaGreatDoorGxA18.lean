/- Regions, code, functions: what the machine answers the model answers, on every tape. -/
import Derived.Test.YtkehghjhbfoooaaGreatDoorGxA17
noncomputable section
namespace Gw
open Go Go.RowKit

section
variable {P : Program} {ρ : Rho} {B : Nat → Prop}

theorem cList_cons {ops : Array Oper} {p : Nat × Bool × List Nat} {l : List (Nat × Bool × List Nat)} {os : List DOp} (h : cList P ops (p :: l) = some os) : ∃ o os', os = o :: os' ∧ cAt P ops p.1 p.2.1 p.2.2 = some o ∧ cList P ops l = some os' := by
  obtain ⟨i, wt, cs⟩ := p
  simp only [cList, Option.bind_eq_some_iff, Option.map_eq_some_iff] at h
  obtain ⟨o, ho, os', hos, rfl⟩ := h
  exact ⟨o, os', rfl, ho, hos⟩

theorem cAt_i {ops : Array Oper} {i : Nat} {wt : Bool} {cs : List Nat} {o : DOp} (h : cAt P ops i wt cs = some o) : o.i = i ∧ o.wt = wt ∧ o.cs = cs ∧ slotOk o = true ∧ i < ops.size := by
  obtain ⟨r, k, g, hr, hk, hg, rfl⟩ := cAt_inv h
  obtain ⟨hlt, _⟩ := Array.getElem?_eq_some_iff.1 hr
  refine ⟨rfl, rfl, rfl, ?_, hlt⟩
  cases k <;> simp [slotOk, Kc.toK]

/-- In the text's order. -/
theorem sd_text {cl : Cl} (hcl : ClS P cl) {ops : Array Oper} {b : Nat} {Q : Exit → Act → World → Prop} : ∀ (l : List Nat) (os : List DOp), cList P ops (l.map fun i => (i, false, [])) = some os → ∀ (s e : RS) (ρ : Rho) (a : Act) (w : World), runOps cl b os s = some e → RelR B ρ s.t s.h a w →
    (∀ ρ' a' w', Le ρ ρ' → RelR B ρ' e.t e.h a' w' → Keeps B w w' → a'.defers = a.defers → Q .normal a' w') → wpOps P ops Q l a w
  | [], os, hc, s, e, ρ, a, w, hr, R, hQ => by
    simp only [List.map_nil, cList, Option.some.injEq] at hc; subst hc
    simp only [runOps, Option.some.injEq] at hr; subst hr
    exact hQ ρ a w (Le.refl _) R (Keeps.refl _ _) rfl
  | i :: l, os, hc, s, e, ρ, a, w, hr, R, hQ => by
    obtain ⟨o, os', rfl, ho, hos⟩ := cList_cons hc
    simp only [runOps, Option.bind_eq_some_iff] at hr
    obtain ⟨s1, hs1, hr1⟩ := hr
    rw [wpOps_cons]
    refine sd_step hcl ho hs1 R fun ρ1 a1 w1 hle R1 hb hd => ?_
    exact sd_text hcl l os' hos s1 e ρ1 a1 w1 hr1 R1 fun ρ2 a2 w2 hle2 R2 hb2 hd2 => hQ ρ2 a2 w2 (hle.trans hle2) R2 (hb.trans hb2) (hd2.trans hd)

theorem chk_pairs {M : List Nat} : ∀ {l : List DOp}, chkPairs M l = true → l.Pairwise (fun x y => relB M x y = true) ∧ ∀ x ∈ l, (M.getD x.i 0).testBit x.i = false
  | [], _ => ⟨.nil, fun x h => by simp at h⟩
  | x :: l, h => by
    simp only [chkPairs, Bool.and_eq_true, List.all_eq_true, Bool.not_eq_true'] at h
    obtain ⟨⟨h1, h2⟩, h3⟩ := h
    obtain ⟨g1, g2⟩ := chk_pairs h3
    refine ⟨List.pairwise_cons.2 ⟨h1, g1⟩, fun y hy => ?_⟩
    rcases List.mem_cons.1 hy with rfl | hy
    · exact h2
    · exact g2 y hy

theorem edges_ok : ∀ {l : List Oper} {n : Nat}, edgesOk l n = true → ∀ (i : Nat) (o : Oper), l[i]? = some o → ∀ e ∈ o.after.toList, Region.binds .any e = true → e.on < n + i
  | [], n, _, i, o, ho => by simp at ho
  | p :: l, n, h, i, o, ho => by
    simp only [edgesOk, Bool.and_eq_true, List.all_eq_true, Bool.or_eq_true, Bool.not_eq_true', decide_eq_true_eq] at h
    intro e he hb
    cases i with
    | zero =>
      simp only [List.getElem?_cons_zero, Option.some.injEq] at ho; subst ho
      rcases h.1 e he with h1 | h1
      · rw [hb] at h1; cases h1
      · omega
    | succ i =>
      simp only [List.getElem?_cons_succ] at ho
      have := edges_ok h.2 i o ho e he hb
      omega

/-- What holds on the way through a region whose order is drawn. -/
structure Way (P : Program) (ops : Array Oper) (M : List Nat) (listed : Array Bool) (l : List DOp) : Prop where
  size : listed.size = ops.size
  left : ∀ i, i < ops.size → (listed.getD i true = false ↔ ∃ o ∈ l, o.i = i)
  each : ∀ o ∈ l, cAt P ops o.i o.wt o.cs = some o
  pairs : l.Pairwise (fun x y => relB M x y = true)
  own : ∀ x ∈ l, (M.getD x.i 0).testBit x.i = false
  shut : ∀ i, i < ops.size → listed.getD i false = true → ∀ j, (M.getD i 0).testBit j = true → listed.getD j false = true

theorem getD_tf {listed : Array Bool} {i n : Nat} (hs : listed.size = n) (hi : i < n) : listed.getD i true = listed.getD i false := by
  simp [Array.getD, show i < listed.size by omega]

theorem Way.ready {ops : Array Oper} {M : List Nat} {listed : Array Bool} {l : List DOp} (W : Way P ops M listed l) (hM : M = befs ops.toList []) (he : edgesOk ops.toList 0 = true) {i : Nat} (hi : i ∈ Region.ready .any ops listed) :
    i < ops.size ∧ listed.getD i true = false ∧ ∀ j, (M.getD i 0).testBit j = true → listed.getD j false = true := by
  simp only [Region.ready, List.mem_filter, List.mem_range, Bool.and_eq_true, Bool.not_eq_true'] at hi
  obtain ⟨hlt, hul, hall⟩ := hi
  refine ⟨hlt, hul, fun j hj => ?_⟩
  have ho : ops[i]? = some ops[i] := Array.getElem?_eq_getElem hlt
  have hol : ops.toList[i]? = some ops[i] := by rw [Array.getElem?_toList]; exact ho
  rw [ho] at hall
  simp only [Option.map_some, Option.getD_some] at hall
  have hedge := edges_ok he i ops[i] hol
  rw [hM, befs_bit hol (fun e h hb => by have := hedge e h hb; omega)] at hj
  obtain ⟨e, hme, hb, h⟩ := hj
  have hle : listed.getD e.on false = true := by
    have hall' : ∀ e ∈ ops[i].after.toList, (!Region.binds .any e || listed.getD e.on false) = true := by
      intro e he'
      rw [← Array.all_toList, List.all_eq_true] at hall
      exact hall e he'
    have := hall' e hme
    simpa [hb] using this
  rcases h with h | h
  · rw [h]; exact hle
  · have hlt' : e.on < ops.size := by have := hedge e hme hb; omega
    exact W.shut e.on hlt' hle j (by rw [hM]; exact h)

theorem Way.head {ops : Array Oper} {M : List Nat} {listed : Array Bool} {x : DOp} {l : List DOp} (W : Way P ops M listed (x :: l)) (hM : M = befs ops.toList []) (he : edgesOk ops.toList 0 = true) : x.i ∈ Region.ready .any ops listed := by
  have hx := W.each x (by simp)
  obtain ⟨_, _, _, _, hlt⟩ := cAt_i hx
  have hul : listed.getD x.i true = false := (W.left x.i hlt).2 ⟨x, by simp, rfl⟩
  simp only [Region.ready, List.mem_filter, List.mem_range, Bool.and_eq_true, Bool.not_eq_true']
  refine ⟨hlt, hul, ?_⟩
  have ho : ops[x.i]? = some ops[x.i] := Array.getElem?_eq_getElem hlt
  have hol : ops.toList[x.i]? = some ops[x.i] := by rw [Array.getElem?_toList]; exact ho
  have hedge := edges_ok he x.i ops[x.i] hol
  rw [ho]
  simp only [Option.map_some, Option.getD_some]
  rw [← Array.all_toList, List.all_eq_true]
  intro e hme
  simp only [Bool.or_eq_true, Bool.not_eq_true']
  by_cases hb : Region.binds .any e = true
  · right
    have hlt' : e.on < ops.size := by have := hedge e hme hb; omega
    have hbit : (M.getD x.i 0).testBit e.on = true := by
      rw [hM, befs_bit hol (fun e h hb => by have := hedge e h hb; omega)]
      exact ⟨e, hme, hb, .inl rfl⟩
    cases hu : listed.getD e.on false with
    | true => rfl
    | false =>
      have hu' : listed.getD e.on true = false := by rw [getD_tf W.size hlt']; exact hu
      obtain ⟨o, hmo, hoi⟩ := (W.left e.on hlt').1 hu'
      rcases List.mem_cons.1 hmo with rfl | hmo
      · have := W.own o (by simp); rw [hoi] at this; rw [hoi] at hbit; rw [this] at hbit; cases hbit
      · have hp := (List.pairwise_cons.1 W.pairs).1 o hmo
        simp only [relB, Bool.and_eq_true, Bool.not_eq_true'] at hp
        rw [hoi] at hp
        rw [hp.1.2] at hbit; cases hbit
  · left; simpa using hb

/-- In any order. -/
theorem sd_any {cl : Cl} (hcl : ClS P cl) (hfr : FrC cl) {ops : Array Oper} {M : List Nat} (hM : M = befs ops.toList []) (he : edgesOk ops.toList 0 = true) {b : Nat} {Q : Exit → Act → World → Prop} :
    ∀ (fuel : Nat) (listed : Array Bool) (l : List DOp) (s e : RS) (ρ : Rho) (a : Act) (w : World), l.length ≤ fuel → Way P ops M listed l → ToCome b l s → runOps cl b l s = some e → RelR B ρ s.t s.h a w →
    (∀ ρ' a' w', Le ρ ρ' → RelR B ρ' e.t e.h a' w' → Keeps B w w' → a'.defers = a.defers → Q .normal a' w') → wpAny P .any ops Q fuel listed a w := by
  intro fuel
  have done : ∀ (listed : Array Bool) (l : List DOp) (s e : RS) (ρ : Rho) (a : Act) (w : World), Region.ready .any ops listed = [] → Way P ops M listed l → runOps cl b l s = some e → RelR B ρ s.t s.h a w →
      (∀ ρ' a' w', Le ρ ρ' → RelR B ρ' e.t e.h a' w' → Keeps B w w' → a'.defers = a.defers → Q .normal a' w') → Q .normal a w := by
    intro listed l s e ρ a w hr W hrun R hQ
    cases l with
    | nil => simp only [runOps, Option.some.injEq] at hrun; subst hrun; exact hQ ρ a w (Le.refl _) R (Keeps.refl _ _) rfl
    | cons x l => have := W.head hM he; rw [hr] at this; simp at this
  induction fuel with
  | zero =>
    intro listed l s e ρ a w hlen W hT hrun R hQ
    have hl : l = [] := List.eq_nil_of_length_eq_zero (by omega)
    subst hl
    have hr : Region.ready .any ops listed = [] := by
      cases hc : Region.ready .any ops listed with
      | nil => rfl
      | cons i r =>
        obtain ⟨h1, h2, _⟩ := W.ready hM he (i := i) (by rw [hc]; simp)
        obtain ⟨o, ho, _⟩ := (W.left i h1).1 h2
        simp at ho
    exact ⟨hr, done listed [] s e ρ a w hr W hrun R hQ⟩
  | succ fuel ih =>
    intro listed l s e ρ a w hlen W hT hrun R hQ
    refine ⟨fun hr => done listed l s e ρ a w hr W hrun R hQ, fun i hi => ?_⟩
    obtain ⟨hlt, hul, hbef⟩ := W.ready hM he hi
    obtain ⟨y, hy, hyi⟩ := (W.left i hlt).1 hul
    obtain ⟨l1, l2, rfl⟩ := List.append_of_mem hy
    have hcy := W.each y hy
    obtain ⟨_, _, _, sy, _⟩ := cAt_i hcy
    have hpw := W.pairs
    have hfront : ∀ x ∈ l1, okPair x y = true ∧ apartD x y = true ∧ x.i ≠ y.i ∧ slotOk x = true := by
      intro x hx
      have hrel : relB M x y = true := by
        rw [List.pairwise_append] at hpw
        exact hpw.2.2 x hx y (by simp)
      simp only [relB, Bool.and_eq_true, Bool.or_eq_true, bne_iff_ne] at hrel
      obtain ⟨_, _, _, sx, hxlt⟩ := cAt_i (W.each x (by simp [hx]))
      rcases hrel.2 with h | h
      · rw [hyi] at h
        have h1 := hbef x.i h
        have h2 := (W.left x.i hxlt).2 ⟨x, by simp [hx], rfl⟩
        rw [getD_tf W.size hxlt, h1] at h2; cases h2
      · exact ⟨h.1, h.2, hrel.1.1, sx⟩
    have hne : (l1 ++ y :: l2).Pairwise (fun p q => p.i ≠ q.i) := hpw.imp (fun {p q} h => by
      simp only [relB, Bool.and_eq_true, bne_iff_ne] at h; exact h.1.1)
    have hso : ∀ o ∈ l1 ++ y :: l2, slotOk o = true := fun o ho => (cAt_i (W.each o ho)).2.2.2.1
    obtain ⟨s1, hs1, hr1⟩ := run_front hfr sy l1 l2 s e hfront hne hso hT hrun
    subst hyi
    refine sd_step hcl hcy hs1 R fun ρ1 a1 w1 hle R1 hb hd => ?_
    refine ih (listed.setIfInBounds y.i true) (l1 ++ l2) s1 e ρ1 a1 w1 (by simp only [List.length_append, List.length_cons] at hlen ⊢; omega) ?_ ?_ hr1 R1 fun ρ2 a2 w2 hle2 R2 hb2 hd2 => hQ ρ2 a2 w2 (hle.trans hle2) R2 (hb.trans hb2) (hd2.trans hd)
    · -- the way goes on
      have hsub : (l1 ++ l2).Sublist (l1 ++ y :: l2) := List.Sublist.append_left (List.sublist_cons_self _ _) _
      have hyn : ∀ o ∈ l1 ++ l2, o.i ≠ y.i := by
        intro o ho
        rw [List.pairwise_append, List.pairwise_cons] at hne
        rcases List.mem_append.1 ho with h | h
        · exact hne.2.2 o h y (by simp)
        · exact Ne.symm (hne.2.1.1 o h)
      refine ⟨by simpa using W.size, fun j hj => ?_, fun o ho => W.each o (hsub.subset ho), W.pairs.sublist hsub, fun x hx => W.own x (hsub.subset hx), fun j hj hl k hk => ?_⟩
      · by_cases hjy : j = y.i
        · subst hjy
          constructor
          · intro h
            simp [Array.getD, W.size, hj] at h
          · rintro ⟨o, ho, hoi⟩; exact absurd hoi (hyn o ho)
        · rw [getD_set_ne true (Ne.symm hjy), W.left j hj]
          constructor
          · rintro ⟨o, ho, hoi⟩
            refine ⟨o, ?_, hoi⟩
            rcases List.mem_append.1 ho with h | h
            · exact List.mem_append_left _ h
            · rcases List.mem_cons.1 h with rfl | h
              · exact absurd hoi.symm hjy
              · exact List.mem_append_right _ h
          · rintro ⟨o, ho, hoi⟩; exact ⟨o, hsub.subset ho, hoi⟩
      · by_cases hjy : j = y.i
        · subst hjy
          exact getD_set_true (hbef k hk)
        · rw [getD_set_ne false (Ne.symm hjy)] at hl
          exact getD_set_true (W.shut j hj hl k hk)
    · -- what is to come
      intro o ho
      have hsub : (l1 ++ l2).Sublist (l1 ++ y :: l2) := List.Sublist.append_left (List.sublist_cons_self _ _) _
      have hyn : ∀ o ∈ l1 ++ l2, o.i ≠ y.i := by
        intro o ho
        rw [List.pairwise_append, List.pairwise_cons] at hne
        rcases List.mem_append.1 ho with h | h
        · exact hne.2.2 o h y (by simp)
        · exact Ne.symm (hne.2.1.1 o h)
      have hT' : ToCome b (y :: (l1 ++ l2)) s := by
        intro p hp
        rcases List.mem_cons.1 hp with rfl | hp
        · exact hT p (by simp)
        · exact hT p (hsub.subset hp)
      exact hT'.step hfr hs1 hyn sy (fun o ho => hso o (hsub.subset ho)) o ho

theorem cList_each {ops : Array Oper} : ∀ {l : List (Nat × Bool × List Nat)} {os : List DOp}, cList P ops l = some os → ∀ o ∈ os, cAt P ops o.i o.wt o.cs = some o
  | [], os, h => by simp only [cList, Option.some.injEq] at h; subst h; simp
  | p :: l, os, h => by
    obtain ⟨o, os', rfl, ho, hos⟩ := cList_cons h
    intro q hq
    rcases List.mem_cons.1 hq with rfl | hq
    · obtain ⟨h1, h2, h3, _⟩ := cAt_i ho
      rw [h1, h2, h3]; exact ho
    · exact cList_each hos q hq

/-- A region. -/
theorem sd_reg {cl : Cl} (hcl : ClS P cl) (hfr : FrC cl) (hm : P.follows .mixedOrders = true) {id : Nat} {ops : Array Oper} {draw : Bool} {ord : List Nat} {n : Nat} {os : List DOp} {Q : Exit → Act → World → Prop}
    (hc : (if draw then cDraw P ops ord else cReg P ops) = some (.reg n os)) {s s' : St} {a : Act} {w : World} (hr : regV cl n os s = some s') (R : RelR B ρ s.t s.h a w)
    (hQ : ∀ ρ' a' w', Le ρ ρ' → RelR B ρ' s'.t s'.h a' w' → Keeps B w w' → a'.defers = a.defers → Q .normal a' w') : (Code.region id ops draw).wp P Q a w := by
  simp only [regV, Option.map_eq_some_iff] at hr
  obtain ⟨e, he, rfl⟩ := hr
  have Rup : RelR B ρ s.t (s.h.up n) a w := ⟨R.gr, R.tr, R.hr.up n⟩
  cases draw with
  | false =>
    simp only [Bool.false_eq_true, if_false, cReg, Option.map_eq_some_iff, DC.reg.injEq] at hc
    obtain ⟨l, hl, rfl, rfl⟩ := hc
    exact wp_region (sd_text hcl _ _ hl _ e ρ a w he Rup hQ)
  | true =>
    simp only [if_true, cDraw, Option.bind_eq_some_iff] at hc
    obtain ⟨l, hl, hc⟩ := hc
    split at hc
    case isFalse => cases hc
    rename_i hchk
    simp only [Bool.and_eq_true] at hchk
    obtain ⟨⟨hp, hedge⟩, hall⟩ := hchk
    simp only [Option.some.injEq, DC.reg.injEq] at hc
    obtain ⟨rfl, rfl⟩ := hc
    obtain ⟨p1, p2⟩ := chk_pairs hp
    have heach := cList_each hl
    refine wp_region_any hm ?_
    have Rdr : RelR B ρ s.t (s.h.up (roomOf ops.size l)) a { w with drawn := w.drawn + 1 } := ⟨R.gr, R.tr, (R.hr.up _).same rfl⟩
    have hlen : l.length ≤ ops.size := by
      have hnd : (l.map (·.i)).Nodup := by
        rw [List.nodup_iff_pairwise_ne, List.pairwise_map]
        exact p1.imp (fun {x y} h => by simp only [relB, Bool.and_eq_true, bne_iff_ne] at h; exact h.1.1)
      have hsub : ∀ i ∈ l.map (·.i), i ∈ List.range ops.size := by
        intro i hi
        obtain ⟨o, ho, rfl⟩ := List.mem_map.1 hi
        exact List.mem_range.2 (cAt_i (heach o ho)).2.2.2.2
      have := hnd.length_le_of_subset hsub
      simpa using this
    refine sd_any hcl hfr rfl hedge (b := s.h.n) ops.size (Array.replicate ops.size false) l ⟨s.t, s.h.up (roomOf ops.size l), fun _ => none⟩ e ρ a _ hlen ?_ ?_ he Rdr ?_
    · refine ⟨by simp, fun i hi => ?_, heach, p1, p2, fun i hi h => ?_⟩
      · simp only [List.all_eq_true, List.mem_range, List.any_eq_true, beq_iff_eq] at hall
        obtain ⟨o, ho, hoi⟩ := hall i hi
        refine ⟨fun _ => ⟨o, ho, hoi⟩, fun _ => ?_⟩
        simp [Array.getD, hi]
      · simp [Array.getD, hi] at h
    · intro o ho
      refine ⟨rfl, fun sl k hk => ?_⟩
      obtain ⟨_, _, _, hs, hlt⟩ := cAt_i (heach o ho)
      simp only [slotOk, hk, beq_iff_eq] at hs
      have hroom : roomOf ops.size l = ops.size := by
        have : ∀ {l : List DOp}, o ∈ l → makes l = true := by
          intro l
          induction l with
          | nil => intro h; simp at h
          | cons p l ih =>
            intro h
            rcases List.mem_cons.1 h with rfl | h
            · simp [makes, hk]
            · simp [makes, ih h]
        simp [roomOf, this ho]
      refine ⟨?_, ?_⟩
      · simp only [Heap.get_up]; exact R.hr.top _ (by omega)
      · simp only [Heap.up_n, hroom]; omega
    · intro ρ' a' w' hle R' hb hd
      exact hQ ρ' a' w' hle R' (Keeps.trans (a := w) (b := { w with drawn := w.drawn + 1 }) ⟨rfl, rfl, rfl, Nat.le_refl _, fun _ _ => rfl⟩ hb) hd

def exOf : Ex → Exit
  | .normal => .normal
  | .exit i => .exit i
  | .ret => .ret

/-- What the machine's code comes to, the model's comes to. -/
def WpL (P : Program) (code : Code) (s : St) (ex : Ex) (s' : St) : Prop :=
  ∀ (B : Nat → Prop) (ρ : Rho) (a : Act) (w : World) (Q : Exit → Act → World → Prop), RelR B ρ s.t s.h a w →
    (∀ ρ' a' w', Le ρ ρ' → RelR B ρ' s'.t s'.h a' w' → Keeps B w w' → a'.defers = a.defers → Q (exOf ex) a' w') → code.wp P Q a w

/-- The loops of a code, by the blocks that they stand in. -/
def loopsIn : Nat → DC → List (Nat × DC)
  | k, .loop a => (k, a) :: loopsIn k a
  | k, .seq a b => loopsIn k a ++ loopsIn k b
  | k, .cond _ a b => loopsIn k a ++ loopsIn k b
  | _, .block id a => loopsIn id a
  | _, _ => []

/-- How some loops are run, soundly. -/
def LpS (P : Program) (hint : Nat → List Nat) (cl : Cl) (lp : Lp) (L : Nat → DC → Prop) : Prop :=
  ∀ (k : Nat) (c : DC), L k c → ∀ (code : Code), cCode P hint code = some c → (∀ s ex s', evC cl lp k c s = some (ex, s') → WpL P code s ex s') →
    ∀ s ex s', lp k c (evC cl lp k c) s = some (ex, s') → WpL P (.loop code) s ex s'

theorem wp_loop_rounds' {c : Code} {F : St → Option (Ex × St)} {Q : Exit → Act → World → Prop}
    (hF : ∀ (s : St) (ex : Ex) (s' : St), F s = some (ex, s') → ∀ (ρ : Rho) (a : Act) (w : World) (Q' : Exit → Act → World → Prop), RelR B ρ s.t s.h a w → (∀ ρ' a' w', Le ρ ρ' → RelR B ρ' s'.t s'.h a' w' → Keeps B w w' → a'.defers = a.defers → Q' (exOf ex) a' w') → c.wp P Q' a w) :
    ∀ (s : St) (n : Nat) (ex : Ex) (s' : St), loopN F n s = some (ex, s') → ∀ (ρ : Rho) (a : Act) (w : World), RelR B ρ s.t s.h a w → (∀ ρ' a' w', Le ρ ρ' → RelR B ρ' s'.t s'.h a' w' → Keeps B w w' → a'.defers = a.defers → Q (exOf ex) a' w') → (Code.loop c).wp P Q a w := by
  intro s n ex s' hl ρ a w R hQ
  -- so many rounds are left
  let J : Nat → Act → World → Prop := fun n a' w' => ∃ s1 ρ1, loopN F n s1 = some (ex, s') ∧ RelR B ρ1 s1.t s1.h a' w' ∧ Le ρ ρ1 ∧ Keeps B w w' ∧ a'.defers = a.defers
  have find : ∀ a' w', (∃ n, J n a' w') → ∃ n, J n a' w' ∧ ∀ m, m < n → ¬ J m a' w' := by
    rintro a' w' ⟨n, hn⟩
    induction n using Nat.strongRecOn with
    | _ n ih =>
      by_cases h : ∃ m, m < n ∧ J m a' w'
      · obtain ⟨m, hm, hJ⟩ := h; exact ih m hm hJ
      · exact ⟨n, hn, fun m hm hJ => h ⟨m, hm, hJ⟩⟩
  classical
  let μ : Act → World → Nat := fun a' w' => if h : ∃ n, J n a' w' then (find a' w' h).choose else 0
  refine wp_loop (fun a' w' => ∃ n, J n a' w') μ ⟨n, s, ρ, hl, R, Le.refl _, Keeps.refl _ _, rfl⟩ fun a1 w1 h1 => ?_
  have hμ : μ a1 w1 = (find a1 w1 h1).choose := by simp only [μ]; rw [dif_pos h1]
  obtain ⟨hJ, hmin⟩ := (find a1 w1 h1).choose_spec
  generalize (find a1 w1 h1).choose = k at hμ hJ hmin
  obtain ⟨s1, ρ1, hlk, R1, hle1, hb1, hd1⟩ := hJ
  cases k with
  | zero => simp [loopN] at hlk
  | succ k =>
    simp only [loopN, Option.bind_eq_some_iff] at hlk
    obtain ⟨⟨e1, s2⟩, hF1, hrest⟩ := hlk
    refine hF s1 e1 s2 hF1 ρ1 a1 w1 _ R1 fun ρ2 a2 w2 hle2 R2 hb2 hd2 => ?_
    cases e1 with
    | normal =>
      simp only at hrest
      have hJ2 : J k a2 w2 := ⟨s2, ρ2, hrest, R2, hle1.trans hle2, hb1.trans hb2, hd2.trans hd1⟩
      refine ⟨⟨k, hJ2⟩, ?_⟩
      rw [hμ]
      have h2 : ∃ n, J n a2 w2 := ⟨k, hJ2⟩
      have hμ2 : μ a2 w2 = (find a2 w2 h2).choose := by simp only [μ]; rw [dif_pos h2]
      rw [hμ2]
      obtain ⟨_, hmin2⟩ := (find a2 w2 h2).choose_spec
      rcases Nat.lt_or_ge k (find a2 w2 h2).choose with h | h
      · exact absurd hJ2 (hmin2 k h)
      · omega
    | exit i =>
      simp only [Option.some.injEq, Prod.mk.injEq] at hrest
      obtain ⟨rfl, rfl⟩ := hrest
      exact hQ ρ2 a2 w2 (hle1.trans hle2) R2 (hb1.trans hb2) (hd2.trans hd1)
    | ret =>
      simp only [Option.some.injEq, Prod.mk.injEq] at hrest
      obtain ⟨rfl, rfl⟩ := hrest
      exact hQ ρ2 a2 w2 (hle1.trans hle2) R2 (hb1.trans hb2) (hd2.trans hd1)

/-- Code. -/
theorem sd_code {cl : Cl} (hcl : ClS P cl) (hfr : FrC cl) (hm : P.follows .mixedOrders = true) {hint : Nat → List Nat} {lp : Lp} {L : Nat → DC → Prop} (hlp : LpS P hint cl lp L) :
    ∀ (code : Code) (k : Nat) (c : DC), cCode P hint code = some c → (∀ p ∈ loopsIn k c, L p.1 p.2) → ∀ (s : St) (ex : Ex) (s' : St), evC cl lp k c s = some (ex, s') → WpL P code s ex s' := by
  intro code
  induction code with
  | skip =>
    intro k c hc hL s ex s' hs B ρ a w Q R hQ
    simp only [cCode, Option.some.injEq] at hc; subst hc
    simp only [evC, Option.some.injEq, Prod.mk.injEq] at hs; obtain ⟨rfl, rfl⟩ := hs
    exact wp_skip (hQ ρ a w (Le.refl _) R (Keeps.refl _ _) rfl)
  | region id ops draw =>
    intro k c hc hL s ex s' hs B ρ a w Q R hQ
    simp only [cCode] at hc
    have hreg : ∃ n os, c = .reg n os := by
      split at hc
      · simp only [cDraw, Option.bind_eq_some_iff] at hc
        obtain ⟨l, _, hc⟩ := hc
        split at hc
        · simp only [Option.some.injEq] at hc; exact ⟨_, _, hc.symm⟩
        · cases hc
      · simp only [cReg, Option.map_eq_some_iff] at hc
        obtain ⟨l, _, hc⟩ := hc
        exact ⟨_, _, hc.symm⟩
    obtain ⟨n, os, rfl⟩ := hreg
    simp only [evC, Option.map_eq_some_iff, Prod.mk.injEq] at hs
    obtain ⟨s1, hs1, rfl, rfl⟩ := hs
    exact sd_reg hcl hfr hm hc hs1 R hQ
  | seq x y ihx ihy =>
    intro k c hc hL s ex s' hs B ρ a w Q R hQ
    simp only [cCode, Option.bind_eq_some_iff, Option.map_eq_some_iff] at hc
    obtain ⟨cx, hcx, cy, hcy, rfl⟩ := hc
    simp only [evC, Option.bind_eq_some_iff] at hs
    obtain ⟨⟨e1, s1⟩, h1, h2⟩ := hs
    refine wp_seq (ihx k cx hcx (fun p hp => hL p (by simp [loopsIn, hp])) s e1 s1 h1 B ρ a w _ R fun ρ1 a1 w1 hle1 R1 hb1 hd1 => ?_)
    cases e1 with
    | normal => exact ihy k cy hcy (fun p hp => hL p (by simp [loopsIn, hp])) s1 ex s' h2 B ρ1 a1 w1 Q R1 fun ρ2 a2 w2 hle2 R2 hb2 hd2 => hQ ρ2 a2 w2 (hle1.trans hle2) R2 (hb1.trans hb2) (hd2.trans hd1)
    | exit i => simp only [Option.some.injEq, Prod.mk.injEq] at h2; obtain ⟨rfl, rfl⟩ := h2; exact hQ ρ1 a1 w1 hle1 R1 hb1 hd1
    | ret => simp only [Option.some.injEq, Prod.mk.injEq] at h2; obtain ⟨rfl, rfl⟩ := h2; exact hQ ρ1 a1 w1 hle1 R1 hb1 hd1
  | cond c x y ihx ihy =>
    intro k d hc hL s ex s' hs B ρ a w Q R hQ
    simp only [cCode, Option.bind_eq_some_iff, Option.map_eq_some_iff] at hc
    obtain ⟨cc, hcc, cx, hcx, cy, hcy, rfl⟩ := hc
    have rc := sd_opd R.gr R.tr hcc
    simp only [evC] at hs
    split at hs
    · rename_i he; rw [he] at rc; simp only [VR] at rc
      exact wp_cond_true rc (ihx k cx hcx (fun p hp => hL p (by simp [loopsIn, hp])) s ex s' hs B ρ a w Q R hQ)
    · rename_i he; rw [he] at rc; simp only [VR] at rc
      exact wp_cond_false rc (ihy k cy hcy (fun p hp => hL p (by simp [loopsIn, hp])) s ex s' hs B ρ a w Q R hQ)
    · cases hs
  | block id x ih =>
    intro k c hc hL s ex s' hs B ρ a w Q R hQ
    simp only [cCode, Option.map_eq_some_iff] at hc
    obtain ⟨cx, hcx, rfl⟩ := hc
    simp only [evC, Option.map_eq_some_iff] at hs
    obtain ⟨⟨e1, s1⟩, h1, h2⟩ := hs
    refine wp_block (ih id cx hcx (fun p hp => hL p (by simpa [loopsIn] using hp)) s e1 s1 h1 B ρ a w _ R fun ρ1 a1 w1 hle1 R1 hb1 hd1 => ?_)
    cases e1 with
    | normal => simp only [Prod.mk.injEq] at h2; obtain ⟨rfl, rfl⟩ := h2; exact hQ ρ1 a1 w1 hle1 R1 hb1 hd1
    | ret => simp only [Prod.mk.injEq] at h2; obtain ⟨rfl, rfl⟩ := h2; exact hQ ρ1 a1 w1 hle1 R1 hb1 hd1
    | exit i =>
      simp only [exOf, Exit.inBlock]
      by_cases hi : i = id
      · simp only [hi, if_true, Prod.mk.injEq] at h2; obtain ⟨rfl, rfl⟩ := h2
        rw [if_pos hi]; exact hQ ρ1 a1 w1 hle1 R1 hb1 hd1
      · simp only [hi, if_false, Prod.mk.injEq] at h2; obtain ⟨rfl, rfl⟩ := h2
        rw [if_neg hi]; exact hQ ρ1 a1 w1 hle1 R1 hb1 hd1
  | loop x ih =>
    intro k c hc hL s ex s' hs B ρ a w Q R hQ
    simp only [cCode, Option.map_eq_some_iff] at hc
    obtain ⟨cx, hcx, rfl⟩ := hc
    simp only [evC] at hs
    exact hlp k cx (hL (k, cx) (by simp [loopsIn])) x hcx (fun s ex s' h => ih k cx hcx (fun p hp => hL p (by simp [loopsIn, hp])) s ex s' h) s ex s' hs B ρ a w Q R hQ
  | rangeFunc f ps x y => intro k c hc; simp [cCode] at hc
  | exit id =>
    intro k c hc hL s ex s' hs B ρ a w Q R hQ
    simp only [cCode, Option.some.injEq] at hc; subst hc
    simp only [evC, Option.some.injEq, Prod.mk.injEq] at hs; obtain ⟨rfl, rfl⟩ := hs
    exact wp_exit (hQ ρ a w (Le.refl _) R (Keeps.refl _ _) rfl)
  | scope x => intro k c hc; simp [cCode] at hc
  | label l => intro k c hc; simp [cCode] at hc
  | goto l => intro k c hc; simp [cCode] at hc
  | ret =>
    intro k c hc hL s ex s' hs B ρ a w Q R hQ
    simp only [cCode, Option.some.injEq] at hc; subst hc
    simp only [evC, Option.some.injEq, Prod.mk.injEq] at hs; obtain ⟨rfl, rfl⟩ := hs
    exact wp_ret (hQ ρ a w (Le.refl _) R (Keeps.refl _ _) rfl)
  | refuse why => intro k c hc; simp [cCode] at hc

/-- Results. -/
theorem sd_resL {t : List V} {h : Heap} {a : Act} {w : World} (R : RelR B ρ t h a w) : ∀ {rv : List ResultVar} {rs : List Res} {l : List V}, cRes P rv = some rs → resL t h rs = some l →
    ∃ xs : List Value, VRs ρ l xs ∧ (rv.mapM fun | .tmp t => pure (a.tmps.getD t undef) | .cell b t => do loadVar t (← asAddr (a.tmps.getD b undef)) : Sem (List Value)).run P w = .ok xs w
  | [], rs, l, hc, hl => by
    simp only [cRes, Option.some.injEq] at hc; subst hc
    simp only [resL, Option.some.injEq] at hl; subst hl
    exact ⟨[], by simp [VRs], rfl⟩
  | .tmp i :: rv, rs, l, hc, hl => by
    simp only [cRes, Option.map_eq_some_iff] at hc
    obtain ⟨rs', hrs, rfl⟩ := hc
    simp only [resL, Res.get, Option.bind_some, Option.map_eq_some_iff] at hl
    obtain ⟨l', hl', rfl⟩ := hl
    obtain ⟨xs, h1, h2⟩ := sd_resL R hrs hl'
    exact ⟨_ :: xs, VRs.cons (R.tr.nth i) h1, by simp only [List.mapM_cons, Sem.run_bind, Sem.run_pure, Result.andThen_ok, h2]⟩
  | .cell i ty :: rv, rs, l, hc, hl => by
    simp only [cRes, Option.bind_eq_some_iff, Option.map_eq_some_iff] at hc
    obtain ⟨g, hg, n, hn, rs', hrs, rfl⟩ := hc
    simp only [resL, Option.bind_eq_some_iff, Option.map_eq_some_iff] at hl
    obtain ⟨v, hv, l', hl', rfl⟩ := hl
    obtain ⟨xs, h1, h2⟩ := sd_resL R hrs hl'
    have hnth := R.tr.nth i
    have key : ∃ x, VR ρ v x ∧ (do loadVar ty (← asAddr (a.tmps.getD i undef)) : Sem Value).run P w = .ok x w := by
      cases g with
      | true =>
        simp only [if_true, Res.get] at hv
        split at hv
        · rename_i id off he
          rw [he] at hnth; simp only [VR] at hnth
          obtain ⟨L, hL, hxe⟩ := hnth
          simp only [rdN, Option.map_eq_some_iff] at hv
          obtain ⟨r, hr, rfl⟩ := hv
          have key : ∃ cs : List Value, VRs ρ r cs ∧ (loadCells ⟨L.b, L.o + off, none⟩ n).run P w = .ok cs.toArray w := by
            split at hr
            · rename_i h0; simp only [Option.some.injEq] at hr; subst hr
              exact ⟨[], by simp [VRs], by rw [h0]; simp [loadCells, loadCellsFrom]⟩
            · simp only [Option.bind_eq_some_iff] at hr
              obtain ⟨row, hrow, hcs⟩ := hr
              obtain ⟨cs, g1, _, g3⟩ := R.hr.cells (P := P) hrow hcs hL
              exact ⟨cs, g1, g3 _ (fun _ => rfl) w rfl⟩
          obtain ⟨cs, g1, g3⟩ := key
          refine ⟨.agg cs.toArray, by simp only [VR]; exact ⟨cs, rfl, g1⟩, ?_⟩
          rw [hxe]
          simp [asAddr, loadVar, run_aggOf hg, run_szOf hn, g3]
        · cases hv
      | false =>
        simp only [Bool.false_eq_true, if_false, Res.get] at hv
        split at hv
        · rename_i id off he
          rw [he] at hnth; simp only [VR] at hnth
          obtain ⟨L, hL, hxe⟩ := hnth
          simp only [Option.bind_eq_some_iff] at hv
          obtain ⟨row, hrow, hcl⟩ := hv
          obtain ⟨y, hy, hcell⟩ := R.hr.cell hrow hcl hL
          refine ⟨y, hy, ?_⟩
          rw [hxe]
          simp [asAddr, loadVar, run_aggOf hg, hcell]
        · cases hv
    obtain ⟨x, hx, hrun⟩ := key
    refine ⟨x :: xs, VRs.cons hx h1, ?_⟩
    rw [List.mapM_cons, Sem.run_bind, hrun]
    simp only [Result.andThen_ok, Sem.run_bind, h2, Sem.run_pure]

theorem sd_res {fn : Func} {rs : List Res} {t : List V} {h : Heap} {a : Act} {w : World} {v : V} (hc : cRes P fn.results.toList = some rs) (R : RelR B ρ t h a w) (hv : resV t h rs = some v) : ∃ x, VR ρ v x ∧ (results fn a.tmps).run P w = .ok x w := by
  simp only [resV, Option.map_eq_some_iff] at hv
  obtain ⟨l, hl, rfl⟩ := hv
  obtain ⟨xs, h1, h2⟩ := sd_resL R hc hl
  have hm : (fn.results.mapM fun | .tmp t => pure (a.tmps.getD t undef) | .cell b t => do loadVar t (← asAddr (a.tmps.getD b undef)) : Sem (Array Value)).run P w = .ok xs.toArray w := by
    rw [Array.mapM_eq_mapM_toList, Sem.run_map, h2]; rfl
  have hlen := VRs.length h1
  have hres : (results fn a.tmps).run P w = (Result.ok xs.toArray w).andThen (fun vs w' => (pure (if h : vs.size = 1 then vs[0] else .tuple vs) : Sem Value).run P w') := by
    rw [← hm]; exact Sem.run_bind P w _ _
  rw [hres]
  simp only [Result.andThen_ok]
  split
  · rename_i u
    simp only [VRs] at h1
    obtain ⟨y, ys, rfl, hy, hys⟩ := h1
    subst hys
    exact ⟨y, hy, by simp⟩
  · rename_i l' hne
    have hl1 : ¬ xs.toArray.size = 1 := by
      intro h1'
      simp only [List.size_toArray] at h1'
      obtain ⟨u, hu⟩ := List.length_eq_one_iff.1 (by omega : l.length = 1)
      exact hne u hu
    refine ⟨.tuple xs.toArray, by simp only [VR]; exact .inr ⟨xs, rfl, h1⟩, ?_⟩
    rw [dif_neg hl1]; rfl

theorem pads_VRs (ρ : Rho) : ∀ n, VRs ρ (pads n) (List.replicate n undef)
  | 0 => by simp [pads, VRs]
  | n + 1 => VRs.cons (VR.undef ρ) (pads_VRs ρ n)

/-- The table of functions: each is the compiled text of the model's. -/
def Tab (P : Program) (D : Nat → Option DF) : Prop := ∀ f d, D f = some d → ∃ fn hint, P.funcs[f]? = some fn ∧ cFn P hint fn = some d

theorem loopN_lp (hint : Nat → List Nat) (cl : Cl) (n : Nat) : LpS P hint cl (lpN n) (fun _ _ => True) :=
  fun _ _ _ _ _ hb s ex s' h B ρ a w _ R hQ => wp_loop_rounds' (fun s ex s' h ρ a w Q' R hQ' => hb s ex s' h B ρ a w Q' R hQ') s (n + 400) ex s' h ρ a w R hQ

/-- Functions that are answered, soundly. -/
def ExtS (P : Program) (X : Ext) : Prop := ∀ f g, X f = some g → (∀ args, FrM (g args)) ∧ ∀ args h r h', g args h = some (r, h') →
  (∃ fn, P.funcs[f]? = some fn ∧ fn.name ≠ "runtime.NumGoroutine" ∧ fn.body.isSome = true) ∧
  ∀ (B : Nat → Prop) (ρ : Rho) (xs : List Value) (w : World), GR ρ → VRs ρ args xs → HR B ρ h w →
    Calls P f xs.toArray w fun e w' => ∃ x ρ', e = .returned x ∧ Le ρ ρ' ∧ VR ρ' r x ∧ HR B ρ' h' w' ∧ Keeps B w w'
theorem noExt_s (P : Program) : ExtS P noExt := fun _ _ h => by cases h

/-- A function's body is run, its loops in whatever way. -/
theorem sd_fn (hm : P.follows .mixedOrders = true) {cl : Cl} (hcl : ClS P cl) (hfr : FrC cl) {f : Nat} {fn : Func} {hint : Nat → List Nat} {d : DF} (hfn : P.funcs[f]? = some fn) (hc : cFn P hint fn = some d) {lp : Lp} {L : Nat → DC → Prop} (hlp : LpS P hint cl lp L) (hL : ∀ p ∈ loopsIn 0 d.body, L p.1 p.2)
    {args : List V} {h : Heap} {r : V} {h' : Heap} (hr : runF cl lp d args h = some (r, h')) :
    (∃ fn, P.funcs[f]? = some fn ∧ fn.name ≠ "runtime.NumGoroutine" ∧ fn.body.isSome = true) ∧
    ∀ (B : Nat → Prop) (ρ : Rho) (xs : List Value) (w : World), GR ρ → VRs ρ args xs → HR B ρ h w →
      Calls P f xs.toArray w fun e w' => ∃ x ρ', e = .returned x ∧ Le ρ ρ' ∧ VR ρ' r x ∧ HR B ρ' h' w' ∧ Keeps B w w' := by
  unfold cFn at hc
  split at hc
  case isTrue => cases hc
  rename_i hname
  simp only [Option.bind_eq_some_iff, Option.map_eq_some_iff] at hc
  obtain ⟨body, hbody, c, hcc, rs, hrs, rfl⟩ := hc
  refine ⟨⟨fn, hfn, hname, by rw [hbody]; rfl⟩, fun B ρ xs w hg hargs H => ?_⟩
  simp only [runF, Option.bind_eq_some_iff] at hr
  obtain ⟨⟨ex, s⟩, hev, hlv⟩ := hr
  refine calls_of_wp hfn hbody ?_
  have hlen := VRs.length hargs
  have R : RelR B ρ (enterV ⟨fn.ntmps, c, rs⟩ args h).t (enterV ⟨fn.ntmps, c, rs⟩ args h).h { tmps := xs.toArray ++ Array.replicate (fn.ntmps - xs.toArray.size) undef, defers := [] } w := by
    refine ⟨hg, ?_, H⟩
    simp only [enterV, TR, Array.toList_append, Array.toList_replicate, List.size_toArray, hlen]
    exact hargs.append (pads_VRs ρ _)
  refine sd_code hcl hfr hm hlp body 0 c hcc hL _ ex s hev B ρ _ w _ R fun ρ' a' w' hle R' hb hd => ?_
  simp only at hd
  cases ex with
  | exit i => simp [leaveV] at hlv
  | normal =>
    simp only [leaveV, Option.map_eq_some_iff, Prod.mk.injEq] at hlv
    obtain ⟨v, hv, rfl, rfl⟩ := hlv
    obtain ⟨x, hx, hrun⟩ := sd_res hrs R' hv
    exact ⟨hd, x, hrun, x, ρ', rfl, hle, hx, R'.hr, hb⟩
  | ret =>
    simp only [leaveV, Option.map_eq_some_iff, Prod.mk.injEq] at hlv
    obtain ⟨v, hv, rfl, rfl⟩ := hlv
    obtain ⟨x, hx, hrun⟩ := sd_res hrs R' hv
    exact ⟨hd, x, hrun, x, ρ', rfl, hle, hx, R'.hr, hb⟩

/-- A function is called. -/
theorem sd_call (hm : P.follows .mixedOrders = true) {X : Ext} (hX : ExtS P X) {D : Nat → Option DF} (hD : Tab P D) : ∀ n, ClS P (callN X D n) := by
  intro n
  induction n with
  | zero => intro f args h r h' hr; cases hr
  | succ n ih =>
    intro f args h r h' hr
    simp only [callN] at hr
    cases hx : X f with
    | some g => rw [hx] at hr; exact (hX f g hx).2 args h r h' hr
    | none =>
    rw [hx] at hr
    simp only [Option.bind_eq_some_iff] at hr
    obtain ⟨d, hd, hr⟩ := hr
    obtain ⟨fn, hint, hfn, hc⟩ := hD f d hd
    exact sd_fn hm ih (fr_callN (fun f g h => (hX f g h).1) D n) hfn hc (loopN_lp hint _ n) (fun _ _ => trivial) hr

end

end Gw
