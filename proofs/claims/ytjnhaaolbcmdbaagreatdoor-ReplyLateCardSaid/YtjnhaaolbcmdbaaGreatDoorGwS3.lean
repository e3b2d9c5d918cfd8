/- Symbolic terms: made plain; comparisons decided, or split. -/
import Derived.Test.YtjnhaaolbcmdbaaGreatDoorGwS2
namespace Gw
open Go

/-- A number whose range is one number is that number. -/
def fold (pc : PC) (t : IT) : IT :=
  match rg pc t with
  | (some a, some b) => if a == b then .c a else t
  | _ => t
theorem fold_ok {σ : Val} {pc : PC} (h : σ.ok pc) (t : IT) : (fold pc t).ev σ = t.ev σ := by
  unfold fold
  split
  · rename_i a b he
    split
    · rename_i hab
      have := rg_ok h t
      rw [he] at this
      have h1 := this.1 a rfl; have h2 := this.2 b rfl
      have : a = b := by simpa using hab
      simp only [IT.ev]; omega
    · rfl
  · rfl

def mkAddC : IT → Int → IT
  | .c a, n => .c (a + n)
  | .add a (.c m), n => if m + n == 0 then a else .add a (.c (m + n))
  | t, n => if n == 0 then t else .add t (.c n)
theorem mkAddC_ok (σ : Val) (t : IT) (n : Int) : (mkAddC t n).ev σ = t.ev σ + n := by
  unfold mkAddC
  split
  · rfl
  · rename_i a m
    split
    · rename_i hz
      have : m + n = 0 := by simpa using hz
      simp only [IT.ev]; omega
    · simp only [IT.ev]; omega
  · split
    · rename_i hz
      have : n = 0 := by simpa using hz
      subst this; omega
    · simp only [IT.ev]

def mkAdd : IT → IT → IT
  | a, .c n => mkAddC a n
  | .c n, b => mkAddC b n
  | a, b => .add a b
theorem mkAdd_ok (σ : Val) (a b : IT) : (mkAdd a b).ev σ = a.ev σ + b.ev σ := by
  unfold mkAdd
  split
  · exact mkAddC_ok σ _ _
  · rw [mkAddC_ok]; simp only [IT.ev]; omega
  · rfl

/-- Is it so? By ranges. -/
def ltR (a b : Rg) : Option Bool :=
  match a.2, b.1 with
  | some x, some y => if x < y then some true else (match a.1, b.2 with | some u, some v => if v ≤ u then some false else none | _, _ => none)
  | _, _ => match a.1, b.2 with | some u, some v => if v ≤ u then some false else none | _, _ => none
theorem ltR_ok {a b : Rg} {n m : Int} (h : okR a n) (k : okR b m) {v : Bool} (hv : ltR a b = some v) : decide (n < m) = v := by
  have lo : ∀ {w : Bool}, (match a.1, b.2 with | some u, some v => if v ≤ u then some false else none | _, _ => none) = some w → decide (n < m) = w := by
    intro w hw
    split at hw
    · rename_i u v hu hv
      have h1 := h.1 _ hu; have h2 := k.2 _ hv
      split at hw
      · cases hw; simp; omega
      · cases hw
    · cases hw
  unfold ltR at hv
  split at hv
  · rename_i x y hx hy
    have h1 := h.2 _ hx; have h2 := k.1 _ hy
    split at hv
    · cases hv; simp; omega
    · exact lo hv
  · exact lo hv

def eqR (a b : Rg) : Option Bool :=
  match ltR a b with
  | some true => some false
  | _ => match ltR b a with
    | some true => some false
    | _ => match a, b with
      | (some x, some y), (some u, some v) => if x == y && (u == v && x == u) then some true else none
      | _, _ => none
theorem eqR_ok {a b : Rg} {n m : Int} (h : okR a n) (k : okR b m) {v : Bool} (hv : eqR a b = some v) : (n == m) = v := by
  unfold eqR at hv
  split at hv
  · rename_i hl
    have := ltR_ok h k hl
    cases hv; simp at this ⊢; omega
  · split at hv
    · rename_i hl
      have := ltR_ok k h hl
      cases hv; simp at this ⊢; omega
    · split at hv
      · rename_i x y u w
        split at hv
        · rename_i hc
          simp only [Bool.and_eq_true, beq_iff_eq] at hc
          cases hv
          have h1 := h.1 _ rfl; have h2 := h.2 _ rfl; have h3 := k.1 _ rfl; have h4 := k.2 _ rfl
          simp; omega
        · cases hv
      · cases hv

/-- A number and what is added to it. -/
def base : IT → IT × Int
  | .add a (.c n) => (a, n)
  | t => (t, 0)
theorem base_ok (σ : Val) (t : IT) : t.ev σ = (base t).1.ev σ + (base t).2 := by
  unfold base
  split
  · rfl
  · simp

/-- The difference of two numbers, if it is plain. -/
def diff (a b : IT) : Option Int := if IT.beq (base a).1 (base b).1 then some ((base a).2 - (base b).2) else none
theorem diff_ok (σ : Val) {a b : IT} {d : Int} (h : diff a b = some d) : a.ev σ - b.ev σ = d := by
  unfold diff at h
  split at h
  · rename_i he
    cases h
    rw [base_ok σ a, base_ok σ b, IT.beq_sound _ _ he]; omega
  · cases h

/-- 'a ≤ b' by what they are. -/
def leS : IT → IT → Bool
  | .min a b, w => IT.beq a w || IT.beq b w
  | _, _ => false
theorem leS_ok (σ : Val) (a b : IT) (h : leS a b = true) : a.ev σ ≤ b.ev σ := by
  unfold leS at h
  split at h
  · rename_i a b w
    simp only [Bool.or_eq_true] at h
    simp only [IT.ev]
    rcases h with h | h
    · rw [IT.beq_sound _ _ h]; split <;> omega
    · rw [IT.beq_sound _ _ h]; split <;> omega
  · cases h

def dLt (pc : PC) (a b : IT) : Option Bool :=
  match diff a b with
  | some d => some (decide (d < 0))
  | none => if leS b a then some false else ltR (rg pc a) (rg pc b)
theorem dLt_ok {σ : Val} {pc : PC} (h : σ.ok pc) {a b : IT} {v : Bool} (hv : dLt pc a b = some v) : decide (a.ev σ < b.ev σ) = v := by
  unfold dLt at hv
  split at hv
  · rename_i d hd
    have := diff_ok σ hd
    cases hv
    rw [decide_eq_decide]; omega
  · split at hv
    · rename_i hl
      have := leS_ok σ _ _ hl
      cases hv; simp; omega
    · exact ltR_ok (rg_ok h a) (rg_ok h b) hv

def dEq (pc : PC) (a b : IT) : Option Bool :=
  match diff a b with
  | some d => some (d == 0)
  | none => eqR (rg pc a) (rg pc b)
theorem dEq_ok {σ : Val} {pc : PC} (h : σ.ok pc) {a b : IT} {v : Bool} (hv : dEq pc a b = some v) : (a.ev σ == b.ev σ) = v := by
  unfold dEq at hv
  split at hv
  · rename_i d hd
    have := diff_ok σ hd
    cases hv
    rw [Bool.eq_iff_iff, beq_iff_eq, beq_iff_eq]; omega
  · exact eqR_ok (rg_ok h a) (rg_ok h b) hv

/-- The length of a text. -/
def mkSubS (hi lo : IT) : Option IT :=
  match lo with
  | .c n => some (mkAddC hi (-n))
  | lo => (diff hi lo).map .c
theorem mkSubS_ok (σ : Val) {hi lo t : IT} (h : mkSubS hi lo = some t) : t.ev σ = hi.ev σ - lo.ev σ := by
  unfold mkSubS at h
  split at h
  · cases h; rw [mkAddC_ok]; simp only [IT.ev]; omega
  · rename_i lo' _
    cases hd : diff hi lo with
    | none => simp [hd] at h
    | some d => simp [hd] at h; subst h; have := diff_ok σ hd; simp only [IT.ev]; omega

def leB (pc : PC) (a b : IT) : Bool := match dLt pc b a with | some false => true | _ => false
theorem leB_ok {σ : Val} {pc : PC} (h : σ.ok pc) {a b : IT} (hl : leB pc a b = true) : a.ev σ ≤ b.ev σ := by
  unfold leB at hl
  split at hl
  · rename_i hd
    have := dLt_ok h hd
    simpa using this
  · cases hl

def mkLen (pc : PC) : ST → IT
  | .c l => .c l.length
  | .x i => .len (.x i)
  | .sub s lo hi =>
    if leB pc (.c 0) lo && (leB pc lo hi && leB pc hi (mkLen pc s)) then (mkSubS hi lo).getD (.len (.sub s lo hi)) else .len (.sub s lo hi)
  | .cat a b => mkAdd (mkLen pc a) (mkLen pc b)
theorem mkLen_ok {σ : Val} {pc : PC} (h : σ.ok pc) : ∀ (s : ST), (mkLen pc s).ev σ = (s.ev σ).length
  | .c l => rfl
  | .x i => rfl
  | .sub s lo hi => by
    have ih := mkLen_ok h s
    simp only [mkLen]
    split
    · rename_i hc
      simp only [Bool.and_eq_true] at hc
      have h1 := leB_ok h hc.1; have h2 := leB_ok h hc.2.1; have h3 := leB_ok h hc.2.2
      cases hm : mkSubS hi lo with
      | none => simp [IT.ev]
      | some t =>
        simp only [Option.getD_some]
        rw [mkSubS_ok σ hm]
        simp only [IT.ev] at h1
        simp only [ST.ev, extractL, List.length_take, List.length_drop]
        rw [ih] at h3
        omega
    · rfl
  | .cat a b => by
    simp only [mkLen, mkAdd_ok, ST.ev, List.length_append]
    rw [mkLen_ok h a, mkLen_ok h b]; omega

def lookB (b : BT) : List (BT × Bool) → Option Bool
  | [] => none
  | f :: l => if BT.beq f.1 b then some f.2 else lookB b l
theorem lookB_ok {σ : Val} (b : BT) {v : Bool} : ∀ (l : List (BT × Bool)), (∀ f ∈ l, f.1.ev σ = f.2) → lookB b l = some v → b.ev σ = v
  | [], _, h => by cases h
  | f :: l, hf, h => by
    simp only [lookB] at h
    split at h
    · rename_i he
      cases h
      rw [← BT.beq_sound σ _ _ he]; exact hf f (by simp)
    · exact lookB_ok b l (fun g hg => hf g (by simp [hg])) h

def dEqS (pc : PC) (a b : ST) : Option Bool :=
  if ST.beq a b then some true
  else match a, b with
    | .c x, .c y => some (x == y)
    | a, b => match eqR (rg pc (mkLen pc a)) (rg pc (mkLen pc b)) with
      | some false => some false
      | some true => (match rg pc (mkLen pc a) with | (_, some 0) => some true | _ => none)
      | none => none
theorem dEqS_ok {σ : Val} {pc : PC} (h : σ.ok pc) {a b : ST} {v : Bool} (hv : dEqS pc a b = some v) : (a.ev σ == b.ev σ) = v := by
  unfold dEqS at hv
  split at hv
  · rename_i he
    cases hv
    rw [ST.beq_sound _ _ he]; simp
  · split at hv
    · cases hv; rfl
    · rename_i a' b' _
      have ha := rg_ok h (mkLen pc a); have hb := rg_ok h (mkLen pc b)
      rw [mkLen_ok h] at ha hb
      split at hv
      · rename_i hr
        have := eqR_ok ha hb hr
        cases hv
        simp only [beq_eq_false_iff_ne, ne_eq] at this ⊢
        intro hh; rw [hh] at this; exact this rfl
      · rename_i hr
        have := eqR_ok ha hb hr
        split at hv
        · rename_i o hz
          rw [hz] at ha
          have h0 := ha.2 0 rfl
          cases hv
          simp only [beq_iff_eq] at this
          have e1 : a.ev σ = [] := List.eq_nil_of_length_eq_zero (by omega)
          have e2 : b.ev σ = [] := List.eq_nil_of_length_eq_zero (by omega)
          rw [e1, e2]; rfl
        · cases hv
      · cases hv

/-- A truth, decided. -/
def dB (pc : PC) : BT → Option Bool
  | .c b => some b
  | .not a => (dB pc a).map (!·)
  | .eq a b => (dEq pc a b).orElse fun _ => lookB (.eq a b) pc.rb
  | .lt a b => (dLt pc a b).orElse fun _ => lookB (.lt a b) pc.rb
  | .le a b => ((dLt pc b a).map (!·)).orElse fun _ => lookB (.le a b) pc.rb
  | .eqS a b => (dEqS pc a b).orElse fun _ => lookB (.eqS a b) pc.rb
  | .x i => lookB (.x i) pc.rb
  | .p i s => lookB (.p i s) pc.rb

theorem orElse_some {a : Option Bool} {f : Unit → Option Bool} {v : Bool} (h : a.orElse f = some v) : a = some v ∨ f () = some v := by
  cases a with
  | none => exact .inr h
  | some x => exact .inl h

theorem dB_ok {σ : Val} {pc : PC} (h : σ.ok pc) : ∀ (b : BT) {v : Bool}, dB pc b = some v → b.ev σ = v
  | .c b, v, hv => by cases hv; rfl
  | .not a, v, hv => by
    simp only [dB, Option.map_eq_some_iff] at hv
    obtain ⟨w, hw, rfl⟩ := hv
    simp only [BT.ev, dB_ok h a hw]
  | .eq a b, v, hv => by
    rcases orElse_some hv with hv | hv
    · exact dEq_ok h hv
    · exact lookB_ok _ _ h.rb hv
  | .lt a b, v, hv => by
    rcases orElse_some hv with hv | hv
    · exact dLt_ok h hv
    · exact lookB_ok _ _ h.rb hv
  | .le a b, v, hv => by
    rcases orElse_some hv with hv | hv
    · simp only [Option.map_eq_some_iff] at hv
      obtain ⟨w, hw, rfl⟩ := hv
      have := dLt_ok h hw
      subst this
      simp only [BT.ev]
      rw [Bool.eq_iff_iff]; simp
    · exact lookB_ok _ _ h.rb hv
  | .eqS a b, v, hv => by
    rcases orElse_some hv with hv | hv
    · exact dEqS_ok h hv
    · exact lookB_ok _ _ h.rb hv
  | .x i, v, hv => lookB_ok _ _ h.rb hv
  | .p i s, v, hv => lookB_ok _ _ h.rb hv

/-- A range of a number, as one of what it is made of. -/
def bnd (t : IT) (r : Rg) : IT × Rg := ((base t).1, addR r (some (-(base t).2), some (-(base t).2)))
theorem bnd_ok {σ : Val} {t : IT} {r : Rg} (h : okR r (t.ev σ)) : okR (bnd t r).2 ((bnd t r).1.ev σ) := by
  have := h.add (okR.one (-(base t).2))
  rw [base_ok σ t] at this
  simp only [bnd]
  rwa [show (base t).1.ev σ + (base t).2 + -(base t).2 = (base t).1.ev σ by omega] at this

def succO (a : Option Int) : Option Int := match a with | some x => some (x + 1) | none => none
def neLo (a : Rg) (n : Option Int) : Rg :=
  match n with
  | some n => (match a.1 with | some l => if l == n then some (n + 1) else none | none => none, match a.2 with | some u => if u == n then some (n - 1) else none | none => none)
  | none => (none, none)
def one? (a : Rg) : Option Int := match a with | (some x, some y) => if x == y then some x else none | _ => none

theorem one?_ok {a : Rg} {n m : Int} (h : okR a n) (k : one? a = some m) : n = m := by
  unfold one? at k
  split at k
  · rename_i x y
    split at k
    · rename_i hxy
      cases k
      have h1 := h.1 _ rfl; have h2 := h.2 _ rfl
      have : m = y := by simpa using hxy
      omega
    · cases k
  · cases k
theorem neLo_ok {a b : Rg} {n m : Int} (h : okR a n) (k : okR b m) (hn : n ≠ m) : okR (neLo a (one? b)) n := by
  unfold neLo
  split
  · rename_i q hq
    have := one?_ok k hq
    subst this
    refine ⟨fun x hx => ?_, fun x hx => ?_⟩
    · simp only at hx
      split at hx
      · rename_i l hl
        have := h.1 l hl
        split at hx
        · rename_i he; have : l = m := by simpa using he
          cases hx; omega
        · cases hx
      · cases hx
    · simp only at hx
      split at hx
      · rename_i l hl
        have := h.2 l hl
        split at hx
        · rename_i he; have : l = m := by simpa using he
          cases hx; omega
        · cases hx
      · cases hx
  · exact okR.none _

/-- What a truth tells of ranges. -/
def refi (pc : PC) : BT → Bool → List (IT × Rg)
  | .eq a b, true => [bnd a (rg pc b), bnd b (rg pc a)]
  | .eq a b, false => [bnd a (neLo (rg pc a) (one? (rg pc b))), bnd b (neLo (rg pc b) (one? (rg pc a)))]
  | .lt a b, true => [bnd a (none, subHi (rg pc b).2), bnd b (succO (rg pc a).1, none)]
  | .lt a b, false => [bnd a ((rg pc b).1, none), bnd b (none, (rg pc a).2)]
  | .le a b, true => [bnd a (none, (rg pc b).2), bnd b ((rg pc a).1, none)]
  | .le a b, false => [bnd a (succO (rg pc b).1, none), bnd b (none, subHi (rg pc a).2)]
  | .eqS a b, true => [bnd (mkLen pc a) (rg pc (mkLen pc b)), bnd (mkLen pc b) (rg pc (mkLen pc a))]
  | .eqS a (.c []), false => [bnd (mkLen pc a) (some 1, none)]
  | .not a, v => refi pc a (!v)
  | _, _ => []

theorem subHi_ok {a : Option Int} {n m : Int} (h : okHi a m) (hn : n < m) : okHi (subHi a) n := by
  intro x hx
  unfold subHi at hx
  split at hx
  · rename_i y; cases hx; have := h y rfl; omega
  · cases hx
theorem succO_ok {a : Option Int} {n m : Int} (h : okLo a m) (hn : m < n) : okLo (succO a) n := by
  intro x hx
  unfold succO at hx
  split at hx
  · rename_i y; cases hx; have := h y rfl; omega
  · cases hx
theorem okHi.le {a : Option Int} {n m : Int} (h : okHi a m) (hn : n ≤ m) : okHi a n := fun x hx => by have := h x hx; omega
theorem okLo.le {a : Option Int} {n m : Int} (h : okLo a m) (hn : m ≤ n) : okLo a n := fun x hx => by have := h x hx; omega

theorem refi_ok {σ : Val} {pc : PC} (h : σ.ok pc) : ∀ (b : BT) (v : Bool), b.ev σ = v → ∀ f ∈ refi pc b v, okR f.2 (f.1.ev σ)
  | .eq a b, true, hv => by
    have e : a.ev σ = b.ev σ := by simpa [BT.ev] using hv
    intro f hf
    simp only [refi, List.mem_cons, List.not_mem_nil, or_false] at hf
    rcases hf with rfl | rfl
    · exact bnd_ok (by rw [e]; exact rg_ok h b)
    · exact bnd_ok (by rw [← e]; exact rg_ok h a)
  | .eq a b, false, hv => by
    have e : a.ev σ ≠ b.ev σ := by simpa [BT.ev] using hv
    intro f hf
    simp only [refi, List.mem_cons, List.not_mem_nil, or_false] at hf
    rcases hf with rfl | rfl
    · exact bnd_ok (neLo_ok (rg_ok h a) (rg_ok h b) e)
    · exact bnd_ok (neLo_ok (rg_ok h b) (rg_ok h a) (Ne.symm e))
  | .lt a b, true, hv => by
    have e : a.ev σ < b.ev σ := by simpa [BT.ev] using hv
    intro f hf
    simp only [refi, List.mem_cons, List.not_mem_nil, or_false] at hf
    rcases hf with rfl | rfl
    · exact bnd_ok ⟨okLo.none _, subHi_ok (rg_ok h b).2 e⟩
    · exact bnd_ok ⟨succO_ok (rg_ok h a).1 e, okHi.none _⟩
  | .lt a b, false, hv => by
    have e : b.ev σ ≤ a.ev σ := by simpa [BT.ev] using hv
    intro f hf
    simp only [refi, List.mem_cons, List.not_mem_nil, or_false] at hf
    rcases hf with rfl | rfl
    · exact bnd_ok ⟨(rg_ok h b).1.le e, okHi.none _⟩
    · exact bnd_ok ⟨okLo.none _, (rg_ok h a).2.le e⟩
  | .le a b, true, hv => by
    have e : a.ev σ ≤ b.ev σ := by simpa [BT.ev] using hv
    intro f hf
    simp only [refi, List.mem_cons, List.not_mem_nil, or_false] at hf
    rcases hf with rfl | rfl
    · exact bnd_ok ⟨okLo.none _, (rg_ok h b).2.le e⟩
    · exact bnd_ok ⟨(rg_ok h a).1.le e, okHi.none _⟩
  | .le a b, false, hv => by
    have e : b.ev σ < a.ev σ := by simpa [BT.ev] using hv
    intro f hf
    simp only [refi, List.mem_cons, List.not_mem_nil, or_false] at hf
    rcases hf with rfl | rfl
    · exact bnd_ok ⟨succO_ok (rg_ok h b).1 e, okHi.none _⟩
    · exact bnd_ok ⟨okLo.none _, subHi_ok (rg_ok h a).2 e⟩
  | .eqS a b, true, hv => by
    have e : a.ev σ = b.ev σ := by simpa [BT.ev] using hv
    have ha := rg_ok h (mkLen pc a); have hb := rg_ok h (mkLen pc b)
    have el : (mkLen pc a).ev σ = (mkLen pc b).ev σ := by rw [mkLen_ok h, mkLen_ok h, e]
    intro f hf
    simp only [refi, List.mem_cons, List.not_mem_nil, or_false] at hf
    rcases hf with rfl | rfl
    · exact bnd_ok (by rw [el]; exact hb)
    · exact bnd_ok (by rw [← el]; exact ha)
  | .eqS a b, false, hv => by
    intro f hf
    have e : a.ev σ ≠ b.ev σ := by simpa [BT.ev] using hv
    cases b with
    | c l =>
      cases l with
      | nil =>
        simp only [refi, List.mem_cons, List.not_mem_nil, or_false] at hf
        subst hf
        refine bnd_ok ⟨fun x hx => ?_, okHi.none _⟩
        cases hx
        rw [mkLen_ok h]
        simp only [ST.ev] at e
        have := List.length_pos_iff.2 e
        omega
      | cons => simp [refi] at hf
    | _ => simp [refi] at hf
  | .not a, v, hv => by
    intro f hf
    simp only [refi] at hf
    exact refi_ok h a (!v) (by simp only [BT.ev] at hv; rw [← hv]; simp) f hf
  | .c _, _, _ => by intro f hf; simp [refi] at hf
  | .x _, _, _ => by intro f hf; simp [refi] at hf
  | .p _ _, _, _ => by intro f hf; simp [refi] at hf

def trivR (f : IT × Rg) : Bool := match f.1, f.2 with | .c _, _ => true | _, (none, none) => true | _, _ => false
def notTriv : List (IT × Rg) → List (IT × Rg)
  | [] => []
  | f :: l => if trivR f then notTriv l else f :: notTriv l
theorem notTriv_mem : ∀ (l : List (IT × Rg)) (f : IT × Rg), f ∈ notTriv l → f ∈ l
  | [], f, h => by simp [notTriv] at h
  | g :: l, f, h => by
    simp only [notTriv] at h
    split at h
    · exact List.mem_cons_of_mem _ (notTriv_mem l f h)
    · rcases List.mem_cons.1 h with rfl | h
      · exact List.mem_cons_self
      · exact List.mem_cons_of_mem _ (notTriv_mem l f h)

def appR : List (IT × Rg) → List (IT × Option Int × Option Int) → List (IT × Option Int × Option Int)
  | [], l => l
  | f :: r, l => f :: appR r l
theorem appR_mem : ∀ (r : List (IT × Rg)) (l : List (IT × Option Int × Option Int)) (f : IT × Rg), f ∈ appR r l → f ∈ r ∨ f ∈ l
  | [], l, f, h => .inr h
  | g :: r, l, f, h => by
    simp only [appR, List.mem_cons] at h
    rcases h with rfl | h
    · exact .inl (by simp)
    · rcases appR_mem r l f h with h | h
      · exact .inl (by simp [h])
      · exact .inr h

def PC.know (pc : PC) (b : BT) (v : Bool) : PC := ⟨appR (notTriv (refi pc b v)) pc.ri, (b, v) :: pc.rb⟩
theorem PC.know_ok {σ : Val} {pc : PC} (h : σ.ok pc) {b : BT} {v : Bool} (hv : b.ev σ = v) : σ.ok (pc.know b v) :=
  ⟨fun f hf => by
    rcases appR_mem _ _ _ hf with hf | hf
    · exact refi_ok h b v hv f (notTriv_mem _ _ hf)
    · exact h.ri f hf,
   fun f hf => by
    rcases List.mem_cons.1 hf with rfl | hf
    · exact hv
    · exact h.rb f hf, h.s⟩

def empR (r : Rg) : Bool := match r with | (some a, some b) => decide (b < a) | _ => false
theorem empR_ok {r : Rg} {n : Int} (h : okR r n) : empR r = false := by
  unfold empR
  split
  · have := h.1 _ rfl; have := h.2 _ rfl; simp; omega
  · rfl
def anyEmp (pc : PC) : List (IT × Rg) → Bool
  | [] => false
  | f :: l => empR (rg pc f.1) || anyEmp pc l
theorem anyEmp_ok {σ : Val} {pc : PC} (h : σ.ok pc) : ∀ l, anyEmp pc l = false
  | [] => rfl
  | f :: l => by simp only [anyEmp, empR_ok (rg_ok h f.1), anyEmp_ok h l, Bool.or_false]

/-- A truth known, unless it can't be. -/
def assume (pc : PC) (b : BT) (v : Bool) : List (PC × Bool) :=
  if anyEmp (pc.know b v) (refi pc b v) then [] else [(pc.know b v, v)]
theorem assume_ok {σ : Val} {pc : PC} (h : σ.ok pc) {b : BT} {v : Bool} (hv : b.ev σ = v) : ∃ o ∈ assume pc b v, σ.ok o.1 ∧ o.2 = v := by
  unfold assume
  have := PC.know_ok h hv
  rw [if_neg (by rw [anyEmp_ok this]; simp)]
  exact ⟨_, List.mem_cons_self, this, rfl⟩

def app2 : List (PC × Bool) → List (PC × Bool) → List (PC × Bool)
  | [], m => m
  | x :: l, m => x :: app2 l m
theorem app2_eq : ∀ l m, app2 l m = l ++ m
  | [], _ => rfl
  | x :: l, m => by simp [app2, app2_eq l m]

/-- Is it so? Where nothing tells: both. -/
def split (pc : PC) (b : BT) : List (PC × Bool) :=
  match dB pc b with
  | some v => [(pc, v)]
  | none => app2 (assume pc b true) (assume pc b false)
theorem split_ok {σ : Val} {pc : PC} (h : σ.ok pc) (b : BT) : ∃ o ∈ split pc b, σ.ok o.1 ∧ b.ev σ = o.2 := by
  unfold split
  split
  · rename_i v hv
    exact ⟨_, List.mem_cons_self, h, dB_ok h b hv⟩
  · cases hv : b.ev σ with
    | true => obtain ⟨o, h1, h2, h3⟩ := assume_ok h hv; exact ⟨o, by rw [app2_eq]; simp [h1], h2, h3.symm⟩
    | false => obtain ⟨o, h1, h2, h3⟩ := assume_ok h hv; exact ⟨o, by rw [app2_eq]; simp [h1], h2, h3.symm⟩

end Gw
