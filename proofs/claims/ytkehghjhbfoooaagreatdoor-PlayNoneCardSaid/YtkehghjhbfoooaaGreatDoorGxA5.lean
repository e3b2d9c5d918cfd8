/- How the machine's values and memory stand for the model's. -/
import Derived.Test.YtkehghjhbfoooaaGreatDoorGxA2
import Derived.Test.YtkehghjhbfoooaaGreatDoorGxA4
import Derived.Below
import Derived.Laws.Cells
import Derived.Laws.StructEq
import Derived.Laws.Append
noncomputable section
namespace Gw
set_option linter.unusedSimpArgs false
open Go

structure Loc where
  b : Nat
  o : Nat
  z : Nat

abbrev Rho := Nat → Option Loc

def SR (ρ : Rho) (i o l e : Nat) (c : Option Nat) (a : Addr) (k : Nat) : Prop :=
  l ≤ k ∧ (∀ c', c = some c' → k = c') ∧ ∃ L, ρ i = some L ∧ a.block = L.b ∧ (k = 0 ∨ (a = ⟨L.b, L.o + o, none⟩ ∧ L.o + o + k * e ≤ L.z))
theorem SR.at {ρ : Rho} {i o l e : Nat} {c : Option Nat} {a : Addr} {k : Nat} (h : SR ρ i o l e c a k) (hk : ¬ k = 0) : ∃ L, ρ i = some L ∧ a = ⟨L.b, L.o + o, none⟩ ∧ L.o + o + k * e ≤ L.z := by
  obtain ⟨_, _, L, h1, _, h3⟩ := h
  exact ⟨L, h1, h3.resolve_left hk⟩
theorem SR.here {ρ : Rho} {i o e : Nat} {a : Addr} {k : Nat} {L : Loc} (h1 : ρ i = some L) (h2 : a = ⟨L.b, L.o + o, none⟩) (h3 : L.o + o + k * e ≤ L.z) : ∃ L, ρ i = some L ∧ a.block = L.b ∧ (k = 0 ∨ (a = ⟨L.b, L.o + o, none⟩ ∧ L.o + o + k * e ≤ L.z)) :=
  ⟨L, h1, by rw [h2], .inr ⟨h2, h3⟩⟩

mutual
def VR (ρ : Rho) : V → Value → Prop
  | .bool b, x => x = .bool b
  | .int k n, x => x = .int k n
  | .str s, x => x = .string ⟨⟨s⟩⟩
  | .nilp, x => x = .pointer none
  | .ptr i o, x => ∃ L, ρ i = some L ∧ x = .pointer (some ⟨L.b, L.o + o, none⟩)
  | .nils, x => x = .slice none 0 0
  | .slice i o l e c, x => ∃ a k, x = .slice (some a) l k ∧ SR ρ i o l e c a k
  | .nilm, x => x = .map none
  | .map i, x => ∃ L, ρ i = some L ∧ x = .map (some L.b)
  | .nilf, x => x = .nilFunc
  | .func f c, x => ∃ a, x = .func (.func f) #[] ⟨a⟩ ∧ VRs ρ c a
  | .nili, x => x = .nilIface
  | .iface t v, x => ∃ y, x = .iface t y ∧ VR ρ v y
  | .agg l, x => ∃ a, x = .agg ⟨a⟩ ∧ VRs ρ l a
  | .tup l, x => isAnyL l = true ∨ ∃ a, x = .tuple ⟨a⟩ ∧ VRs ρ l a
def VRs (ρ : Rho) : List V → List Value → Prop
  | [], ys => ys = []
  | v :: l, ys => ∃ y ys', ys = y :: ys' ∧ VR ρ v y ∧ VRs ρ l ys'
end

def Le (ρ ρ' : Rho) : Prop := ∀ i L, ρ i = some L → ρ' i = some L
theorem Le.refl (ρ : Rho) : Le ρ ρ := fun _ _ h => h
theorem Le.trans {a b c : Rho} (h : Le a b) (k : Le b c) : Le a c := fun i L x => k i L (h i L x)

mutual
theorem VR.mono {ρ ρ' : Rho} (hl : Le ρ ρ') : ∀ (v : V) (x : Value), VR ρ v x → VR ρ' v x
  | .bool _, _, h => h
  | .int _ _, _, h => h
  | .str _, _, h => h
  | .nilp, _, h => h
  | .ptr _ _, _, h => by obtain ⟨L, h1, h2⟩ := h; exact ⟨L, hl _ _ h1, h2⟩
  | .nils, _, h => h
  | .slice _ _ _ _ _, _, h => by
    obtain ⟨a, k, h1, h2, h3, L, h5, h6⟩ := h
    exact ⟨a, k, h1, h2, h3, L, hl _ _ h5, h6⟩
  | .nilm, _, h => h
  | .map _, _, h => by obtain ⟨L, h1, h2⟩ := h; exact ⟨L, hl _ _ h1, h2⟩
  | .nilf, _, h => h
  | .func _ c, _, h => by obtain ⟨a, h1, h2⟩ := h; exact ⟨a, h1, VRs.mono hl c a h2⟩
  | .nili, _, h => h
  | .iface _ v, _, h => by obtain ⟨y, h1, h2⟩ := h; exact ⟨y, h1, VR.mono hl v y h2⟩
  | .agg l, _, h => by obtain ⟨a, h1, h2⟩ := h; exact ⟨a, h1, VRs.mono hl l a h2⟩
  | .tup l, _, h => by
    rcases h with h | ⟨a, h1, h2⟩
    · exact .inl h
    · exact .inr ⟨a, h1, VRs.mono hl l a h2⟩
theorem VRs.mono {ρ ρ' : Rho} (hl : Le ρ ρ') : ∀ (l : List V) (x : List Value), VRs ρ l x → VRs ρ' l x
  | [], _, h => h
  | v :: l, _, h => by obtain ⟨y, ys, h1, h2, h3⟩ := h; exact ⟨y, ys, h1, VR.mono hl v y h2, VRs.mono hl l ys h3⟩
end

theorem VRs.nil_iff {ρ : Rho} {x : List Value} : VRs ρ [] x ↔ x = [] := by simp only [VRs]
theorem VRs.cons {ρ : Rho} {v : V} {l : List V} {y : Value} {ys : List Value} (h : VR ρ v y) (hs : VRs ρ l ys) : VRs ρ (v :: l) (y :: ys) := ⟨y, ys, rfl, h, hs⟩

theorem VRs.length {ρ : Rho} : ∀ {l : List V} {x : List Value}, VRs ρ l x → x.length = l.length := by
  intro l
  induction l with
  | nil => intro x h; rw [VRs.nil_iff] at h; subst h; rfl
  | cons v l ih => intro x h; obtain ⟨y, ys, rfl, _, h3⟩ := h; simp [ih h3]

theorem VRs.get {ρ : Rho} : ∀ {l : List V} {x : List Value}, VRs ρ l x → ∀ {i : Nat} {v : V}, l[i]? = some v → ∃ y, x[i]? = some y ∧ VR ρ v y := by
  intro l
  induction l with
  | nil => intro x h i v hi; simp at hi
  | cons u l ih =>
    intro x h i v hi
    obtain ⟨y, ys, rfl, h2, h3⟩ := h
    cases i with
    | zero => simp at hi; subst hi; exact ⟨y, by simp, h2⟩
    | succ i => simp at hi; obtain ⟨z, hz, hr⟩ := ih h3 hi; exact ⟨z, by simpa using hz, hr⟩

theorem VRs.of {ρ : Rho} : ∀ {l : List V} {x : List Value}, x.length = l.length → (∀ (i : Nat) (v : V), l[i]? = some v → ∃ y, x[i]? = some y ∧ VR ρ v y) → VRs ρ l x := by
  intro l
  induction l with
  | nil => intro x h _; rw [VRs.nil_iff]; exact List.eq_nil_of_length_eq_zero (by simpa using h)
  | cons v l ih =>
    intro x h hx
    cases x with
    | nil => simp at h
    | cons y ys =>
      refine ⟨y, ys, rfl, ?_, ih (by simpa using h) fun i u hu => ?_⟩
      · obtain ⟨z, hz, hr⟩ := hx 0 v (by simp); simp at hz; subst hz; exact hr
      · obtain ⟨z, hz, hr⟩ := hx (i + 1) u (by simpa using hu); exact ⟨z, by simpa using hz, hr⟩

theorem VRs.append {ρ : Rho} {l m : List V} {x y : List Value} (h : VRs ρ l x) (k : VRs ρ m y) : VRs ρ (l ++ m) (x ++ y) := by
  induction l generalizing x with
  | nil => rw [VRs.nil_iff] at h; subst h; exact k
  | cons v l ih => obtain ⟨z, zs, rfl, h2, h3⟩ := h; exact ⟨z, zs ++ y, rfl, h2, ih h3⟩

theorem cellAt_eq : ∀ (l : List V) (i : Nat), cellAt l i = l[i]?
  | [], i => by cases i <;> rfl
  | v :: l, 0 => by simp [cellAt]
  | v :: l, i + 1 => by simp [cellAt, cellAt_eq l i]

theorem takeN_some : ∀ (l : List V) (n : Nat) (r : List V), takeN l n = some r → r = l.take n ∧ n ≤ l.length
  | l, 0, r, h => by cases l <;> simp [takeN] at h <;> subst h <;> simp
  | [], n + 1, r, h => by simp [takeN] at h
  | v :: l, n + 1, r, h => by
    simp only [takeN] at h
    cases ht : takeN l n with
    | none => simp [ht] at h
    | some r' =>
      simp only [ht, Option.map_some, Option.some.injEq] at h
      obtain ⟨h1, h2⟩ := takeN_some l n r' ht
      subst h; subst h1
      exact ⟨by simp, by simpa using h2⟩

theorem cellsAt_some : ∀ (l : List V) (o n : Nat) (r : List V), cellsAt l o n = some r → r = (l.drop o).take n ∧ (n ≠ 0 → o + n ≤ l.length) ∧ r.length = n
  | l, 0, n, r, h => by
    have : takeN l n = some r := by cases l <;> exact h
    obtain ⟨h1, h2⟩ := takeN_some l n r this
    subst h1
    exact ⟨by simp, fun _ => by simpa using h2, by simp; omega⟩
  | [], o + 1, n, r, h => by
    simp only [cellsAt] at h
    split at h
    · rename_i hn; simp at h; subst h; subst hn; simp
    · cases h
  | v :: l, o + 1, n, r, h => by
    simp only [cellsAt] at h
    obtain ⟨h1, h2, h3⟩ := cellsAt_some l o n r h
    exact ⟨by simpa using h1, fun hn => by have := h2 hn; simp; omega, h3⟩

theorem putAt_some : ∀ (l : List V) (o : Nat) (vs r : List V), putAt l o vs = some r →
    r.length = l.length ∧ o + vs.length ≤ l.length ∧ ∀ k, r[k]? = if o ≤ k ∧ k < o + vs.length then vs[k - o]? else l[k]?
  | l, 0, [], r, h => by
    have : r = l := by cases l <;> simp [putAt] at h <;> first | exact h.symm | exact h
    subst this
    exact ⟨rfl, by simp, fun k => by rw [if_neg (by simp)]⟩
  | x :: l, 0, v :: vs, r, h => by
    simp only [putAt] at h
    cases hp : putAt l 0 vs with
    | none => simp [hp] at h
    | some r' =>
      simp only [hp, Option.map_some, Option.some.injEq] at h
      subst h
      obtain ⟨h1, h2, h3⟩ := putAt_some l 0 vs r' hp
      refine ⟨by simp [h1], by simp; omega, fun k => ?_⟩
      cases k with
      | zero => simp
      | succ k => simp only [List.getElem?_cons_succ, h3 k, List.length_cons]; simp
  | [], 0, v :: vs, r, h => by simp [putAt] at h
  | x :: l, o + 1, vs, r, h => by
    simp only [putAt] at h
    cases hp : putAt l o vs with
    | none => simp [hp] at h
    | some r' =>
      simp only [hp, Option.map_some, Option.some.injEq] at h
      subst h
      obtain ⟨h1, h2, h3⟩ := putAt_some l o vs r' hp
      refine ⟨by simp [h1], by simp; omega, fun k => ?_⟩
      cases k with
      | zero => simp
      | succ k =>
        simp only [List.getElem?_cons_succ, h3 k]
        have e2 : k + 1 - (o + 1) = k - o := by omega
        rw [e2]
        by_cases e : o ≤ k ∧ k < o + vs.length
        · rw [if_pos e, if_pos (by omega)]
        · rw [if_neg e, if_neg (by omega)]
  | [], o + 1, vs, r, h => by cases vs <;> simp [putAt] at h

theorem nth_eq : ∀ (l : List V) (i : Nat), nth l i = (l[i]?).getD undefV
  | [], i => by simp [nth_nil, nth_zero]
  | v :: l, 0 => by simp [nth_nil, nth_zero]
  | v :: l, i + 1 => by simp [nth_succ, nth_eq l i]
theorem upd_eq : ∀ (l : List V) (i : Nat) (v : V), upd l i v = l.set i v
  | [], i, v => by simp [upd_nil, upd_zero]
  | x :: l, 0, v => by simp [upd_nil, upd_zero]
  | x :: l, i + 1, v => by simp [upd_succ, upd_eq l i v]

def TR (ρ : Rho) (t : List V) (a : Array Value) : Prop := VRs ρ t a.toList

/-- A slot of which nothing is known. -/
theorem VR.any (ρ : Rho) (x : Value) : VR ρ anyV x := by
  simp only [anyV, VR]
  exact .inl rfl
theorem VR.undef (ρ : Rho) : VR ρ undefV undef := by
  simp only [undefV, VR]
  exact .inr ⟨[], rfl, by simp [VRs]⟩

theorem TR.nth {ρ : Rho} {t : List V} {a : Array Value} (h : TR ρ t a) (i : Nat) : VR ρ (nth t i) (a.getD i undef) := by
  rw [nth_eq]
  cases hi : t[i]? with
  | none =>
    have hl := VRs.length h
    have : t.length ≤ i := by simpa using hi
    rw [Array.getD_eq_getD_getElem?]
    have : a[i]? = none := by rw [Array.getElem?_eq_none]; simp at hl; omega
    rw [this]; exact VR.undef ρ
  | some v =>
    obtain ⟨y, hy, hr⟩ := VRs.get h hi
    rw [Array.getD_eq_getD_getElem?]
    have : a[i]? = some y := by rw [← Array.getElem?_toList]; exact hy
    rw [this]; exact hr

theorem VRs.set {ρ : Rho} : ∀ {l : List V} {x : List Value}, VRs ρ l x → ∀ (i : Nat) {v : V} {y : Value}, VR ρ v y → VRs ρ (l.set i v) (x.set i y) := by
  intro l
  induction l with
  | nil => intro x h i v y _; rw [VRs.nil_iff] at h; subst h; simp [VRs]
  | cons u l ih =>
    intro x h i v y hv
    obtain ⟨z, zs, rfl, h2, h3⟩ := h
    cases i with
    | zero => exact ⟨y, zs, rfl, hv, h3⟩
    | succ i => exact ⟨z, zs.set i y, rfl, h2, ih h3 i hv⟩

theorem TR.put {ρ : Rho} {t : List V} {a : Act} (h : TR ρ t a.tmps) (d : Option Nat) {v : V} {x : Value} (hv : VR ρ v x) : TR ρ (putD t d v) (a.put d x).tmps := by
  cases d with
  | none => exact h
  | some d =>
    simp only [putD, upd_eq, Act.put, TR, Array.toList_setIfInBounds]
    exact VRs.set h d hv

/-- Package-level variables stand where the model has them. -/
def GR (ρ : Rho) : Prop := ∀ g : Nat, g < NG → ∃ z, ρ g = some ⟨g, 0, z⟩

mutual
theorem cV_sound (ρ : Rho) : ∀ (x : Value) (v : V), cV x = some v → VR ρ v x
  | .bool b, v, h => by simp only [cV, Option.some.injEq] at h; subst h; simp [VR]
  | .int k n, v, h => by simp only [cV, Option.some.injEq] at h; subst h; simp [VR]
  | .float _ _, v, h => by simp [cV] at h
  | .complex _ _ _, v, h => by simp [cV] at h
  | .string s, v, h => by simp only [cV, Option.some.injEq] at h; subst h; simp [VR]
  | .pointer none, v, h => by simp only [cV, Option.some.injEq] at h; subst h; simp [VR]
  | .pointer (some _), v, h => by simp [cV] at h
  | .slice none 0 0, v, h => by simp only [cV, Option.some.injEq] at h; subst h; simp [VR]
  | .slice none 0 (_ + 1), v, h => by simp [cV] at h
  | .slice none (_ + 1) _, v, h => by simp [cV] at h
  | .slice (some _) _ _, v, h => by simp [cV] at h
  | .map none, v, h => by simp only [cV, Option.some.injEq] at h; subst h; simp [VR]
  | .map (some _), v, h => by simp [cV] at h
  | .chan _, v, h => by simp [cV] at h
  | .func _ _ _, v, h => by simp [cV] at h
  | .nilFunc, v, h => by simp only [cV, Option.some.injEq] at h; subst h; simp [VR]
  | .iface _ _, v, h => by simp [cV] at h
  | .nilIface, v, h => by simp only [cV, Option.some.injEq] at h; subst h; simp [VR]
  | .agg cs, v, h => by
    simp only [cV] at h
    cases hc : cVa cs with
    | none => simp [hc] at h
    | some l =>
      simp only [hc, Option.map_some, Option.some.injEq] at h
      subst h
      simp only [VR]
      exact ⟨cs.toList, rfl, cVa_sound ρ cs l hc⟩
  | .tuple cs, v, h => by
    simp only [cV] at h
    cases hc : cVa cs with
    | none => simp [hc] at h
    | some l =>
      simp only [hc, Option.map_some, Option.some.injEq] at h
      subst h
      simp only [VR]
      exact .inr ⟨cs.toList, rfl, cVa_sound ρ cs l hc⟩
theorem cVa_sound (ρ : Rho) : ∀ (x : Array Value) (l : List V), cVa x = some l → VRs ρ l x.toList
  | ⟨xs⟩, l, h => by
    simp only [cVa] at h
    exact cVs_sound ρ xs l h
theorem cVs_sound (ρ : Rho) : ∀ (x : List Value) (l : List V), cVs x = some l → VRs ρ l x
  | [], l, h => by simp only [cVs, Option.some.injEq] at h; subst h; simp [VRs]
  | x :: xs, l, h => by
    simp only [cVs] at h
    cases hc : cV x with
    | none => simp [hc] at h
    | some v =>
      simp only [hc, Option.bind_some] at h
      cases hs : cVs xs with
      | none => simp [hs] at h
      | some vs =>
        simp only [hs, Option.map_some, Option.some.injEq] at h
        subst h
        exact ⟨x, xs, rfl, cV_sound ρ x v hc, cVs_sound ρ xs vs hs⟩
end

theorem sd_opd {ρ : Rho} (hg : GR ρ) {t : List V} {a : Act} (ht : TR ρ t a.tmps) {x : Operand} {y : Opd} (h : cOpd x = some y) : VR ρ (y.ev t) (a.eval x) := by
  cases x with
  | tmp i => simp only [cOpd, Option.some.injEq] at h; subst h; exact ht.nth i
  | const v =>
    simp only [cOpd] at h
    cases hc : cV v with
    | none => simp [hc] at h
    | some u => simp only [hc, Option.map_some, Option.some.injEq] at h; subst h; exact cV_sound ρ v u hc
  | global g =>
    simp only [cOpd] at h
    split at h
    case isFalse => cases h
    rename_i hlt
    simp only [Option.some.injEq] at h; subst h
    obtain ⟨z, hz⟩ := hg g hlt
    simp only [Opd.ev, VR, Act.eval]
    exact ⟨_, hz, by simp⟩
  | func f =>
    simp only [cOpd, Option.some.injEq] at h; subst h
    simp only [Opd.ev, VR, Act.eval]
    exact ⟨[], rfl, by simp [VRs]⟩

theorem sd_opds {ρ : Rho} (hg : GR ρ) {t : List V} {a : Act} (ht : TR ρ t a.tmps) : ∀ {xs : List Operand} {ys : List Opd}, cOpds xs = some ys → VRs ρ (evs t ys) (xs.map a.eval)
  | [], ys, h => by simp only [cOpds, Option.some.injEq] at h; subst h; simp [evs, VRs]
  | x :: xs, ys, h => by
    simp only [cOpds] at h
    cases hx : cOpd x with
    | none => simp [hx] at h
    | some y =>
      simp only [hx, Option.bind_some] at h
      cases hs : cOpds xs with
      | none => simp [hs] at h
      | some ys' =>
        simp only [hs, Option.map_some, Option.some.injEq] at h
        subst h
        exact VRs.cons (sd_opd hg ht hx) (sd_opds hg ht hs)

end Gw
