/- Contracts: what a call of a function does, in any memory. -/
import Derived.Test.YtkehghjhbfoooaaGreatDoorGxT4
import Derived.Test.YtkehghjhbfoooaaGreatDoorGxT1c
noncomputable section
namespace Gw
open Go Go.RowKit

/-- A value in the small memory stands for one in the great memory. -/
inductive ArgR (l : List Ar) : V → V → Prop where
  | f {v : V} : v.flat = true → ArgR l v v
  | o {i j : Nat} {x : Ob} : l[i]? = some (.o j x) → ArgR l (.ptr (NG + i) 0) (.ptr j 0)
  | w {i j off m e : Nat} {row : List V} {c : Option Nat} : l[i]? = some (.w j off row) → ArgR l (.slice (NG + i) 0 m e none) (.slice j off m e c)
inductive ArgsR (l : List Ar) : List V → List V → Prop where
  | nil : ArgsR l [] []
  | cons {u v : V} {us vs : List V} : ArgR l u v → ArgsR l us vs → ArgsR l (u :: us) (v :: vs)

theorem argR_ok {ρ : Rho} {l : List Ar} {u v : V} {x : Value} (h : ArgR l u v) (hv : VR ρ v x) : VR (rhoS ρ l) u x := by
  have nm : ∀ i, rhoS ρ l (NG + i) = (l[i]?).bind (Ar.loc ρ) := fun i => by simp only [rhoS]; rw [if_neg (by omega), Nat.add_sub_cancel_left]
  cases h with
  | f hf => exact VR.flat _ x hf hv
  | o hi =>
    simp only [VR] at hv ⊢
    obtain ⟨L, hL, hx⟩ := hv
    exact ⟨L, by rw [nm, hi]; exact hL, hx⟩
  | @w i j off m e row c hi =>
    simp only [VR] at hv ⊢
    obtain ⟨a, k, hx, h1, h2, L, hL, hb, hk⟩ := hv
    refine ⟨a, k, hx, h1, fun c' hc => (by cases hc), ⟨L.b, L.o + off, L.z⟩, (by rw [nm, hi]; simp only [Option.bind_some, Ar.loc, hL, Option.map_some]), hb, ?_⟩
    rcases hk with hk | ⟨ha, hz⟩
    · exact .inl hk
    · exact .inr ⟨by rw [ha]; simp, by simpa using hz⟩
theorem argsR_ok {ρ : Rho} {l : List Ar} {us vs : List V} (h : ArgsR l us vs) : ∀ {xs : List Value}, VRs ρ vs xs → VRs (rhoS ρ l) us xs := by
  induction h with
  | nil => intro xs hv; exact hv
  | cons h1 _ ih =>
    intro xs hv
    obtain ⟨y, ys, rfl, h3, h4⟩ := hv
    exact VRs.cons (argR_ok h1 h3) (ih h4)

/-- A part of an answer: a plain value, a pointer to a new thing, a slice of one. -/
inductive Ri where
  | f (v : V)
  | p (m : Nat)
  | s (m n e : Nat)
def Ri.at (nm : Nat → Nat) : Ri → V
  | .f v => v
  | .p m => .ptr (nm m) 0
  | .s m n e => .slice (nm m) 0 n e none
def Ri.ok (k : Nat) : Ri → Bool
  | .f v => v.flat
  | .p m => Nat.blt m k
  | .s m _ _ => Nat.blt m k
def riV (nm : Nat → Nat) : List Ri → V
  | [r] => r.at nm
  | l => .tup (l.map (Ri.at nm))
theorem ri_ok {ρ ρ' : Rho} {nm nm' : Nat → Nat} {k : Nat} (h : ∀ m, m < k → ρ' (nm' m) = ρ (nm m)) : ∀ {r : Ri} {x : Value}, r.ok k = true → VR ρ (r.at nm) x → VR ρ' (r.at nm') x
  | .f v, x, hr, hv => VR.flat v x hr hv
  | .p m, x, hr, hv => by
    simp only [Ri.at, VR] at hv ⊢
    obtain ⟨L, h1, h2⟩ := hv
    exact ⟨L, by rw [h m (Nat.le_of_ble_eq_true hr)]; exact h1, h2⟩
  | .s m n e, x, hr, hv => by
    simp only [Ri.at, VR] at hv ⊢
    obtain ⟨a, kk, hx, h1, h2, L, hL, h3⟩ := hv
    exact ⟨a, kk, hx, h1, h2, L, by rw [h m (Nat.le_of_ble_eq_true hr)]; exact hL, h3⟩
theorem riV_ok {ρ ρ' : Rho} {nm nm' : Nat → Nat} {k : Nat} (h : ∀ m, m < k → ρ' (nm' m) = ρ (nm m)) {l : List Ri} {x : Value} (hl : l.all (Ri.ok k) = true) (hv : VR ρ (riV nm l) x) : VR ρ' (riV nm' l) x := by
  have key : ∀ (l : List Ri) (xs : List Value), l.all (Ri.ok k) = true → VRs ρ (l.map (Ri.at nm)) xs → VRs ρ' (l.map (Ri.at nm')) xs := by
    intro l
    induction l with
    | nil => intro xs _ hv; exact hv
    | cons r l ih =>
      intro xs hl hv
      simp only [List.all_cons, Bool.and_eq_true] at hl
      obtain ⟨y, ys, rfl, h3, h4⟩ := hv
      exact VRs.cons (ri_ok h hl.1 h3) (ih ys hl.2 h4)
  have tup : ∀ l : List Ri, l.all (Ri.ok k) = true → VR ρ (.tup (l.map (Ri.at nm))) x → VR ρ' (.tup (l.map (Ri.at nm'))) x := by
    intro l hl hv
    simp only [VR] at hv ⊢
    rcases hv with hv | ⟨a, h1, h2⟩
    · left
      match l, hv with
      | [r], hv =>
        cases r with
        | f v => exact hv
        | p m => simp [Ri.at, isAnyL] at hv
        | s m n e => simp [Ri.at, isAnyL] at hv
      | [], hv => simp [isAnyL] at hv
      | _ :: _ :: _, hv => simp [isAnyL] at hv
    · exact .inr ⟨a, h1, key l a hl h2⟩
  match l, hl, hv with
  | [], hl, hv => exact tup [] hl hv
  | [r], hl, hv => exact ri_ok h (by simpa using hl) hv
  | r :: r' :: l, hl, hv => exact tup (r :: r' :: l) hl hv

/-- Things are opened, one behind the other. -/
inductive Opens : Heap → Heap → Prop where
  | refl {h : Heap} : Opens h h
  | one {h h' : Heap} (i : Nat) (x : Ob) : h.get i = some (.obj x) → Opens (openAt h i x) h' → Opens h h'
  | row {h h' : Heap} (i : Nat) (x : Ob) (r : List V) : h.get i = some (.obj x) → x.row = some r → Opens (h.put i (some (.cells false r))) h' → Opens h h'
/-- Things are closed, one behind the other. -/
inductive Closes : Heap → Heap → Prop where
  | refl {h : Heap} : Closes h h
  | one {h h' : Heap} (i : Nat) (x : Ob) (vs : List V) (ids : List Nat) : h.get i = some (.cells false vs) → closeOk h vs x.enc ids → ids.Nodup → i ∉ ids → Closes (closeAt h i x ids) h' → Closes h h'
  | row {h h' : Heap} (i : Nat) (x : Ob) (r : List V) : h.get i = some (.cells false r) → x.row = some r → V.flats r = true → Closes (h.put i (some (.obj x))) h' → Closes h h'

theorem openCs_row : ∀ (r : List V) (n : Nat), openCs n (r.map Ce.v) = (r, [])
  | [], _ => rfl
  | v :: r, n => by simp [openCs, openCs_row r n]
theorem HR.openRow {B : Nat → Prop} {ρ : Rho} {h : Heap} {w : World} (H : HR B ρ h w) {i : Nat} {x : Ob} {r : List V} (hg : h.get i = some (.obj x)) (hr : x.row = some r) : ∃ ρ', Le ρ ρ' ∧ HR B ρ' (h.put i (some (.cells false r))) w := by
  obtain ⟨ρ', h1, h2⟩ := H.open hg
  refine ⟨ρ', h1, ?_⟩
  simp only [openAt, Ob.row_enc hr, openCs_row, putsO, List.length_nil] at h2
  exact h2
theorem HR.opens {B : Nat → Prop} {h h' : Heap} {w : World} (ho : Opens h h') : ∀ {ρ : Rho}, HR B ρ h w → ∃ ρ', Le ρ ρ' ∧ HR B ρ' h' w := by
  induction ho with
  | refl => intro ρ H; exact ⟨ρ, Le.refl _, H⟩
  | one i x hg _ ih =>
    intro ρ H
    obtain ⟨ρ1, l1, H1⟩ := H.open hg
    obtain ⟨ρ2, l2, H2⟩ := ih H1
    exact ⟨ρ2, l1.trans l2, H2⟩
  | row i x r hg hr _ ih =>
    intro ρ H
    obtain ⟨ρ1, l1, H1⟩ := H.openRow hg hr
    obtain ⟨ρ2, l2, H2⟩ := ih H1
    exact ⟨ρ2, l1.trans l2, H2⟩
theorem closeOk_row {h : Heap} : ∀ (r : List V), V.flats r = true → closeOk h r (r.map Ce.v) []
  | [], _ => rfl
  | v :: r, hf => by
    simp only [V.flats, Bool.and_eq_true] at hf
    exact ⟨rfl, hf.1, closeOk_row r hf.2⟩
theorem HR.closes {B : Nat → Prop} {h h' : Heap} {w : World} (hc : Closes h h') : ∀ {ρ : Rho}, HR B ρ h w → HR B ρ h' w := by
  induction hc with
  | refl => intro ρ H; exact H
  | one i x vs ids hg hc hn hi _ ih => intro ρ H; exact ih (H.close hg hc hn hi)
  | row i x r hg hr hf _ ih =>
    intro ρ H
    refine ih ?_
    have := H.close (x := x) (ids := []) hg (by rw [Ob.row_enc hr]; exact closeOk_row r hf) .nil (by simp)
    exact this

/-- How a call ends, in its own memory: its things turned, new ones made, its answer. -/
structure Ends (l : List Ar) (xs ys : List Ob) (rs : List Ri) (r : V) (h : Heap) : Prop where
  ends : ∃ (h' : Heap) (frs : List Nat), Closes h h' ∧ frs.length = ys.length ∧ frs.Nodup ∧ (∀ f ∈ frs, NG + l.length ≤ f) ∧ (∀ (i j : Nat) (x0 x : Ob), l[i]? = some (.o j x0) → xs[i]? = some x → h'.get (NG + i) = some (.obj x)) ∧
    (∀ (m f : Nat) (y : Ob), frs[m]? = some f → ys[m]? = some y → h'.get f = some (.obj y)) ∧ ∀ (ρ : Rho) (x : Value), VR ρ r x → VR ρ (riV (fun m => frs.getD m 0) rs) x

section
variable {P : Program}

/-- A call of a function: it answers so, and turns memory so. -/
def Con (P : Program) (f : Nat) (args : List V) (h : Heap) (r : V) (h' : Heap) : Prop :=
  (∃ fn, P.funcs[f]? = some fn ∧ fn.name ≠ "runtime.NumGoroutine" ∧ fn.body.isSome = true) ∧
  ∀ (B : Nat → Prop) (ρ : Rho) (xs : List Value) (w : World), GR ρ → VRs ρ args xs → HR B ρ h w →
    Calls P f xs.toArray w fun e w' => ∃ x ρ', e = .returned x ∧ Le ρ ρ' ∧ VR ρ' r x ∧ HR B ρ' h' w' ∧ Keeps B w w'

/-- From a run in the small memory. -/
theorem con_of {f : Nat} {l : List Ar} {sargs bargs : List V} {hs h : Heap} {Q : V → Heap → Prop} {xs ys : List Ob} {rs : List Ri}
    (hargs : ArgsR l sargs bargs) (hok : ∀ a ∈ l, a.ok h) (hne : arsNe l) (hop : Opens (smallH l) hs) (hrun : Run P f sargs hs Q) (hend : ∀ r1 h1, Q r1 h1 → Ends l xs ys rs r1 h1) (hx : xs.length = l.length) (hrs : rs.all (Ri.ok ys.length) = true) :
    Con P f bargs h (riV (fun m => h.n + m) rs) (outH h l xs ys) := by
  refine ⟨hrun.1, fun B ρ xs' w hG hv H => ?_⟩
  obtain ⟨hGs, Hs⟩ := small_ok H hG hok hne
  obtain ⟨ρ1, l1, H1⟩ := HR.opens hop Hs
  refine (hrun.2 (Rest ρ w l) ρ1 xs' w (hGs.mono l1) (VRs.mono l1 _ _ (argsR_ok hargs hv)) H1).mono fun e w' ⟨x, r1, h1, ρ2, e1, q1, l2, v2, H2, k2⟩ => ?_
  obtain ⟨h', frs, hc, e2, e3, e4, e5, e6, e7⟩ := (hend r1 h1 q1).ends
  have H3 := HR.closes hc H2
  obtain ⟨ρ', l3, n3, H4, k4⟩ := back_ok H hok hne (l1.trans l2) H3 k2 hx e5 e2 e6 e3 e4
  refine ⟨x, ρ', e1, l3, ?_, H4, k4⟩
  refine riV_ok (k := ys.length) (nm := fun m => frs.getD m 0) (fun m hm => ?_) hrs (e7 ρ2 x v2)
  have : frs[m]? = some (frs.getD m 0) := by rw [List.getD_eq_getElem?_getD, List.getElem?_eq_getElem (by omega)]; rfl
  exact n3 m _ this
end
end Gw
