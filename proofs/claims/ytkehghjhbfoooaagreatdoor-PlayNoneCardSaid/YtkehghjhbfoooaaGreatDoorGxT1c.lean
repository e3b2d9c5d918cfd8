/- The trees' soundness for the model: functions, calls, loops. -/
import Derived.Test.YtkehghjhbfoooaaGreatDoorGxA18
import Derived.Test.YtkehghjhbfoooaaGreatDoorGxT1b
import Derived.Deep.LoopGhost
noncomputable section
namespace Gw
open Go Go.RowKit

def resOk (t : List V) : List Res → Bool
  | [] => true
  | .tmp i :: l => notAny t (.tmp i) && resOk t l
  | .c1 i :: l => notAny t (.tmp i) && resOk t l
  | .cN i _ :: l => notAny t (.tmp i) && resOk t l
/-- The end of a function. -/
def retT {α : Type} (rs : List Res) (C : V → Heap → DT α) (ex : Ex) (t : List V) (_kn : List Nat) (h : Heap) : DT α :=
  match ex with
  | .exit _ => .fail
  | _ => match resOk t rs with
    | true => (match resV t h rs with
      | some v => C v h
      | none => .fail)
    | false => .fail
/-- Functions that are answered, by trees. -/
abbrev ExtT := Nat → Option (List V → Heap → DT (V × Heap))
/-- A call: answered, or gone into. -/
def callT {α : Type} (XT : ExtT) (XP : ExtP) (X : Ext) (D : Nat → Option DF) (orc : Nat → Orc) (st : Nat → List Nat) : Nat → Nat → List V → Heap → (V → Heap → DT α) → DT α
  | 0, _, _, _, _ => .fail
  | n + 1, f, args, h, C => match XT f with
    | some g => (g args h).bind fun p => C p.1 p.2
    | none => match n, D f with
      | n + 1, some d => codeT (callT XT XP X D orc st (n + 1)) (callN X D (n + 1)) XP (orc f) (st f) noLt 0 d.body (args ++ pads (d.nt - args.length)) [] h (retT d.res C)
      | _, _ => .fail

theorem resL_le {t T : List V} (ht : LeT t T) {h : Heap} : ∀ {rs : List Res}, resOk t rs = true → resL T h rs = resL t h rs
  | [], _ => rfl
  | .tmp i :: l, hr => by
    simp only [resOk, Bool.and_eq_true] at hr
    have := ht.known hr.1
    simp only [Opd.ev] at this
    simp only [resL, Res.get, this, resL_le ht hr.2]
  | .c1 i :: l, hr => by
    simp only [resOk, Bool.and_eq_true] at hr
    have := ht.known hr.1
    simp only [Opd.ev] at this
    simp only [resL, Res.get, this, resL_le ht hr.2]
  | .cN i n :: l, hr => by
    simp only [resOk, Bool.and_eq_true] at hr
    have := ht.known hr.1
    simp only [Opd.ev] at this
    simp only [resL, Res.get, this, resL_le ht hr.2]
theorem retT_in {α : Type} {Q : α → Prop} {rs : List Res} {C : V → Heap → DT α} {ex : Ex} {t : List V} {kn : List Nat} {h : Heap} (hs : (retT rs C ex t kn h).sat Q) : (∀ i, ex ≠ .exit i) ∧ ∃ v, resOk t rs = true ∧ resV t h rs = some v ∧ (C v h).sat Q := by
  unfold retT at hs
  split at hs
  · exact hs.elim
  · rename_i hne
    refine ⟨hne, ?_⟩
    split at hs
    · rename_i hr
      split at hs
      · rename_i v hv; exact ⟨v, hr, hv, hs⟩
      · exact hs.elim
    · exact hs.elim

/-- The answers' trees are as the answers. -/
def XtOk (XT : ExtT) (X : Ext) : Prop := ∀ f, match XT f with
  | some g => ∃ x, X f = some x ∧ ∀ args h (P : V × Heap → Prop), (g args h).sat P → ∃ r, x args h = some r ∧ P r
  | none => X f = none
def XpX (XP : ExtP) (X : Ext) : Prop := ∀ f g, XP f = some g → ∃ x, X f = some x ∧ ∀ args h v, g args h = some v → x args h = some (v, h)
theorem xpOk {XP : ExtP} {X : Ext} (h : XpX XP X) (D : Nat → Option DF) (n : Nat) : XpOk XP (callN X D (n + 1)) := by
  intro f g hg args hp v hv
  obtain ⟨x, hx, hgx⟩ := h f g hg
  simp only [callN, hx, hgx args hp v hv]

theorem loopN_mono {body : St → Option (Ex × St)} : ∀ (n : Nat) {s : St} {r : Ex × St}, loopN body n s = some r → ∀ k, loopN body (k + n) s = some r
  | 0, _, _, h, _ => by simp only [loopN] at h; cases h
  | n + 1, s, r, h, k => by
    rw [show k + (n + 1) = (k + n) + 1 by omega]
    simp only [loopN, Option.bind_eq_some_iff] at h ⊢
    obtain ⟨p, h1, h2⟩ := h
    refine ⟨p, h1, ?_⟩
    obtain ⟨ex, s'⟩ := p
    cases ex with
    | normal => exact loopN_mono n h2 k
    | exit i => exact h2
    | ret => exact h2
theorem lpN_64 (n : Nat) : ∀ k c b s r, loopN b 400 s = some r → lpN n k c b s = some r := fun _ _ _ _ _ h => loopN_mono 400 h n
theorem callT_ok {α : Type} {Q : α → Prop} {XT : ExtT} {XP : ExtP} {X : Ext} (hX : XtOk XT X) (hP : XpX XP X) (D : Nat → Option DF) (orc : Nat → Orc) (st : Nat → List Nat) : ∀ n, CtOk (α := α) (callT XT XP X D orc st n) (callN X D n) Q := by
  intro n
  induction n with
  | zero => intro f args h C hs; exact absurd hs (fun q => q)
  | succ n ih =>
    intro f args h C hs
    have hx := hX f
    unfold callT at hs
    cases hf : XT f with
    | some g =>
      rw [hf] at hs hx
      simp only at hs hx
      obtain ⟨x, hxf, hg⟩ := hx
      obtain ⟨r, h1, h2⟩ := hg args h _ (bind_sat hs)
      exact ⟨r.1, r.2, by simp only [callN, hxf, h1], h2⟩
    | none =>
      rw [hf] at hs hx
      simp only at hs hx
      cases n with
      | zero => exact absurd hs (by cases D f <;> exact fun q => q)
      | succ m =>
      cases hd : D f with
      | none => rw [hd] at hs; exact absurd hs (fun q => q)
      | some d =>
        rw [hd] at hs
        simp only at hs
        obtain ⟨ex, s, t', kn, h1, h2, h3⟩ := codeT_ok ih (xpOk hP D m) (lpN (m + 1)) (lpN_64 (m + 1)) hs (LeT.refl _)
        obtain ⟨hne, v, h4, h5, h6⟩ := retT_in h3
        refine ⟨v, s.h, ?_, h6⟩
        have h7 : evC (callN X D (m + 1)) (lpN (m + 1)) 0 d.body (enterV d args h) = some (ex, s) := h1
        have h8 : resV s.t s.h d.res = some v := by
          simp only [resV, resL_le h2 h4]; exact h5
        rw [callN]
        simp only [hx, hd, Option.bind_some, runF, h7]
        cases ex with
        | exit i => exact absurd rfl (hne i)
        | normal => simp only [leaveV, h8, Option.map_some]
        | ret => simp only [leaveV, h8, Option.map_some]

section
variable {P : Program}

theorem VRs.forget {ρ : Rho} : ∀ {t T : List V} {xs : List Value}, LeT t T → VRs ρ T xs → VRs ρ t xs
  | [], [], _, _, h => h
  | [], _ :: _, _, ht, _ => ht.elim
  | _ :: _, [], _, ht, _ => ht.elim
  | v :: t, v' :: T, xs, ht, h => by
    obtain ⟨y, ys, rfl, h1, h2⟩ := h
    refine VRs.cons ?_ (VRs.forget ht.2 h2)
    rcases ht.1 with e | e
    · rw [e]; exact VR.any ρ y
    · rw [e]; exact h1
theorem RelR.forget {B : Nat → Prop} {ρ : Rho} {t T : List V} {h : Heap} {a : Act} {w : World} (ht : LeT t T) (R : RelR B ρ T h a w) : RelR B ρ t h a w := ⟨R.gr, VRs.forget ht R.tr, R.hr⟩

/-- Names below 'm' stay. -/
def LeN (m : Nat) (ρ ρ' : Rho) : Prop := ∀ i L, i < m → ρ i = some L → ρ' i = some L
theorem LeN.refl (m : Nat) (ρ : Rho) : LeN m ρ ρ := fun _ _ _ h => h
theorem LeN.trans {m : Nat} {a b c : Rho} (h : LeN m a b) (k : LeN m b c) : LeN m a c := fun i L hi hL => k i L hi (h i L hi hL)
theorem Le.toN {a b : Rho} (h : Le a b) (m : Nat) : LeN m a b := fun i L _ hL => h i L hL
theorem LeN.le {B : Nat → Prop} {ρ ρ' : Rho} {h : Heap} {w : World} (H : HR B ρ h w) (k : LeN h.n ρ ρ') : Le ρ ρ' := fun i L hL => by
  refine k i L ?_ hL
  rcases Nat.lt_or_ge i h.n with hi | hi
  · exact hi
  · rw [H.new i (H.top i hi)] at hL; cases hL

/-- What a loop's tree says, the model's loop comes to. -/
def WpT (P : Program) (m : Nat) (code : Code) (t : List V) (h : Heap) (Pr : Ex → List V → Heap → Prop) : Prop :=
  ∀ (B : Nat → Prop) (ρ : Rho) (a : Act) (w : World) (R : Exit → Act → World → Prop), RelR B ρ t h a w →
    (∀ ex t' h' ρ' a' w', Pr ex t' h' → LeN m ρ ρ' → RelR B ρ' t' h' a' w' → Keeps B w w' → a'.defers = a.defers → R (exOf ex) a' w') → code.wp P R a w
def Lt1 (P : Program) (hint : Nat → List Nat) (m : Nat) (l : List V → Heap → DT (Ex × List V × Heap)) (c : DC) : Prop :=
  ∀ (code : Code), cCode P hint code = some c → ∀ (t : List V) (h : Heap) (Pr : Ex × List V × Heap → Prop), (l t h).sat Pr → WpT P m (.loop code) t h fun ex t h => Pr (ex, t, h)
def LtS (P : Program) (hint : Nat → List Nat) (m : Nat) (lt : Lt) (L : Nat → DC → Prop) : Prop :=
  ∀ (k : Nat) (c : DC), L k c → Lt1 P hint m (lt k) c

/-- Code, as its tree says. -/
theorem codeT_wp {α : Type} {Q : α → Prop} (hm : P.follows .mixedOrders = true) {ct : Nat → List V → Heap → (V → Heap → DT α) → DT α} {cl : Cl} (hcl : ClS P cl) (hfr : FrC cl) (hct : CtOk ct cl Q) {XP : ExtP} (hx : XpOk XP cl) {hint : Nat → List Nat} {orc : Orc} {st : List Nat} {m : Nat} {lt : Lt} {L : Nat → DC → Prop} (hlt : LtS P hint m lt L) :
    ∀ (code : Code) (k : Nat) (c : DC), cCode P hint code = some c → (∀ p ∈ loopsIn k c, L p.1 p.2) → ∀ (t : List V) (kn : List Nat) (h : Heap) (C : Ex → List V → List Nat → Heap → DT α), (codeT ct cl XP orc st lt k c t kn h C).sat Q →
      WpT P m code t h fun ex t' h' => ∃ kn', (C ex t' kn' h').sat Q := by
  intro code
  induction code with
  | skip =>
    intro k c hc hL t kn h C hs B ρ a w R RR hR
    simp only [cCode, Option.some.injEq] at hc; subst hc
    exact wp_skip (hR .normal t h ρ a w ⟨kn, hs⟩ (LeN.refl _ _) RR (Keeps.refl _ _) rfl)
  | region id ops draw =>
    intro k c hc hL t kn h C hs B ρ a w R RR hR
    simp only [cCode] at hc
    have hreg : ∃ n os, c = .reg n os := by
      split at hc
      · simp only [cDraw, Option.bind_eq_some_iff] at hc
        obtain ⟨l, _, hc⟩ := hc
        split at hc
        · simp only [Option.some.injEq] at hc; exact ⟨_, _, hc.symm⟩
        · cases hc
      · simp only [cReg, Option.map_eq_some_iff] at hc
        obtain ⟨l, _, hc⟩ := hc
        exact ⟨_, _, hc.symm⟩
    obtain ⟨n, os, rfl⟩ := hreg
    obtain ⟨e, t', kn', h1, h2, h3⟩ := opsT_ok hct hx hs (LeT.refl t)
    have h4 : regV cl n os ⟨t, h⟩ = some ⟨e.t, e.h⟩ := by simp only [regV, h1, Option.map_some]
    exact sd_reg (s := ⟨t, h⟩) hcl hfr hm hc h4 RR fun ρ' a' w' hle R' hb hd => hR .normal t' e.h ρ' a' w' ⟨kn', h3⟩ (hle.toN m) (R'.forget h2) hb hd
  | seq x y ihx ihy =>
    intro k c hc hL t kn h C hs B ρ a w R RR hR
    simp only [cCode, Option.bind_eq_some_iff, Option.map_eq_some_iff] at hc
    obtain ⟨cx, hcx, cy, hcy, rfl⟩ := hc
    refine wp_seq (ihx k cx hcx (fun p hp => hL p (by simp [loopsIn, hp])) t kn h _ hs B ρ a w _ RR fun ex t1 h1 ρ1 a1 w1 ⟨kn1, hc1⟩ hle1 R1 hb1 hd1 => ?_)
    cases ex with
    | normal => exact ihy k cy hcy (fun p hp => hL p (by simp [loopsIn, hp])) t1 kn1 h1 C hc1 B ρ1 a1 w1 _ R1 fun ex t2 h2 ρ2 a2 w2 hc2 hle2 R2 hb2 hd2 => hR ex t2 h2 ρ2 a2 w2 hc2 (hle1.trans hle2) R2 (hb1.trans hb2) (hd2.trans hd1)
    | exit i => exact hR (.exit i) t1 h1 ρ1 a1 w1 ⟨kn1, hc1⟩ hle1 R1 hb1 hd1
    | ret => exact hR .ret t1 h1 ρ1 a1 w1 ⟨kn1, hc1⟩ hle1 R1 hb1 hd1
  | cond o x y ihx ihy =>
    intro k d hc hL t kn h C hs B ρ a w R RR hR
    simp only [cCode, Option.bind_eq_some_iff, Option.map_eq_some_iff] at hc
    obtain ⟨cc, hcc, cx, hcx, cy, hcy, rfl⟩ := hc
    have rc := sd_opd RR.gr RR.tr hcc
    have hLx : ∀ p ∈ loopsIn k cx, L p.1 p.2 := fun p hp => hL p (by simp [loopsIn, hp])
    have hLy : ∀ p ∈ loopsIn k cy, L p.1 p.2 := fun p hp => hL p (by simp [loopsIn, hp])
    cases cc with
    | tmp j =>
      simp only [codeT] at hs
      split at hs
      · rename_i c hcj
        simp only [Opd.ev, hcj, VR] at rc
        have yes : ∀ kn0, c = true → (codeT ct cl XP orc st lt k cx t kn0 h C).sat Q → (Code.cond o x y).wp P R a w := fun kn0 hct' hd => by
          rw [hct'] at rc
          exact wp_cond_true rc (ihx k cx hcx hLx t kn0 h C hd B ρ a w R RR hR)
        have no : ∀ kn0, c = false → (codeT ct cl XP orc st lt k cy t kn0 h C).sat Q → (Code.cond o x y).wp P R a w := fun kn0 hct' hd => by
          rw [hct'] at rc
          exact wp_cond_false rc (ihy k cy hcy hLy t kn0 h C hd B ρ a w R RR hR)
        rcases cond_split hs with ⟨_, hs⟩ | ⟨_, hs⟩
        · rcases cond_split hs with ⟨hct', hs⟩ | ⟨hct', hs⟩
          · exact yes _ hct' hs
          · exact no _ hct' hs
        · rcases node_split hs with ⟨hct', hs⟩ | ⟨hct', hs⟩
          · rw [upd_self t j _ (by rw [hcj, hct']) (bool_ne _)] at hs; exact yes _ hct' hs
          · rw [upd_self t j _ (by rw [hcj, hct']) (bool_ne _)] at hs; exact no _ hct' hs
      · exact absurd hs (fun q => q)
    | cst v =>
      simp only [codeT] at hs
      split at hs
      · simp only [Opd.ev, VR] at rc
        exact wp_cond_true rc (ihx k cx hcx hLx t kn h C hs B ρ a w R RR hR)
      · simp only [Opd.ev, VR] at rc
        exact wp_cond_false rc (ihy k cy hcy hLy t kn h C hs B ρ a w R RR hR)
      · exact absurd hs (fun q => q)
  | block id x ih =>
    intro k c hc hL t kn h C hs B ρ a w R RR hR
    simp only [cCode, Option.map_eq_some_iff] at hc
    obtain ⟨cx, hcx, rfl⟩ := hc
    refine wp_block (ih id cx hcx (fun p hp => hL p (by simpa [loopsIn] using hp)) t kn h _ hs B ρ a w _ RR fun ex t1 h1 ρ1 a1 w1 ⟨kn1, hc1⟩ hle1 R1 hb1 hd1 => ?_)
    cases ex with
    | normal => exact hR .normal t1 h1 ρ1 a1 w1 ⟨kn1, hc1⟩ hle1 R1 hb1 hd1
    | ret => exact hR .ret t1 h1 ρ1 a1 w1 ⟨kn1, hc1⟩ hle1 R1 hb1 hd1
    | exit i =>
      simp only [exOf, Exit.inBlock]
      rcases cond_split hc1 with ⟨hi, hc1⟩ | ⟨hi, hc1⟩
      · rw [if_pos (Nat.eq_of_beq_eq_true hi)]; exact hR .normal t1 h1 ρ1 a1 w1 ⟨kn1, hc1⟩ hle1 R1 hb1 hd1
      · rw [if_neg (Nat.ne_of_beq_eq_false hi)]; exact hR (.exit i) t1 h1 ρ1 a1 w1 ⟨kn1, hc1⟩ hle1 R1 hb1 hd1
  | loop x ih =>
    intro k c hc hL t kn h C hs B ρ a w R RR hR
    simp only [cCode, Option.map_eq_some_iff] at hc
    obtain ⟨cx, hcx, rfl⟩ := hc
    have asSaid : ((lt k t h).bind fun r => C r.1 r.2.1 [] r.2.2).sat Q → (Code.loop x).wp P R a w := fun hs =>
      hlt k cx (hL (k, cx) (by simp [loopsIn])) x hcx t h _ (bind_sat hs) B ρ a w R RR fun ex t' h' ρ' a' w' hp => hR ex t' h' ρ' a' w' ⟨[], hp⟩
    have hLx : ∀ p ∈ loopsIn k cx, L p.1 p.2 := fun p hp => hL p (by simp [loopsIn, hp])
    simp only [codeT] at hs
    cases hl : lt k t h with
    | leaf r => rw [hl] at hs; exact asSaid (by rw [hl]; exact hs)
    | node b d e => rw [hl] at hs; exact asSaid (by rw [hl]; exact hs)
    | ob p d => rw [hl] at hs; exact asSaid (by rw [hl]; exact hs)
    | fail =>
      rw [hl] at hs
      simp only at hs
      let J : Nat → Act → World → Prop := fun n a' w' => ∃ t kn h ρ', (unrT (codeT ct cl XP orc st lt k cx) n t kn h C).sat Q ∧ LeN m ρ ρ' ∧ RelR B ρ' t h a' w' ∧ Keeps B w w' ∧ a'.defers = a.defers
      refine Go.wp_loop_ghost J 400 ⟨t, kn, h, ρ, hs, LeN.refl _ _, RR, Keeps.refl _ _, rfl⟩ ?_
      rintro n a1 w1 ⟨t1, kn1, h1, ρ1, hs1, hle, R1, hk, hd⟩
      cases n with
      | zero => exact absurd hs1 (fun q => q)
      | succ n =>
        refine ih k cx hcx hLx t1 kn1 h1 _ hs1 B ρ1 a1 w1 _ R1 fun ex t' h' ρ' a' w' ⟨kn', hq⟩ hle' R' hk' hd' => ?_
        cases ex with
        | normal => exact ⟨n, Nat.lt_succ_self n, t', kn', h', ρ', hq, hle.trans hle', R', hk.trans hk', hd'.trans hd⟩
        | exit i => exact hR (.exit i) t' h' ρ' a' w' ⟨kn', hq⟩ (hle.trans hle') R' (hk.trans hk') (hd'.trans hd)
        | ret => exact hR .ret t' h' ρ' a' w' ⟨kn', hq⟩ (hle.trans hle') R' (hk.trans hk') (hd'.trans hd)
  | rangeFunc f ps x y => intro k c hc; simp [cCode] at hc
  | exit id =>
    intro k c hc hL t kn h C hs B ρ a w R RR hR
    simp only [cCode, Option.some.injEq] at hc; subst hc
    exact wp_exit (hR (.exit id) t h ρ a w ⟨kn, hs⟩ (LeN.refl _ _) RR (Keeps.refl _ _) rfl)
  | scope x => intro k c hc; simp [cCode] at hc
  | label l => intro k c hc; simp [cCode] at hc
  | goto l => intro k c hc; simp [cCode] at hc
  | ret =>
    intro k c hc hL t kn h C hs B ρ a w R RR hR
    simp only [cCode, Option.some.injEq] at hc; subst hc
    exact wp_ret (hR .ret t h ρ a w ⟨kn, hs⟩ (LeN.refl _ _) RR (Keeps.refl _ _) rfl)
  | refuse why => intro k c hc; simp [cCode] at hc

/-- A call of a function: it returns, and this holds. -/
def Run (P : Program) (f : Nat) (args : List V) (h : Heap) (Q : V → Heap → Prop) : Prop :=
  (∃ fn, P.funcs[f]? = some fn ∧ fn.name ≠ "runtime.NumGoroutine" ∧ fn.body.isSome = true) ∧
  ∀ (B : Nat → Prop) (ρ : Rho) (xs : List Value) (w : World), GR ρ → VRs ρ args xs → HR B ρ h w →
    Calls P f xs.toArray w fun e w' => ∃ x r h' ρ', e = .returned x ∧ Q r h' ∧ Le ρ ρ' ∧ VR ρ' r x ∧ HR B ρ' h' w' ∧ Keeps B w w'

/-- A function, from outside; 'obs': what is looked at behind it. -/
def funT {α : Type} (XT : ExtT) (XP : ExtP) (X : Ext) (D : Nat → Option DF) (orcs : Nat → Orc) (sts : Nat → List Nat) (n : Nat) (orc : Orc) (st : List Nat) (lt : Lt) (d : DF) (args : List V) (h : Heap) (obs : V → Heap → α) : DT α :=
  codeT (callT XT XP X D orcs sts (n + 1)) (callN X D (n + 1)) XP orc st lt 0 d.body (args ++ pads (d.nt - args.length)) [] h (retT d.res fun v h => .leaf (obs v h))

theorem run_of {α : Type} (hm : P.follows .mixedOrders = true) {XT : ExtT} {XP : ExtP} {X : Ext} (hX : XtOk XT X) (hP : XpX XP X) (hXs : ExtS P X) {D : Nat → Option DF} (hD : Tab P D) {f : Nat} {d : DF} (hd : D f = some d) {lt : Lt} {L : Nat → DC → Prop} {h : Heap}
    (hlt : ∀ hint fn, P.funcs[f]? = some fn → cFn P hint fn = some d → LtS P hint h.n lt L) (hL : ∀ p ∈ loopsIn 0 d.body, L p.1 p.2)
    {orcs : Nat → Orc} {sts : Nat → List Nat} {n : Nat} {orc : Orc} {st : List Nat} {args : List V} {obs : V → Heap → α} {Q : α → Prop} (hs : (funT XT XP X D orcs sts n orc st lt d args h obs).sat Q) :
    Run P f args h fun r h' => Q (obs r h') := by
  obtain ⟨fn, hint, hfn, hc⟩ := hD f d hd
  have hlt' := hlt hint fn hfn hc
  unfold cFn at hc
  split at hc
  case isTrue => cases hc
  rename_i hname
  simp only [Option.bind_eq_some_iff, Option.map_eq_some_iff] at hc
  obtain ⟨body, hbody, c, hcc, rs, hrs, rfl⟩ := hc
  refine ⟨⟨fn, hfn, hname, by rw [hbody]; rfl⟩, fun B ρ xs w hg hargs H => ?_⟩
  refine calls_of_wp hfn hbody ?_
  have hlen := VRs.length hargs
  have R : RelR B ρ (args ++ pads (fn.ntmps - args.length)) h { tmps := xs.toArray ++ Array.replicate (fn.ntmps - xs.toArray.size) undef, defers := [] } w := by
    refine ⟨hg, ?_, H⟩
    simp only [TR, Array.toList_append, Array.toList_replicate, List.size_toArray, hlen]
    exact hargs.append (pads_VRs ρ _)
  refine codeT_wp hm (sd_call hm hXs hD (n + 1)) (fr_callN (fun f g h => (hXs f g h).1) D (n + 1)) (callT_ok hX hP D orcs sts (n + 1)) (xpOk hP D n) hlt' body 0 c hcc hL _ _ _ _ hs B ρ _ w _ R fun ex t' h' ρ' a' w' ⟨kn', hc'⟩ hle R' hb hd => ?_
  simp only at hd
  obtain ⟨hne, v, _, hv, hq⟩ := retT_in hc'
  obtain ⟨x, hx, hrun⟩ := sd_res hrs R' hv
  cases ex with
  | exit i => exact absurd rfl (hne i)
  | normal => exact ⟨hd, x, hrun, x, v, h', ρ', rfl, hq, hle.le H, hx, R'.hr, hb⟩
  | ret => exact ⟨hd, x, hrun, x, v, h', ρ', rfl, hq, hle.le H, hx, R'.hr, hb⟩
end
end Gw
