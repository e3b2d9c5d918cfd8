/- The trees' soundness. -/
import Derived.Test.YtkehghjhbfoooaaGreatDoorGxT1
noncomputable section
namespace Gw
set_option linter.unusedSimpArgs false
open Go

theorem upd_self : ∀ (t : List V) (j : Nat) (v : V), nth t j = v → v ≠ undefV → upd t j v = t
  | [], _, _, h, hn => absurd h.symm hn
  | x :: l, 0, v, h, _ => by simp only [nth_zero, nth_succ] at h; subst h; rfl
  | x :: l, j + 1, v, h, hn => by simp only [nth_zero, nth_succ] at h; simp only [upd_succ]; rw [upd_self l j v h hn]
theorem ne_bool {c b : Bool} (h : (c == b) = false) : c = !b := by cases c <;> cases b <;> first | rfl | cases h
theorem bool_ne (c : Bool) : V.bool c ≠ undefV := fun h => by cases h

theorem cond_split {α : Type} {c : Bool} {x y : DT α} {Q : α → Prop} (h : (cond c x y).sat Q) : (c = true ∧ x.sat Q) ∨ (c = false ∧ y.sat Q) := by
  cases c
  · exact .inr ⟨rfl, h⟩
  · exact .inl ⟨rfl, h⟩
theorem node_split {α : Type} {c : Bool} {x y : DT α} {Q : α → Prop} (h : (DT.node c x y).sat Q) : (c = true ∧ x.sat Q) ∨ (c = false ∧ y.sat Q) := by
  cases c
  · exact .inr ⟨rfl, h.2 rfl⟩
  · exact .inl ⟨rfl, h.1 rfl⟩

/-- Calls are as the machine's. -/
def CtOk {α : Type} (ct : Nat → List V → Heap → (V → Heap → DT α) → DT α) (cl : Cl) (Q : α → Prop) : Prop :=
  ∀ f args h C, (ct f args h C).sat Q → ∃ r h', cl f args h = some (r, h') ∧ (C r h').sat Q
def XpOk (XP : ExtP) (cl : Cl) : Prop := ∀ f g, XP f = some g → ∀ args h v, g args h = some v → cl f args h = some (v, h)

theorem step_do {cl : Cl} {b : Nat} {o : DOp} {t : List V} {h : Heap} {w : Ws} {r : Option RS} (hg : gok o.g t = true) (hw : wantD o.g t = true) (hk : stepK cl b o ⟨t, h, w⟩ o.k = r) : stepOp cl b o ⟨t, h, w⟩ = r := by
  simp only [stepOp, hg, hw, cond_true, hk]
theorem step_not {cl : Cl} {b : Nat} {o : DOp} {t : List V} {h : Heap} {w : Ws} (hg : gok o.g t = true) (hw : wantD o.g t = false) : stepOp cl b o ⟨t, h, w⟩ = some ⟨putD t o.dst undefV, h, w⟩ := by
  simp only [stepOp, hg, hw, cond_true, cond_false]

theorem LeT.bool' {t T : List V} (ht : LeT t T) {j : Nat} {c : Bool} (h : Gw.nth t j = .bool c) : Gw.nth T j = .bool c := (ht.nth j).eq (by rw [h]; intro e; cases e) |>.trans h
theorem LeT.undef' {t T : List V} (ht : LeT t T) {j : Nat} (h : Gw.nth t j = .tup []) : Gw.nth T j = .tup [] := (ht.nth j).eq (by rw [h]; intro e; cases e) |>.trans h
theorem gok_bool {T : List V} {g : Option (Nat × Bool)} {j : Nat} {bb c : Bool} (hg : g = some (j, bb)) (hc : nth T j = .bool c) : gok g T = true ∧ wantD g T = (c == bb) := by
  subst hg; simp only [gok, wantD, hc, V.isAny, Bool.not_false, and_self]
theorem gok_undef {T : List V} {g : Option (Nat × Bool)} {j : Nat} {bb : Bool} (hg : g = some (j, bb)) (hc : nth T j = .tup []) : gok g T = true ∧ wantD g T = false := by
  subst hg; simp only [gok, wantD, hc, V.isAny, isAnyL, Bool.not_false, and_self]

section pure
variable {cl : Cl} {XP : ExtP} (hx : XpOk XP cl)
include hx

theorem pureK_ok {orc : Orc} {b : Nat} {o : DOp} {t T : List V} {h : Heap} {w : Ws} {p : Prop × V} (ho : pureK XP orc o t h = some p) (hp : p.1) (ht : LeT t T) :
    ∃ v', stepK cl b o ⟨T, h, w⟩ o.k = some ⟨putD T o.dst v', h, w⟩ ∧ Le1 p.2 v' := by
  unfold pureK at ho
  split at ho
  · rename_i hwt hcs
    split at ho
    · split at ho
      · rename_i k hk
        cases hf : k.fine t with
        | false => rw [hf] at ho; cases ho
        | true =>
          rw [hf] at ho
          simp only [cond_true] at ho
          have hev : k.ev t = some p.2 := by
            split at ho
            · rename_i q hq; simp only [Option.some.injEq] at ho; subst ho; exact pkOb_ok hq hp
            · split at ho
              · rename_i v hv; simp only [Option.some.injEq] at ho; subst ho; exact hv
              · cases ho
          obtain ⟨v', h1, h2⟩ := PK.le ht hf hev
          exact ⟨v', by rw [hk]; simp only [stepK, h1, Option.bind_some], h2⟩
      · rename_i k hk
        cases hf : k.fine t with
        | false => rw [hf] at ho; cases ho
        | true =>
          rw [hf] at ho
          simp only [cond_true] at ho
          split at ho
          · rename_i r hr
            split at ho
            · rename_i v hv
              simp only [Option.some.injEq] at ho; subst ho
              exact ⟨v, by rw [hk]; simp only [stepK, RK.le ht hf, hr, hv, Option.bind_some, hwt, Bool.false_eq_true, if_false], Le1.refl v⟩
            · cases ho
          · cases ho
      · rename_i fo args hk
        cases hf : (notAny t fo && args.all (notAny t)) with
        | false => rw [hf] at ho; cases ho
        | true =>
          rw [hf] at ho
          simp only [cond_true] at ho
          simp only [Bool.and_eq_true] at hf
          split at ho
          · rename_i f cap hfo
            split at ho
            · rename_i g hg
              split at ho
              · rename_i v hv
                simp only [Option.some.injEq] at ho; subst ho
                exact ⟨v, by rw [hk]; simp only [stepK, EK.run, ht.known hf.1, ht.knowns hf.2, hfo, callV, hx f g hg _ _ _ hv, Option.bind_some, hcs, okW, cond_true], Le1.refl v⟩
              · cases ho
            · cases ho
          · cases ho
      · cases ho
    · split at ho
      · rename_i k hk
        cases hf : k.fine t with
        | false => rw [hf] at ho; cases ho
        | true =>
          rw [hf] at ho
          simp only [cond_true] at ho
          split at ho
          · rename_i rv hr
            simp only [Option.some.injEq] at ho; subst ho
            have hp' := hp
            simp only at hp'
            exact ⟨_, by rw [hk]; simp only [stepK, RK.le ht hf, hr, hp', Option.bind_some, hwt, Bool.false_eq_true, if_false], Le1.refl _⟩
          · cases ho
      · cases ho
  · cases ho

omit hx in
theorem stepOp_len {b : Nat} {o : DOp} {s e : RS} (h : stepOp cl b o s = some e) : ∃ v, e.t = putD s.t o.dst v := by
  unfold stepOp at h
  cases hg : gok o.g s.t with
  | false => rw [hg] at h; cases h
  | true =>
    rw [hg] at h
    simp only [cond_true] at h
    cases hw : wantD o.g s.t with
    | false => rw [hw] at h; simp only [cond_false, Option.some.injEq] at h; subst h; exact ⟨_, rfl⟩
    | true =>
      rw [hw] at h
      simp only [cond_true] at h
      cases hk : o.k with
      | p k => rw [hk] at h; simp only [stepK, Option.bind_eq_some_iff, Option.some.injEq] at h; obtain ⟨v, _, rfl⟩ := h; exact ⟨_, rfl⟩
      | r k => rw [hk] at h; simp only [stepK, Option.bind_eq_some_iff, Option.some.injEq] at h; obtain ⟨r, _, v, _, rfl⟩ := h; exact ⟨_, rfl⟩
      | a sl k =>
        rw [hk] at h
        simp only [stepK] at h
        split at h
        · split at h
          · simp only [Option.bind_eq_some_iff, Option.some.injEq] at h; obtain ⟨v, _, rfl⟩ := h; exact ⟨_, rfl⟩
          · cases h
        · cases h
      | e k =>
        rw [hk] at h
        simp only [stepK, Option.bind_eq_some_iff] at h
        obtain ⟨p, _, h⟩ := h
        cases ho : okW s.w p.2 o.cs with
        | false => rw [ho] at h; cases h
        | true => rw [ho] at h; simp only [cond_true, Option.some.injEq] at h; subst h; exact ⟨_, rfl⟩
omit hx in
theorem upd_anys : ∀ {t T : List V} (d : Nat) (v : V), LeT t T → LeT (upd t d anyV) (upd T d v) := fun d _ h => h.upd d (.inl rfl)
omit hx in
theorem forget_ops {b : Nat} : ∀ {l : List DOp} {t : List V} {s e : RS}, runOps cl b l s = some e → LeT t s.t → LeT (forgetL t (dsts l)) e.t
  | [], t, s, e, h, ht => by simp only [runOps, Option.some.injEq] at h; subst h; exact ht
  | o :: l, t, s, e, h, ht => by
    simp only [runOps, Option.bind_eq_some_iff] at h
    obtain ⟨s1, h1, h2⟩ := h
    obtain ⟨v, hv⟩ := stepOp_len h1
    simp only [dsts]
    cases hd : o.dst with
    | none =>
      simp only
      refine forget_ops h2 ?_
      rw [hv, hd]; exact ht
    | some d =>
      simp only [forgetL]
      refine forget_ops h2 ?_
      rw [hv, hd]; exact upd_anys d v ht

omit hx in
theorem skipL_ok {b j : Nat} {bb : Bool} {h : Heap} {w : Ws} : ∀ {l : List DOp} {t r T : List V}, skipL j bb l t = some r → LeT t T → (∀ o ∈ l, o.dst ≠ some j) → ∀ c, nth T j = .bool c → (c == bb) = false → ∃ T', runOps cl b l ⟨T, h, w⟩ = some ⟨T', h, w⟩ ∧ LeT r T'
  | [], t, r, T, hs, ht, _, c, hc, hcb => by simp only [skipL, Option.some.injEq] at hs; subst hs; exact ⟨T, rfl, ht⟩
  | o :: l, t, r, T, hs, ht, hd, c, hc, hcb => by
    simp only [skipL] at hs
    have hnj : ∀ v, nth (putD T o.dst v) j = .bool c := by
      intro v
      cases hdo : o.dst with
      | none => exact hc
      | some d =>
        have hne : j ≠ d := fun e => hd o (by simp) (by rw [hdo, e])
        simp only [putD]
        have : ∀ (T : List V) (d j : Nat), j ≠ d → nth (upd T d v) j = nth T j := by
          intro T
          induction T with
          | nil => intro d j _; cases d <;> rfl
          | cons x T ih =>
            intro d j hne
            cases d with
            | zero => cases j with
              | zero => exact absurd rfl hne
              | succ j => rfl
            | succ d => cases j with
              | zero => rfl
              | succ j => exact ih d j (by omega)
        rw [this T d j hne]; exact hc
    cases hg : o.g with
    | none => rw [hg] at hs; cases hs
    | some q =>
      obtain ⟨j', b'⟩ := q
      rw [hg] at hs
      simp only at hs
      have go : ∀ {r0}, skipL j bb l (putD t o.dst undefV) = some r0 → gok o.g T = true → wantD o.g T = false → ∃ T', runOps cl b (o :: l) ⟨T, h, w⟩ = some ⟨T', h, w⟩ ∧ LeT r0 T' := by
        intro r0 h1 h2 h3
        obtain ⟨T', h4, h5⟩ := skipL_ok (b := b) (h := h) (w := w) h1 (ht.putD o.dst (Le1.refl _)) (fun o ho => hd o (by simp [ho])) c (hnj _) hcb
        exact ⟨T', by simp only [runOps, step_not h2 h3, Option.bind_some, h4], h5⟩
      cases hj : Nat.beq j' j with
      | true =>
        rw [hj] at hs
        simp only [cond_true] at hs
        have hjj : j' = j := Nat.eq_of_beq_eq_true hj
        subst hjj
        cases hb : (b' == bb) with
        | false => rw [hb] at hs; cases hs
        | true =>
          rw [hb] at hs
          simp only [cond_true] at hs
          have hbb : b' = bb := by simpa using hb
          subst hbb
          obtain ⟨g1, g2⟩ := gok_bool hg hc
          exact go hs g1 (by rw [g2]; exact hcb)
      | false =>
        rw [hj] at hs
        simp only [cond_false] at hs
        split at hs
        · rename_i hu
          obtain ⟨g1, g2⟩ := gok_undef hg (ht.undef' hu)
          exact go hs g1 g2
        · cases hs

omit hx in
theorem runOps_app {b : Nat} : ∀ {l m : List DOp} {s e f : RS}, runOps cl b l s = some e → runOps cl b m e = some f → runOps cl b (l ++ m) s = some f
  | [], m, s, e, f, h, k => by simp only [runOps, Option.some.injEq] at h; subst h; exact k
  | o :: l, m, s, e, f, h, k => by
    simp only [runOps, Option.bind_eq_some_iff] at h
    obtain ⟨s1, h1, h2⟩ := h
    simp only [List.cons_append, runOps, h1, Option.bind_some]
    exact runOps_app h2 k
omit hx in
theorem spanG_app : ∀ (l : List DOp), (spanG l).1 ++ (spanG l).2 = l
  | [] => rfl
  | o :: l => by
    simp only [spanG]
    cases o.g with
    | none => rfl
    | some q => simp only [List.cons_append, spanG_app l]

omit hx in
theorem memN_dsts {j : Nat} : ∀ {l : List DOp}, memN j (dsts l) = false → ∀ o ∈ l, o.dst ≠ some j
  | o :: l, h, o', ho', e => by
    simp only [dsts] at h
    rcases List.mem_cons.1 ho' with rfl | ho'
    · rw [e] at h
      simp only [memN, Nat.beq_refl, cond_true] at h
      cases h
    · refine memN_dsts ?_ o' ho' e
      cases hd : o.dst with
      | none => rw [hd] at h; exact h
      | some d =>
        rw [hd] at h
        simp only [memN] at h
        cases hb : Nat.beq j d with
        | true => rw [hb] at h; cases h
        | false => rw [hb] at h; exact h

omit hx in
/-- Both ways at once. -/
theorem joinS_ok {rec : List DOp → List V → List Nat → Option (Prop × List V × List Nat)} {b : Nat} {h : Heap} {w : Ws}
    (hrec : ∀ l t kn q, rec l t kn = some q → q.1 → ∀ T, LeT t T → ∃ T', runOps cl b l ⟨T, h, w⟩ = some ⟨T', h, w⟩ ∧ LeT q.2.1 T')
    {l : List DOp} {t : List V} {kn : List Nat} {j : Nat} {bb c : Bool} {q : Prop × List V × List Nat × List DOp} (hj : joinS rec l t kn j bb c = some q) (hp : q.1) (hc : nth t j = .bool c) {T : List V} (ht : LeT t T) :
    ∃ m T', l = m ++ q.2.2.2 ∧ runOps cl b m ⟨T, h, w⟩ = some ⟨T', h, w⟩ ∧ LeT q.2.1 T' := by
  unfold joinS at hj
  split at hj
  · rename_i i d j' pa pb rest hsp
    cases hcd : (Nat.beq j' j && !memN j (dsts (spanG l).1)) with
    | false => rw [hcd] at hj; cases hj
    | true =>
    rw [hcd] at hj
    simp only [cond_true] at hj
    simp only [Bool.and_eq_true, Bool.not_eq_true'] at hcd
    have hjj : j' = j := Nat.eq_of_beq_eq_true hcd.1
    subst hjj
    split at hj
    · rename_i p tA knA tB hA hB
      split at hj
      · rename_i x y hx1 hx2
        simp only [Option.some.injEq] at hj
        subst hj
        simp only at hp
        have hl : l = (spanG l).1 ++ [⟨i, some d, none, .p (.pick (.tmp j') pa pb), false, []⟩] ++ rest := by
          rw [List.append_assoc, List.singleton_append, ← hsp, spanG_app]
        have hcT := ht.bool' hc
        -- the choice, behind either
        have choice : ∀ (tX : List V) (z : Bool) (T1 : List V), cond (notAny tX (.tmp j')) (PK.ev tX (.pick (.tmp j') pa pb)) none = some (.bool z) → LeT tX T1 → LeT (forgetL t (dsts (spanG l).1)) T1 → z = cond (c == bb) x y →
            ∃ T', runOps cl b [⟨i, some d, none, .p (.pick (.tmp j') pa pb), false, []⟩] ⟨T1, h, w⟩ = some ⟨T', h, w⟩ ∧ LeT (upd (forgetL t (dsts (spanG l).1)) d (.bool (cond (c == bb) x y))) T' := by
          intro tX z T1 hz hX hfg hzz
          cases hn : notAny tX (.tmp j') with
          | false => rw [hn] at hz; cases hz
          | true =>
            rw [hn] at hz
            simp only [cond_true] at hz
            obtain ⟨v', h1, h2⟩ := PK.le hX (k := .pick (.tmp j') pa pb) hn hz
            have hv : v' = .bool z := h2.eq (by intro e; cases e)
            subst hv
            refine ⟨upd T1 d (.bool z), ?_, ?_⟩
            · have e : stepOp cl b ⟨i, some d, none, .p (.pick (.tmp j') pa pb), false, []⟩ ⟨T1, h, w⟩ = some ⟨upd T1 d (.bool z), h, w⟩ := by
                refine step_do rfl rfl ?_
                show (PK.ev T1 (.pick (.tmp j') pa pb)).bind _ = _
                rw [h1]; rfl
              show (stepOp cl b _ _).bind _ = _
              rw [e]; rfl
            · rw [← hzz]; exact hfg.upd d (Le1.refl _)
        cases hcb : (c == bb) with
        | true =>
          have hbb : c = bb := by simpa using hcb
          have e1 : upd t j' (.bool bb) = t := upd_self t j' _ (by rw [hc, hbb]) (bool_ne bb)
          rw [e1] at hA
          obtain ⟨T1, h1, h2⟩ := hrec _ _ _ _ hA (hp hcb) T ht
          have hfg := forget_ops h1 ht
          obtain ⟨T', h3, h4⟩ := choice tA x T1 hx1 h2 hfg (by rw [hcb]; rfl)
          refine ⟨_, T', hl, runOps_app h1 h3, ?_⟩
          rw [hcb] at h4; exact h4
        | false =>
          have e1 : upd t j' (.bool (!bb)) = t := upd_self t j' _ (by rw [hc, ne_bool hcb]) (bool_ne _)
          rw [e1] at hB
          obtain ⟨T1, h1, h2⟩ := skipL_ok (cl := cl) (b := b) (h := h) (w := w) hB ht (memN_dsts hcd.2) c hcT hcb
          have hfg := forget_ops h1 ht
          obtain ⟨T', h3, h4⟩ := choice tB y T1 hx2 h2 hfg (by rw [hcb]; rfl)
          refine ⟨_, T', hl, runOps_app h1 h3, ?_⟩
          rw [hcb] at h4; exact h4
      · cases hj
    · cases hj
  · cases hj

theorem pureL_ok {orc : Orc} {st : List Nat} {h : Heap} {b : Nat} {w : Ws} : ∀ (f : Nat) (l : List DOp) (t : List V) (kn : List Nat) (q : Prop × List V × List Nat), pureL XP orc st h f l t kn = some q → q.1 → ∀ T, LeT t T → ∃ T', runOps cl b l ⟨T, h, w⟩ = some ⟨T', h, w⟩ ∧ LeT q.2.1 T' := by
  intro f
  induction f with
  | zero => intro l t kn q hq; cases hq
  | succ f ih =>
    intro l t kn q hq hp T ht
    cases l with
    | nil => simp only [pureL, Option.some.injEq] at hq; subst hq; exact ⟨T, rfl, ht⟩
    | cons o l =>
      simp only [pureL] at hq
      -- one that is done
      have one : ∀ kn0 q0, (match pureK XP orc o t h with | some p => (match pureL XP orc st h f l (putD t o.dst p.2) kn0 with | some q => some (p.1 ∧ q.1, q.2) | none => none) | none => none) = some q0 → q0.1 → gok o.g T = true → wantD o.g T = true →
          ∃ T', runOps cl b (o :: l) ⟨T, h, w⟩ = some ⟨T', h, w⟩ ∧ LeT q0.2.1 T' := by
        intro kn0 q0 h1 h2 h3 h4
        split at h1
        · rename_i p hpk
          split at h1
          · rename_i q1 hq1
            simp only [Option.some.injEq] at h1; subst h1
            obtain ⟨v', e1, e2⟩ := pureK_ok hx (b := b) (w := w) hpk h2.1 ht
            obtain ⟨T', e3, e4⟩ := ih l _ _ q1 hq1 h2.2 _ (ht.putD o.dst e2)
            exact ⟨T', by simp only [runOps, step_do h3 h4 e1, Option.bind_some, e3], e4⟩
          · cases h1
        · cases h1
      have pass : ∀ kn0 q0, pureL XP orc st h f l (putD t o.dst undefV) kn0 = some q0 → q0.1 → gok o.g T = true → wantD o.g T = false →
          ∃ T', runOps cl b (o :: l) ⟨T, h, w⟩ = some ⟨T', h, w⟩ ∧ LeT q0.2.1 T' := by
        intro kn0 q0 h1 h2 h3 h4
        obtain ⟨T', e3, e4⟩ := ih l _ _ q0 h1 h2 _ (ht.putD o.dst (Le1.refl _))
        exact ⟨T', by simp only [runOps, step_not h3 h4, Option.bind_some, e3], e4⟩
      cases hg : o.g with
      | none =>
        rw [hg] at hq
        exact one _ q hq hp (by rw [hg]; rfl) (by rw [hg]; rfl)
      | some g =>
        obtain ⟨j, bb⟩ := g
        rw [hg] at hq
        simp only at hq
        split at hq
        · rename_i c hc
          obtain ⟨g1, g2⟩ := gok_bool hg (ht.bool' hc)
          cases hm : memN j kn with
          | true =>
            rw [hm] at hq
            simp only [cond_true] at hq
            cases hcb : (c == bb) with
            | true => rw [hcb] at hq; exact one _ q hq hp g1 (by rw [g2, hcb])
            | false => rw [hcb] at hq; exact pass _ q hq hp g1 (by rw [g2, hcb])
          | false =>
            rw [hm] at hq
            simp only [cond_false] at hq
            split at hq
            · rename_i qj hqj
              split at hq
              · rename_i r hr
                simp only [Option.some.injEq] at hq; subst hq
                obtain ⟨m, T1, e1, e2, e3⟩ := joinS_ok (cl := cl) (b := b) (w := w) ih hqj hp.1 hc ht
                obtain ⟨T', e4, e5⟩ := ih _ _ _ r hr hp.2 T1 e3
                exact ⟨T', by rw [e1]; exact runOps_app e2 e4, e5⟩
              · cases hq
            · cases hq
        · rename_i hu
          obtain ⟨g1, g2⟩ := gok_undef hg (ht.undef' hu)
          exact pass _ q hq hp g1 g2
        · cases hq
end pure

section
variable {α : Type} {ct : Nat → List V → Heap → (V → Heap → DT α) → DT α} {cl : Cl} {XP : ExtP} {Q : α → Prop}

theorem eT_ok {b : Nat} {o : DOp} {t T : List V} {h : Heap} {w : Ws} {C : V → Heap → Ws → DT α} {k : EK} (hs : (eT cl o t h w C k).sat Q) (ht : LeT t T) (hf : k.fine t = true) :
    ∃ v h' w', stepK cl b o ⟨T, h, w⟩ (.e k) = some ⟨putD T o.dst v, h', w'⟩ ∧ (C v h' w').sat Q := by
  unfold eT at hs
  cases ho : ekOb t h k with
  | some p =>
    rw [ho] at hs
    simp only at hs
    cases hc : o.cs with
    | nil =>
      rw [hc] at hs
      obtain ⟨h1, h2⟩ := hs
      exact ⟨p.2.1, p.2.2, w, by simp only [stepK, EK.le ht hf, ekOb_ok (cl := cl) ho h1, hc, Option.bind_some, okW, cond_true], h2⟩
    | cons c cs =>
      rw [hc] at hs
      obtain ⟨⟨h0, h1⟩, h2⟩ := hs
      exact ⟨p.2.1, p.2.2, w, by simp only [stepK, EK.le ht hf, ekOb_ok (cl := cl) ho h0, hc, Option.bind_some, h1, cond_true], h2⟩
  | none =>
  rw [ho] at hs
  simp only at hs
  cases hk : k.run cl t h with
  | none => rw [hk] at hs; exact hs.elim
  | some p =>
    rw [hk] at hs
    simp only at hs
    cases hc : o.cs with
    | nil => rw [hc] at hs; exact ⟨p.1, p.2, w, by simp only [stepK, EK.le ht hf, hk, hc, Option.bind_some, okW, cond_true], hs⟩
    | cons c cs =>
      rw [hc] at hs
      obtain ⟨h1, h2⟩ := hs
      exact ⟨p.1, p.2, w, by simp only [stepK, EK.le ht hf, hk, hc, Option.bind_some, h1, cond_true], h2⟩
theorem eK_ok (hct : CtOk ct cl Q) {b : Nat} {o : DOp} {t T : List V} {h : Heap} {w : Ws} {C : V → Heap → Ws → DT α} {k : EK} (hs : (eK ct cl o t h w C k).sat Q) (ht : LeT t T) (hfn : k.fine t = true) :
    ∃ v h' w', stepK cl b o ⟨T, h, w⟩ (.e k) = some ⟨putD T o.dst v, h', w'⟩ ∧ (C v h' w').sat Q := by
  cases k with
  | call fo args =>
    simp only [eK] at hs
    have hfn0 := hfn
    simp only [EK.fine, Bool.and_eq_true] at hfn
    cases hf : fo.ev t with
    | func f cap =>
      rw [hf] at hs
      simp only at hs
      obtain ⟨r, h', h1, h2⟩ := hct _ _ _ _ hs
      cases hc : o.cs with
      | nil =>
        rw [hc] at h2
        exact ⟨r, h', w, by simp only [stepK, EK.le ht hfn0]; simp only [EK.run, callV, hf, h1, hc, Option.bind_some, okW, cond_true], h2⟩
      | cons c cs =>
        rw [hc] at h2
        obtain ⟨h3, h4⟩ := h2
        exact ⟨r, h', w, by simp only [stepK, EK.le ht hfn0]; simp only [EK.run, callV, hf, h1, hc, Option.bind_some, h3, cond_true], h4⟩
    | _ => rw [hf] at hs; exact hs.elim
  | store _ _ _ => exact eT_ok hs ht hfn
  | append _ _ _ _ => exact eT_ok hs ht hfn
  | appendZ _ _ _ _ _ => exact eT_ok hs ht hfn
  | copy _ _ _ => exact eT_ok hs ht hfn
  | clear _ _ _ => exact eT_ok hs ht hfn
  | next _ => exact eT_ok hs ht hfn
  | froz _ => exact eT_ok hs ht hfn
  | insert _ _ _ => exact eT_ok hs ht hfn

theorem kT_ok (hct : CtOk ct cl Q) {b : Nat} {o : DOp} {t T : List V} {h : Heap} {w : Ws} {C : V → Heap → Ws → DT α} (ht : LeT t T) : ∀ {k : K}, k.fine t = true → (kT ct cl b o t h w C k).sat Q →
    ∃ v v' h' w', stepK cl b o ⟨T, h, w⟩ k = some ⟨putD T o.dst v', h', w'⟩ ∧ Le1 v v' ∧ (C v h' w').sat Q
  | .p k, hf, hs => by
    simp only [K.fine] at hf
    simp only [kT] at hs
    cases ho : pkOb t k with
    | some p =>
      rw [ho] at hs
      obtain ⟨h1, h2⟩ := hs
      obtain ⟨v', e1, e2⟩ := PK.le ht hf (pkOb_ok ho h1)
      exact ⟨p.2, v', h, w, by simp only [stepK, e1, Option.bind_some], e2, h2⟩
    | none =>
    rw [ho] at hs
    simp only at hs
    cases hk : k.ev t with
    | none => rw [hk] at hs; exact hs.elim
    | some v =>
      rw [hk] at hs
      obtain ⟨v', e1, e2⟩ := PK.le ht hf hk
      exact ⟨v, v', h, w, by simp only [stepK, e1, Option.bind_some], e2, hs⟩
  | .r k, hf, hs => by
    simp only [K.fine] at hf
    simp only [kT] at hs
    cases hk : k.res t with
    | none => rw [hk] at hs; exact hs.elim
    | some r =>
      rw [hk] at hs
      simp only at hs
      cases hr : r.rd h with
      | none => rw [hr] at hs; exact hs.elim
      | some v =>
        rw [hr] at hs
        refine ⟨v, v, h, _, ?_, Le1.refl v, hs⟩
        simp only [stepK, RK.le ht hf, hk, hr, Option.bind_some]
        cases o.wt <;> rfl
  | .a sl k, hf, hs => by
    simp only [K.fine] at hf
    simp only [kT] at hs
    cases hg : h.get (b + sl) with
    | some x => rw [hg] at hs; exact hs.elim
    | none =>
      rw [hg] at hs
      simp only at hs
      cases hb : Nat.ble (b + sl + 1) h.n with
      | false => rw [hb] at hs; exact hs.elim
      | true =>
        rw [hb] at hs
        simp only at hs
        have hlt : b + sl < h.n := Nat.le_of_ble_eq_true hb
        cases hk : k.mk t (b + sl) with
        | none => rw [hk] at hs; exact hs.elim
        | some p =>
          rw [hk] at hs
          exact ⟨p.2, p.2, _, w, by simp only [stepK, hg, hlt, AK.le ht hf, hk, if_true, Option.bind_some], Le1.refl _, hs⟩
  | .e k, hf, hs => by
    simp only [K.fine] at hf
    obtain ⟨v, h', w', h1, h2⟩ := eK_ok hct (b := b) hs ht hf
    exact ⟨v, v, h', w', h1, Le1.refl v, h2⟩

theorem gT_ok {b : Nat} {o : DOp} {t T : List V} {h : Heap} {w : Ws} {r : V × Heap} {C : V → Heap → Ws → DT α} (ht : LeT t T) : ∀ {k : K}, k.fine t = true → (gT cl o t h w r C k).sat Q →
    ∃ v v' h' w', stepK cl b o ⟨T, h, w⟩ k = some ⟨putD T o.dst v', h', w'⟩ ∧ Le1 v v' ∧ (C v h' w').sat Q
  | .p k, hf, hs => by
    simp only [K.fine] at hf
    obtain ⟨h1, h2⟩ := hs
    obtain ⟨v', e1, e2⟩ := PK.le ht hf h1
    exact ⟨r.1, v', h, w, by simp only [stepK, e1, Option.bind_some], e2, h2⟩
  | .r k, hf, hs => by
    simp only [K.fine] at hf
    simp only [gT] at hs
    cases hk : k.res t with
    | none => rw [hk] at hs; exact hs.elim
    | some rv =>
      rw [hk] at hs
      obtain ⟨h1, h2⟩ := hs
      refine ⟨r.1, r.1, h, _, ?_, Le1.refl _, h2⟩
      simp only [stepK, RK.le ht hf, hk, h1, Option.bind_some]
      cases o.wt <;> rfl
  | .a sl k, _, hs => hs.elim
  | .e k, hf, hs => by
    simp only [K.fine] at hf
    simp only [gT] at hs
    cases hc : o.cs with
    | nil =>
      rw [hc] at hs
      obtain ⟨h1, h2⟩ := hs
      exact ⟨r.1, r.1, r.2, w, by simp only [stepK, EK.le ht hf, h1, hc, Option.bind_some, okW, cond_true], Le1.refl _, h2⟩
    | cons c cs => rw [hc] at hs; exact hs.elim

theorem doT_ok (hct : CtOk ct cl Q) {orc : Orc} {b : Nat} {o : DOp} {t T : List V} {h : Heap} {w : Ws} {C : V → Heap → Ws → DT α} (ht : LeT t T) (hs : (doT ct cl orc b o t h w C).sat Q) :
    ∃ v v' h' w', stepK cl b o ⟨T, h, w⟩ o.k = some ⟨putD T o.dst v', h', w'⟩ ∧ Le1 v v' ∧ (C v h' w').sat Q := by
  unfold doT at hs
  split at hs
  · rename_i hf
    split at hs
    · exact kT_ok hct ht hf hs
    · exact gT_ok ht hf hs
  · exact hs.elim

theorem opsT_ok (hct : CtOk ct cl Q) (hx : XpOk XP cl) {orc : Orc} {st : List Nat} {b : Nat} : ∀ {f : Nat} {l : List DOp} {t T : List V} {kn : List Nat} {h : Heap} {w : Ws} {C : List V → List Nat → Heap → DT α}, (opsT ct cl XP orc st b f l t kn h w C).sat Q → LeT t T →
    ∃ e t' kn', runOps cl b l ⟨T, h, w⟩ = some e ∧ LeT t' e.t ∧ (C t' kn' e.h).sat Q := by
  intro f
  induction f with
  | zero => intro l t T kn h w C hs; exact hs.elim
  | succ f ih =>
    intro l t T kn h w C hs ht
    cases l with
    | nil => exact ⟨⟨T, h, w⟩, t, kn, rfl, ht, hs⟩
    | cons o l =>
      simp only [opsT] at hs
      have yes : ∀ kn0, gok o.g T = true → wantD o.g T = true → (doT ct cl orc b o t h w fun v h w => opsT ct cl XP orc st b f l (putD t o.dst v) kn0 h w C).sat Q → ∃ e t' kn', runOps cl b (o :: l) ⟨T, h, w⟩ = some e ∧ LeT t' e.t ∧ (C t' kn' e.h).sat Q := by
        intro kn0 g1 g2 hd
        obtain ⟨v, v', h', w', h1, h2, h3⟩ := doT_ok hct ht hd
        obtain ⟨e, t', kn', h4, h5, h6⟩ := ih h3 (ht.putD o.dst h2)
        exact ⟨e, t', kn', by simp only [runOps, step_do g1 g2 h1, Option.bind_some, h4], h5, h6⟩
      have no : ∀ kn0, gok o.g T = true → wantD o.g T = false → (opsT ct cl XP orc st b f l (putD t o.dst undefV) kn0 h w C).sat Q → ∃ e t' kn', runOps cl b (o :: l) ⟨T, h, w⟩ = some e ∧ LeT t' e.t ∧ (C t' kn' e.h).sat Q := by
        intro kn0 g1 g2 hd
        obtain ⟨e, t', kn', h4, h5, h6⟩ := ih hd (ht.putD o.dst (Le1.refl _))
        exact ⟨e, t', kn', by simp only [runOps, step_not g1 g2, Option.bind_some, h4], h5, h6⟩
      cases hg : o.g with
      | none =>
        rw [hg] at hs
        exact yes _ (by rw [hg]; rfl) (by rw [hg]; rfl) hs
      | some q =>
        obtain ⟨j, bb⟩ := q
        rw [hg] at hs
        simp only at hs
        split at hs
        · rename_i c hc
          obtain ⟨g1, g2⟩ := gok_bool hg (ht.bool' hc)
          rcases cond_split hs with ⟨_, hs⟩ | ⟨_, hs⟩
          · rcases cond_split hs with ⟨hcb, hs⟩ | ⟨hcb, hs⟩
            · exact yes _ g1 (by rw [g2, hcb]) hs
            · exact no _ g1 (by rw [g2, hcb]) hs
          · split at hs
            · rename_i qj hqj
              obtain ⟨p1, p2⟩ := hs
              obtain ⟨m, T1, e1, e2, e3⟩ := joinS_ok (cl := cl) (b := b) (h := h) (w := w) (pureL_ok hx f) hqj p1 hc ht
              obtain ⟨e, t', kn', e4, e5, e6⟩ := ih p2 e3
              exact ⟨e, t', kn', by rw [e1]; exact runOps_app e2 e4, e5, e6⟩
            · rcases node_split hs with ⟨hcb, hs⟩ | ⟨hcb, hs⟩
              · have e1 : upd t j (.bool bb) = t := upd_self t j _ (by rw [hc]; simpa using hcb) (bool_ne bb)
                rw [e1] at hs
                exact yes _ g1 (by rw [g2, hcb]) hs
              · have e1 : upd t j (.bool (!bb)) = t := upd_self t j _ (by rw [hc, ne_bool hcb]) (bool_ne _)
                rw [e1] at hs
                exact no _ g1 (by rw [g2, hcb]) hs
        · rename_i hu
          obtain ⟨g1, g2⟩ := gok_undef hg (ht.undef' hu)
          exact no _ g1 g2 hs
        · exact hs.elim

theorem bind_sat {β : Type} : ∀ {d : DT β} {f : β → DT α}, (d.bind f).sat Q → d.sat fun b => (f b).sat Q
  | .fail, _, h => h
  | .leaf _, _, h => h
  | .node _ _ _, _, h => ⟨fun c => bind_sat (h.1 c), fun c => bind_sat (h.2 c)⟩
  | .ob _ _, _, h => ⟨h.1, bind_sat h.2⟩

def noLt : Lt := fun _ _ _ => .fail

/-- Code whose loops are gone through round by round. -/
theorem codeT_ok (hct : CtOk ct cl Q) (hx : XpOk XP cl) {orc : Orc} {st : List Nat} (lp : Lp) (hlp : ∀ k c b s r, loopN b 400 s = some r → lp k c b s = some r) :
    ∀ {c : DC} {k : Nat} {t T : List V} {kn : List Nat} {h : Heap} {C : Ex → List V → List Nat → Heap → DT α}, (codeT ct cl XP orc st noLt k c t kn h C).sat Q → LeT t T →
    ∃ ex s t' kn', evC cl lp k c ⟨T, h⟩ = some (ex, s) ∧ LeT t' s.t ∧ (C ex t' kn' s.h).sat Q := by
  intro c
  induction c with
  | skip => intro k t T kn h C hs ht; exact ⟨.normal, ⟨T, h⟩, t, kn, rfl, ht, hs⟩
  | reg n ops =>
    intro k t T kn h C hs ht
    obtain ⟨e, t', kn', h1, h2, h3⟩ := opsT_ok hct hx hs ht
    exact ⟨.normal, ⟨e.t, e.h⟩, t', kn', by simp only [evC, regV, h1, Option.map_some], h2, h3⟩
  | seq x y ihx ihy =>
    intro k t T kn h C hs ht
    obtain ⟨ex, s, t1, kn1, h1, h2, h3⟩ := ihx hs ht
    cases ex with
    | normal =>
      obtain ⟨ex2, s2, t2, kn2, h4, h5, h6⟩ := ihy h3 h2
      exact ⟨ex2, s2, t2, kn2, by simp only [evC, h1, Option.bind_some, h4], h5, h6⟩
    | exit i => exact ⟨.exit i, s, t1, kn1, by simp only [evC, h1, Option.bind_some], h2, h3⟩
    | ret => exact ⟨.ret, s, t1, kn1, by simp only [evC, h1, Option.bind_some], h2, h3⟩
  | cond o x y ihx ihy =>
    intro k t T kn h C hs ht
    cases o with
    | tmp j =>
      simp only [codeT] at hs
      split at hs
      · rename_i c hc
        have hcT := ht.bool' hc
        have yes : ∀ kn0, c = true → (codeT ct cl XP orc st noLt k x t kn0 h C).sat Q → ∃ ex s t' kn', evC cl lp k (.cond (.tmp j) x y) ⟨T, h⟩ = some (ex, s) ∧ LeT t' s.t ∧ (C ex t' kn' s.h).sat Q := by
          intro kn0 hct hd
          obtain ⟨ex, s, t1, kn1, h1, h2, h3⟩ := ihx hd ht
          exact ⟨ex, s, t1, kn1, by simp only [evC, Opd.ev, hcT, hct, h1], h2, h3⟩
        have no : ∀ kn0, c = false → (codeT ct cl XP orc st noLt k y t kn0 h C).sat Q → ∃ ex s t' kn', evC cl lp k (.cond (.tmp j) x y) ⟨T, h⟩ = some (ex, s) ∧ LeT t' s.t ∧ (C ex t' kn' s.h).sat Q := by
          intro kn0 hct hd
          obtain ⟨ex, s, t1, kn1, h1, h2, h3⟩ := ihy hd ht
          exact ⟨ex, s, t1, kn1, by simp only [evC, Opd.ev, hcT, hct, h1], h2, h3⟩
        rcases cond_split hs with ⟨_, hs⟩ | ⟨_, hs⟩
        · rcases cond_split hs with ⟨hct, hs⟩ | ⟨hct, hs⟩
          · exact yes _ hct hs
          · exact no _ hct hs
        · rcases node_split hs with ⟨hct, hs⟩ | ⟨hct, hs⟩
          · rw [upd_self t j _ (by rw [hc, hct]) (bool_ne _)] at hs; exact yes _ hct hs
          · rw [upd_self t j _ (by rw [hc, hct]) (bool_ne _)] at hs; exact no _ hct hs
      · exact hs.elim
    | cst v =>
      simp only [codeT] at hs
      split at hs
      · obtain ⟨ex, s, t1, kn1, h1, h2, h3⟩ := ihx hs ht
        exact ⟨ex, s, t1, kn1, by simp only [evC, Opd.ev, h1], h2, h3⟩
      · obtain ⟨ex, s, t1, kn1, h1, h2, h3⟩ := ihy hs ht
        exact ⟨ex, s, t1, kn1, by simp only [evC, Opd.ev, h1], h2, h3⟩
      · exact hs.elim
  | block id x ih =>
    intro k t T kn h C hs ht
    obtain ⟨ex, s, t1, kn1, h1, h2, h3⟩ := ih hs ht
    cases ex with
    | normal => exact ⟨.normal, s, t1, kn1, by simp only [evC, h1, Option.map_some], h2, h3⟩
    | ret => exact ⟨.ret, s, t1, kn1, by simp only [evC, h1, Option.map_some], h2, h3⟩
    | exit i =>
      rcases cond_split h3 with ⟨hi, h3⟩ | ⟨hi, h3⟩
      · have : i = id := Nat.eq_of_beq_eq_true hi
        exact ⟨.normal, s, t1, kn1, by simp only [evC, h1, Option.map_some, this, if_true], h2, h3⟩
      · have : i ≠ id := Nat.ne_of_beq_eq_false hi
        exact ⟨.exit i, s, t1, kn1, by simp only [evC, h1, Option.map_some, this, if_false], h2, h3⟩
  | loop x ih =>
    intro k t T kn h C hs ht
    have key : ∀ (n : Nat) (t T : List V) (kn : List Nat) (h : Heap), (unrT (codeT ct cl XP orc st noLt k x) n t kn h C).sat Q → LeT t T →
        ∃ ex s t' kn', loopN (evC cl lp k x) n ⟨T, h⟩ = some (ex, s) ∧ LeT t' s.t ∧ (C ex t' kn' s.h).sat Q := by
      intro n
      induction n with
      | zero => intro t T kn h hs; exact absurd hs (fun q => q)
      | succ n ihn =>
        intro t T kn h hs ht
        obtain ⟨ex, s, t1, kn1, h1, h2, h3⟩ := ih hs ht
        cases ex with
        | normal =>
          obtain ⟨ex2, s2, t2, kn2, h4, h5, h6⟩ := ihn t1 s.t kn1 s.h h3 h2
          exact ⟨ex2, s2, t2, kn2, by simp only [loopN, h1, Option.bind_some, h4], h5, h6⟩
        | exit i => exact ⟨.exit i, s, t1, kn1, by simp only [loopN, h1, Option.bind_some], h2, h3⟩
        | ret => exact ⟨.ret, s, t1, kn1, by simp only [loopN, h1, Option.bind_some], h2, h3⟩
    obtain ⟨ex, s, t1, kn1, h1, h2, h3⟩ := key 400 t T kn h hs ht
    exact ⟨ex, s, t1, kn1, by simp only [evC]; exact hlp _ _ _ _ _ h1, h2, h3⟩
  | exit i => intro k t T kn h C hs ht; exact ⟨.exit i, ⟨T, h⟩, t, kn, rfl, ht, hs⟩
  | ret => intro k t T kn h C hs ht; exact ⟨.ret, ⟨T, h⟩, t, kn, rfl, ht, hs⟩
end
end Gw
