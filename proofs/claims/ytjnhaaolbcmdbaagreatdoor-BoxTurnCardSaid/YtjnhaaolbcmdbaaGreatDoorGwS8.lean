/- The symbolic machine. -/
import Derived.Test.YtjnhaaolbcmdbaaGreatDoorGwS7
namespace Gw
open Go

abbrev SCl := Nat → List SV → PC → SHeap → R (SV × SHeap)
abbrev WMap := Nat → Option (SRV × SV)

def sEK (cl : SCl) (pc : PC) (t : List SV) (sh : SHeap) : EK → R (SV × SHeap)
  | .store n a x => (sOp t a).bind fun a => (sOp t x).bind fun x => (sstoreV n a x sh).bind fun sh => rOne pc (sundef, sh)
  | .call f args => (sOp t f).bind fun f => (sOps t args).bind fun args => match f with
    | .func f cap => cl f (srepL.appS args cap) pc sh
    | _ => none
  | .append e b s x => (sOp t s).bind fun s => (sOp t x).bind fun x => (saddedV pc sh e x).bind fun p => (sappendV pc sh e b s p.1 p.2).bind (rOne pc)
  | .appendZ e b z s x => (sOp t s).bind fun s => (sOp t x).bind fun x => (symL z).bind fun z => match x with
    | .int _ (.c n) => if 0 ≤ n ∧ n * b ≤ 70368744177664 ∧ n ≤ 70368744177664 then (sappendV pc sh e b s (srepL z n.toNat) n.toNat).bind (rOne pc) else none
    | _ => none
  | .copy e d s => (sOp t d).bind fun d => (sOp t s).bind fun s => (scopyV pc sh e d s).bind (rOne pc)
  | .clear e z x => (sOp t x).bind fun x => (sclearV pc sh e z x).bind fun sh => rOne pc (sundef, sh)
  | .next x => (sOp t x).bind fun x => (snextV sh x).bind (rOne pc)
  | .froz x => (sOp t x).bind fun x => (sfrozV pc sh x).bind (rOne pc)
  | .insert mp k x => (sOp t mp).bind fun mp => (sOp t k).bind fun k => (sOp t x).bind fun x => (sinsertV pc sh mp k x).bind fun sh => rOne pc (sundef, sh)

/-- What a call of the symbolic machine's says of one of the machine's. -/
def ClR (m : Mn) (scl : SCl) (cl : Cl) : Prop := ∀ f args pc sh h, m.σ.ok pc → HC m sh h →
  Snd m.σ (scl f args pc sh) fun p => ∃ h', cl f (SV.ccs m args) h = some (p.1.cc m, h') ∧ HC m p.2 h' ∧ Fri m h h'

variable {m : Mn} {t : List SV}

theorem sundef_cc (m : Mn) : sundef.cc m = undefV := rfl

theorem sEK_ok {scl : SCl} {cl : Cl} (hcl : ClR m scl cl) {pc : PC} (hp : m.σ.ok pc) {sh : SHeap} {h : Heap} (H : HC m sh h) (k : EK) :
    Snd m.σ (sEK scl pc t sh k) fun p => ∃ h', k.run cl (SV.ccs m t) h = some (p.1.cc m, h') ∧ HC m p.2 h' ∧ Fri m h h' := by
  cases k with
  | store n a x =>
    refine Snd.opt fun a' ha => Snd.opt fun x' hx => Snd.opt fun s1 hs => Snd.one hp ?_
    obtain ⟨h', h1, h2⟩ := sstoreV_ok H hs
    exact ⟨h', by simp only [EK.run, sOp_ok (m := m) ha, sOp_ok (m := m) hx, h1, Option.map_some, sundef_cc], h2⟩
  | call f args =>
    refine Snd.opt fun f' hf => Snd.opt fun as ha => ?_
    split
    · rename_i g cap
      refine (hcl g _ pc sh h hp H).mono fun p ⟨h', h1, h2⟩ => ⟨h', ?_, h2⟩
      rw [appS_eq, ccs_append] at h1
      simp only [EK.run, sOp_ok (m := m) hf, sOps_ok (m := m) ha, SV.cc, callV, h1]
    · exact Snd.none
  | append e b s x =>
    refine Snd.opt fun s' hs => Snd.opt fun x' hx => Snd.opt fun p hq => Snd.opt fun r hr => Snd.one hp ?_
    obtain ⟨vs, n⟩ := p
    obtain ⟨v, s1⟩ := r
    obtain ⟨h', h1, h2⟩ := sappendV_ok hp H hr
    exact ⟨h', by simp only [EK.run, sOp_ok (m := m) hs, sOp_ok (m := m) hx, saddedV_ok hp H hq, Option.bind_some, h1], h2⟩
  | appendZ e b z s x =>
    refine Snd.opt fun s' hs => Snd.opt fun x' hx => Snd.opt fun z' hz => ?_
    split
    · rename_i k n
      split
      · rename_i hc
        refine Snd.opt fun r hr => Snd.one hp ?_
        obtain ⟨v, s1⟩ := r
        obtain ⟨h', h1, h2⟩ := sappendV_ok hp H hr
        rw [srepL_ok, symL_ok m z hz] at h1
        exact ⟨h', by simp only [EK.run, sOp_ok (m := m) hs, sOp_ok (m := m) hx, SV.cc, IT.ev, if_pos hc, h1], h2⟩
      · exact Snd.none
    · exact Snd.none
  | copy e d s =>
    refine Snd.opt fun d' hd => Snd.opt fun s' hs => Snd.opt fun r hr => Snd.one hp ?_
    obtain ⟨v, s1⟩ := r
    obtain ⟨h', h1, h2⟩ := scopyV_ok hp H hr
    exact ⟨h', by simp only [EK.run, sOp_ok (m := m) hd, sOp_ok (m := m) hs, h1], h2⟩
  | clear e z x =>
    refine Snd.opt fun x' hx => Snd.opt fun s1 hr => Snd.one hp ?_
    obtain ⟨h', h1, h2⟩ := sclearV_ok hp H hr
    exact ⟨h', by simp only [EK.run, sOp_ok (m := m) hx, h1, Option.map_some, sundef_cc], h2⟩
  | next x =>
    refine Snd.opt fun x' hx => Snd.opt fun r hr => Snd.one hp ?_
    obtain ⟨v, s1⟩ := r
    obtain ⟨h', h1, h2⟩ := snextV_ok H hr
    exact ⟨h', by simp only [EK.run, sOp_ok (m := m) hx, h1], h2⟩
  | froz x =>
    refine Snd.opt fun x' hx => Snd.opt fun r hr => Snd.one hp ?_
    obtain ⟨v, s1⟩ := r
    obtain ⟨h', h1, h2⟩ := sfrozV_ok hp H hr
    exact ⟨h', by simp only [EK.run, sOp_ok (m := m) hx, h1], h2⟩
  | insert mp k x =>
    refine Snd.opt fun mp' hmp => Snd.opt fun k' hk => Snd.opt fun x' hx => Snd.opt fun s1 hr => Snd.one hp ?_
    obtain ⟨h', h1, h2⟩ := sinsertV_ok hp H hr
    exact ⟨h', by simp only [EK.run, sOp_ok (m := m) hmp, sOp_ok (m := m) hk, sOp_ok (m := m) hx, h1, Option.map_some, sundef_cc], h2⟩

structure SRS where
  t : List SV
  h : SHeap
  w : WMap
def swset (w : WMap) (i : Nat) (x : SRV × SV) : WMap := fun j => if j = i then some x else w j

def sOkW (pc : PC) (w : WMap) (sh : SHeap) : List Nat → Bool
  | [] => true
  | j :: l => (match w j with
    | none => true
    | some (r, x) => match sRdD pc sh r with
      | some y => SV.beq y x
      | none => false) && sOkW pc w sh l
def ccW (m : Mn) (w : WMap) : Nat → Option (RV × V) := fun j => (w j).map fun p => (p.1.cc m, p.2.cc m)
theorem sOkW_ok {pc : PC} (hp : m.σ.ok pc) {w : WMap} {sh : SHeap} {h : Heap} (H : HC m sh h) : ∀ (l : List Nat), sOkW pc w sh l = true → okW (ccW m w) h l = true
  | [], _ => rfl
  | j :: l, hk => by
    simp only [sOkW, Bool.and_eq_true] at hk
    obtain ⟨h1, h2⟩ := hk
    simp only [okW, Bool.and_eq_true]
    refine ⟨?_, sOkW_ok hp H l h2⟩
    cases hw : w j with
    | none => simp [ccW, hw]
    | some p =>
      obtain ⟨r, x⟩ := p
      rw [hw] at h1
      simp only at h1
      cases hr : sRdD pc sh r with
      | none => rw [hr] at h1; cases h1
      | some y =>
        rw [hr] at h1
        have := SV.beq_ok m y x h1
        simp only [ccW, hw, Option.map_some, sRdD_ok hp H hr, this, V.beq_refl]

def sStepK (cl : SCl) (b : Nat) (o : DOp) (s : SRS) (pc : PC) : K → R SRS
  | .p k => rB (sPK pc s.t k) fun pc v => rOne pc ⟨sputD s.t o.dst v, s.h, s.w⟩
  | .r k => (sRes pc s.t k).bind fun r => rB (sRd pc s.h r) fun pc v => rOne pc ⟨sputD s.t o.dst v, s.h, if o.wt then swset s.w o.i (r, v) else s.w⟩
  | .a sl k => match s.h.get (b + sl) with
    | none => if b + sl < s.h.n then (sAK s.t (b + sl) k).bind fun p => rOne pc ⟨sputD s.t o.dst p.2, s.h.put (b + sl) (some p.1), s.w⟩ else none
    | some _ => none
  | .e k => rB (sEK cl pc s.t s.h k) fun pc p => if sOkW pc s.w p.2 o.cs then rOne pc ⟨sputD s.t o.dst p.1, p.2, s.w⟩ else none

structure RSC (m : Mn) (s : SRS) (r : RS) : Prop where
  t : r.t = SV.ccs m s.t
  h : HC m s.h r.h
  w : r.w = ccW m s.w

theorem ccW_set (m : Mn) (w : WMap) (i : Nat) (x : SRV × SV) : ccW m (swset w i x) = wset (ccW m w) i (x.1.cc m, x.2.cc m) := by
  funext j
  simp only [ccW, swset, wset]
  split <;> rfl

theorem sStepK_ok {scl : SCl} {cl : Cl} (hcl : ClR m scl cl) {pc : PC} (hp : m.σ.ok pc) {sb b : Nat} (hb : ∀ k, m.ι (sb + k) = b + k) {o : DOp} {s : SRS} {r : RS} (C : RSC m s r) (k : K) :
    Snd m.σ (sStepK scl sb o s pc k) fun s1 => ∃ r1, stepK cl b o r k = some r1 ∧ RSC m s1 r1 ∧ Fri m r.h r1.h := by
  obtain ⟨t, h, w⟩ := s
  obtain ⟨t', h', w'⟩ := r
  obtain ⟨ct, ch, cw⟩ := C
  simp only at ct ch cw
  subst ct; subst cw
  cases k with
  | p k =>
    refine Snd.bind (sPK_ok hp k) fun pc v hp hv => Snd.one hp ⟨⟨SV.ccs m (sputD t o.dst v), h', ccW m w⟩, ?_, ⟨rfl, ch, rfl⟩, Fri.refl _ _⟩
    simp only [stepK, hv, Option.bind_some, sputD_ok]
  | r k =>
    refine Snd.opt fun rv hr => Snd.bind (sRd_ok hp ch rv) fun pc' v hp' hv => Snd.one hp' ⟨⟨SV.ccs m (sputD t o.dst v), h', ccW m (if o.wt then swset w o.i (rv, v) else w)⟩, ?_, ⟨rfl, ch, rfl⟩, Fri.refl _ _⟩
    simp only [stepK, sRes_ok hp hr, Option.bind_some, hv, sputD_ok]
    cases hw : o.wt <;> simp [ccW_set]
  | a sl k =>
    simp only [sStepK]
    split
    · rename_i hg
      split
      · rename_i hlt
        refine Snd.opt fun p ha => ?_
        obtain ⟨bk, v⟩ := p
        obtain ⟨bk', h1, h2⟩ := sAK_ok (m := m) ha
        obtain ⟨a, c⟩ := ch.put (sb + sl) h2
        refine Snd.one hp ⟨⟨SV.ccs m (sputD t o.dst v), h'.put (m.ι (sb + sl)) (some bk'), ccW m w⟩, ?_, ⟨rfl, a, rfl⟩, c⟩
        have e1 := ch.non _ hg
        rw [hb] at e1 h1
        have e2 : b + sl < h'.n := by
          have h3 := ch.n0
          obtain ⟨d, hd⟩ : ∃ d, h.n = sb + d := ⟨h.n - sb, by omega⟩
          rw [hd, hb] at h3
          omega
        simp only [stepK, e1, if_pos e2, h1, Option.bind_some, sputD_ok, hb]
      · exact Snd.none
    · exact Snd.none
  | e k =>
    refine Snd.bind (sEK_ok (t := t) hcl hp ch k) fun pc p hp hv => ?_
    obtain ⟨h1, h2, h3, h4⟩ := hv
    split
    · rename_i hw
      refine Snd.one hp ⟨⟨SV.ccs m (sputD t o.dst p.1), h1, ccW m w⟩, ?_, ⟨rfl, h3, rfl⟩, h4⟩
      simp only [stepK, h2, Option.bind_some, sOkW_ok hp h3 _ hw, cond_true, sputD_ok]
    · exact Snd.none

def sStepOp (cl : SCl) (b : Nat) (o : DOp) (s : SRS) (pc : PC) : R SRS :=
  match o.g with
  | none => sStepK cl b o s pc o.k
  | some (j, w) => match snth s.t j with
    | .bool c => rB (rSplit pc c) fun pc v => if v == w then sStepK cl b o s pc o.k else rOne pc ⟨sputD s.t o.dst sundef, s.h, s.w⟩
    | _ => rOne pc ⟨sputD s.t o.dst sundef, s.h, s.w⟩
theorem sStepOp_ok {scl : SCl} {cl : Cl} (hcl : ClR m scl cl) {pc : PC} (hp : m.σ.ok pc) {sb b : Nat} (hb : ∀ k, m.ι (sb + k) = b + k) (o : DOp) {s : SRS} {r : RS} (C : RSC m s r) :
    Snd m.σ (sStepOp scl sb o s pc) fun s1 => ∃ r1, stepOp cl b o r = some r1 ∧ RSC m s1 r1 ∧ Fri m r.h r1.h := by
  unfold sStepOp
  split
  · rename_i hg
    refine (sStepK_ok hcl hp hb C o.k).mono fun s1 ⟨r1, h1, h2⟩ => ⟨r1, ?_, h2⟩
    simp only [stepOp, wantD, hg, cond_true, h1]
  · rename_i j w hg
    split
    · rename_i c hn
      refine Snd.bind (rSplit_ok hp c) fun pc v hp hv => ?_
      have hw : wantD o.g r.t = (v == w) := by
        simp only [wantD, hg]
        rw [C.t, ← snth_ok, hn]
        simp only [SV.cc, hv]
      split
      · rename_i he
        refine (sStepK_ok hcl hp hb C o.k).mono fun s1 ⟨r1, h1, h2⟩ => ⟨r1, ?_, h2⟩
        simp only [stepOp, hw, he, cond_true, h1]
      · rename_i he
        refine Snd.one hp ⟨⟨putD r.t o.dst undefV, r.h, r.w⟩, ?_, ⟨?_, C.h, C.w⟩, Fri.refl _ _⟩
        · have : (v == w) = false := by simpa using he
          simp only [stepOp, hw, this, cond_false]
        · rw [sputD_ok, sundef_cc, C.t]
    · rename_i hn
      refine Snd.one hp ⟨⟨putD r.t o.dst undefV, r.h, r.w⟩, ?_, ⟨?_, C.h, C.w⟩, Fri.refl _ _⟩
      · have : wantD o.g r.t = false := by
          simp only [wantD, hg]
          rw [C.t, ← snth_ok]
          cases hv : snth s.t j <;> first | rfl | exact absurd hv (hn _)
        simp only [stepOp, this, cond_false]
      · rw [sputD_ok, sundef_cc, C.t]

def sRunOps (cl : SCl) (b : Nat) : List DOp → SRS → PC → R SRS
  | [], s, pc => rOne pc s
  | o :: l, s, pc => rB (sStepOp cl b o s pc) fun pc s => sRunOps cl b l s pc
theorem sRunOps_ok {scl : SCl} {cl : Cl} (hcl : ClR m scl cl) {sb b : Nat} (hb : ∀ k, m.ι (sb + k) = b + k) : ∀ (l : List DOp) {pc : PC} {s : SRS} {r : RS}, m.σ.ok pc → RSC m s r →
    Snd m.σ (sRunOps scl sb l s pc) fun s1 => ∃ r1, runOps cl b l r = some r1 ∧ RSC m s1 r1 ∧ Fri m r.h r1.h
  | [], pc, s, r, hp, C => Snd.one hp ⟨r, rfl, C, Fri.refl _ _⟩
  | o :: l, pc, s, r, hp, C => by
    refine Snd.bind (sStepOp_ok hcl hp hb o C) fun pc s1 hp ⟨r1, h1, h2, h3⟩ => ?_
    refine (sRunOps_ok hcl hb l hp h2).mono fun s2 ⟨r2, h4, h5, h6⟩ => ⟨r2, ?_, h5, h3.trans h6⟩
    simp only [runOps, h1, Option.bind_some, h4]

structure SSt where
  t : List SV
  h : SHeap
structure StC (m : Mn) (s : SSt) (r : St) : Prop where
  t : r.t = SV.ccs m s.t
  h : HC m s.h r.h

def sRegV (cl : SCl) (n : Nat) (ops : List DOp) (s : SSt) (pc : PC) : R SSt :=
  rB (sRunOps cl s.h.n ops ⟨s.t, s.h.up n, fun _ => none⟩ pc) fun pc r => rOne pc ⟨r.t, r.h⟩
theorem sRegV_ok {scl : SCl} {cl : Cl} (hcl : ClR m scl cl) {pc : PC} (hp : m.σ.ok pc) (n : Nat) (ops : List DOp) {s : SSt} {r : St} (C : StC m s r) :
    Snd m.σ (sRegV scl n ops s pc) fun s1 => ∃ r1, regV cl n ops r = some r1 ∧ StC m s1 r1 ∧ Fri m r.h r1.h := by
  refine Snd.bind (sRunOps_ok hcl (b := r.h.n) C.h.n ops (r := ⟨r.t, r.h.up n, fun _ => none⟩) hp ⟨C.t, C.h.up n, by funext j; rfl⟩) fun pc s1 hp ⟨r1, h1, h2, h3⟩ => Snd.one hp ⟨⟨r1.t, r1.h⟩, ?_, ⟨h2.t, h2.h⟩, h3⟩
  simp only [regV, h1, Option.map_some]

abbrev SBody := PC → SSt → R (Ex × SSt)
def sLoopN (body : SBody) : Nat → PC → SSt → R (Ex × SSt)
  | 0, _, _ => none
  | n + 1, pc, s => rB (body pc s) fun pc p => match p.1 with
    | .normal => sLoopN body n pc p.2
    | .exit i => rOne pc (.exit i, p.2)
    | .ret => rOne pc (.ret, p.2)

/-- What a piece of code says. -/
def BdR (m : Mn) (sb : SBody) (bd : St → Option (Ex × St)) : Prop := ∀ pc s r, m.σ.ok pc → StC m s r →
  Snd m.σ (sb pc s) fun p => ∃ r1, bd r = some (p.1, r1) ∧ StC m p.2 r1 ∧ Fri m r.h r1.h
def LpR (m : Mn) (slp : SBody → SBody) (lp : (St → Option (Ex × St)) → St → Option (Ex × St)) : Prop := ∀ sb bd, BdR m sb bd → BdR m (slp sb) (lp bd)

theorem sLoopN_ok (n : Nat) : LpR m (fun b => sLoopN b n) (fun b => loopN b n) := by
  intro sb bd hb
  induction n with
  | zero => intro pc s r hp C; exact Snd.none
  | succ n ih =>
    intro pc s r hp C
    refine Snd.bind (hb pc s r hp C) fun pc p hp ⟨r1, h1, h2, h3⟩ => ?_
    obtain ⟨e, s1⟩ := p
    cases e with
    | normal => exact (ih pc s1 r1 hp h2).mono fun q ⟨r2, h4, h5, h6⟩ => ⟨r2, by simp only [loopN, h1, Option.bind_some]; exact h4, h5, h3.trans h6⟩
    | exit i => exact Snd.one hp ⟨r1, by simp only [loopN, h1, Option.bind_some], h2, h3⟩
    | ret => exact Snd.one hp ⟨r1, by simp only [loopN, h1, Option.bind_some], h2, h3⟩

def sEvC (cl : SCl) (lp : SBody → SBody) : DC → SBody
  | .skip => fun pc s => rOne pc (.normal, s)
  | .reg n ops => fun pc s => rB (sRegV cl n ops s pc) fun pc s => rOne pc (.normal, s)
  | .seq a b => fun pc s => rB (sEvC cl lp a pc s) fun pc p => match p.1 with
    | .normal => sEvC cl lp b pc p.2
    | .exit i => rOne pc (.exit i, p.2)
    | .ret => rOne pc (.ret, p.2)
  | .cond c a b => fun pc s => (sOp s.t c).bind fun c => match c with
    | .bool c => rB (rSplit pc c) fun pc v => if v then sEvC cl lp a pc s else sEvC cl lp b pc s
    | _ => none
  | .block id a => fun pc s => rB (sEvC cl lp a pc s) fun pc p => match p.1 with
    | .exit i => if i = id then rOne pc (.normal, p.2) else rOne pc (.exit i, p.2)
    | e => rOne pc (e, p.2)
  | .loop a => lp (sEvC cl lp a)
  | .exit i => fun pc s => rOne pc (.exit i, s)
  | .ret => fun pc s => rOne pc (.ret, s)

theorem sEvC_ok {scl : SCl} {cl : Cl} (hcl : ClR m scl cl) {slp : SBody → SBody} {lp : (St → Option (Ex × St)) → St → Option (Ex × St)} (hlp : LpR m slp lp) : ∀ c, BdR m (sEvC scl slp c) (evC cl lp c)
  | .skip => fun pc s r hp C => Snd.one hp ⟨r, rfl, C, Fri.refl _ _⟩
  | .reg n ops => fun pc s r hp C => Snd.bind (sRegV_ok hcl hp n ops C) fun pc s1 hp ⟨r1, h1, h2, h3⟩ => Snd.one hp ⟨r1, by simp only [evC, h1, Option.map_some], h2, h3⟩
  | .seq a b => fun pc s r hp C => by
    refine Snd.bind (sEvC_ok hcl hlp a pc s r hp C) fun pc p hp ⟨r1, h1, h2, h3⟩ => ?_
    obtain ⟨e, s1⟩ := p
    cases e with
    | normal => exact (sEvC_ok hcl hlp b pc s1 r1 hp h2).mono fun q ⟨r2, h4, h5, h6⟩ => ⟨r2, by simp only [evC, h1, Option.bind_some]; exact h4, h5, h3.trans h6⟩
    | exit i => exact Snd.one hp ⟨r1, by simp only [evC, h1, Option.bind_some], h2, h3⟩
    | ret => exact Snd.one hp ⟨r1, by simp only [evC, h1, Option.bind_some], h2, h3⟩
  | .cond c a b => fun pc s r hp C => by
    refine Snd.opt fun c' hc => ?_
    split
    · rename_i c0
      refine Snd.bind (rSplit_ok hp c0) fun pc v hp hv => ?_
      have e : c.ev r.t = .bool v := by rw [C.t, sOp_ok (m := m) hc]; simp only [SV.cc, hv]
      cases v with
      | true => exact (sEvC_ok hcl hlp a pc s r hp C).mono fun q ⟨r2, h4, h5⟩ => ⟨r2, by simp only [evC, e]; exact h4, h5⟩
      | false => exact (sEvC_ok hcl hlp b pc s r hp C).mono fun q ⟨r2, h4, h5⟩ => ⟨r2, by simp only [evC, e]; exact h4, h5⟩
    · exact Snd.none
  | .block id a => fun pc s r hp C => by
    refine Snd.bind (sEvC_ok hcl hlp a pc s r hp C) fun pc p hp ⟨r1, h1, h2, h3⟩ => ?_
    obtain ⟨e, s1⟩ := p
    cases e with
    | normal => exact Snd.one hp ⟨r1, by simp only [evC, h1, Option.map_some], h2, h3⟩
    | exit i =>
      simp only
      split
      · rename_i hi; exact Snd.one hp ⟨r1, by simp only [evC, h1, Option.map_some, if_pos hi], h2, h3⟩
      · rename_i hi; exact Snd.one hp ⟨r1, by simp only [evC, h1, Option.map_some, if_neg hi], h2, h3⟩
    | ret => exact Snd.one hp ⟨r1, by simp only [evC, h1, Option.map_some], h2, h3⟩
  | .loop a => fun pc s r hp C => hlp _ _ (sEvC_ok hcl hlp a) pc s r hp C
  | .exit i => fun pc s r hp C => Snd.one hp ⟨r, rfl, C, Fri.refl _ _⟩
  | .ret => fun pc s r hp C => Snd.one hp ⟨r, rfl, C, Fri.refl _ _⟩

def sResGet (t : List SV) (sh : SHeap) : Res → Option SV
  | .tmp i => some (snth t i)
  | .c1 i => match snth t i with | .ptr id off => (srow sh id).bind fun l => scellAt l off | _ => none
  | .cN i n => match snth t i with | .ptr id off => (srdN sh id off n).map .agg | _ => none
def sResL (t : List SV) (sh : SHeap) : List Res → Option (List SV)
  | [] => some []
  | r :: l => (sResGet t sh r).bind fun v => (sResL t sh l).map (v :: ·)
def sResV (t : List SV) (sh : SHeap) (rs : List Res) : Option SV := (sResL t sh rs).map fun l => match l with | [v] => v | l => .tup l

theorem sResGet_ok {sh : SHeap} {h : Heap} (H : HC m sh h) {r : Res} {v : SV} (hr : sResGet t sh r = some v) : r.get (SV.ccs m t) h = some (v.cc m) := by
  cases r with
  | tmp i => cases hr; simp only [Res.get, snth_ok]
  | c1 i =>
    simp only [sResGet] at hr
    split at hr
    · rename_i id off hn
      simp only [Option.bind_eq_some_iff] at hr
      obtain ⟨l, hl, hc⟩ := hr
      obtain ⟨l', h1⟩ := srow_ok H hl
      have e := snth_ok m t i
      rw [hn] at e
      simp only [Res.get, ← e, SV.cc, h1, Option.bind_some, scellAt_ok m l l' off hc]
    · cases hr
  | cN i n =>
    simp only [sResGet] at hr
    split at hr
    · rename_i id off hn
      simp only [Option.map_eq_some_iff] at hr
      obtain ⟨l, hl, rfl⟩ := hr
      have e := snth_ok m t i
      rw [hn] at e
      simp only [Res.get, ← e, SV.cc, srdN_ok H hl, Option.map_some]
    · cases hr
theorem sResL_ok {sh : SHeap} {h : Heap} (H : HC m sh h) : ∀ {rs : List Res} {l : List SV}, sResL t sh rs = some l → resL (SV.ccs m t) h rs = some (SV.ccs m l)
  | [], l, hl => by cases hl; rfl
  | r :: rs, l, hl => by
    simp only [sResL, Option.bind_eq_some_iff, Option.map_eq_some_iff] at hl
    obtain ⟨v, hv, l', hl', rfl⟩ := hl
    simp only [resL, sResGet_ok H hv, Option.bind_some, sResL_ok H hl', Option.map_some, SV.ccs]
theorem sResV_ok {sh : SHeap} {h : Heap} (H : HC m sh h) {rs : List Res} {v : SV} (hv : sResV t sh rs = some v) : resV (SV.ccs m t) h rs = some (v.cc m) := by
  simp only [sResV, Option.map_eq_some_iff] at hv
  obtain ⟨l, hl, rfl⟩ := hv
  simp only [resV, sResL_ok H hl, Option.map_some]
  cases l with
  | nil => rfl
  | cons a l => cases l <;> rfl

def spads : Nat → List SV
  | 0 => []
  | n + 1 => sundef :: spads n
theorem spads_ok (m : Mn) : ∀ n, SV.ccs m (spads n) = pads n
  | 0 => rfl
  | n + 1 => by simp only [spads, SV.ccs, pads, spads_ok m n, sundef_cc]

def sEnter (d : DF) (args : List SV) (sh : SHeap) : SSt := ⟨srepL.appS args (spads (d.nt - args.length)), sh⟩
def sRunF (cl : SCl) (lp : SBody → SBody) (d : DF) (args : List SV) (pc : PC) (sh : SHeap) : R (SV × SHeap) :=
  rB (sEvC cl lp d.body pc (sEnter d args sh)) fun pc p => match p.1 with
    | .exit _ => none
    | _ => (sResV p.2.t p.2.h d.res).bind fun v => rOne pc (v, p.2.h)

theorem sRunF_ok {scl : SCl} {cl : Cl} (hcl : ClR m scl cl) {slp : SBody → SBody} {lp : (St → Option (Ex × St)) → St → Option (Ex × St)} (hlp : LpR m slp lp) (d : DF) (args : List SV) {pc : PC} (hp : m.σ.ok pc) {sh : SHeap} {h : Heap} (H : HC m sh h) :
    Snd m.σ (sRunF scl slp d args pc sh) fun p => ∃ h', runF cl lp d (SV.ccs m args) h = some (p.1.cc m, h') ∧ HC m p.2 h' ∧ Fri m h h' := by
  have C : StC m (sEnter d args sh) (enterV d (SV.ccs m args) h) := ⟨by simp only [enterV, sEnter, appS_eq, ccs_append, spads_ok, SV.ccs_len], H⟩
  refine Snd.bind (sEvC_ok hcl hlp d.body pc _ _ hp C) fun pc p hp ⟨r1, h1, h2, h3⟩ => ?_
  obtain ⟨e, s1⟩ := p
  have fin : ∀ (e : Ex), (∀ i, e ≠ .exit i) → evC cl lp d.body (enterV d (SV.ccs m args) h) = some (e, r1) → Snd m.σ ((sResV s1.t s1.h d.res).bind fun v => rOne pc (v, s1.h)) fun p => ∃ h', runF cl lp d (SV.ccs m args) h = some (p.1.cc m, h') ∧ HC m p.2 h' ∧ Fri m h h' := by
    intro e he h1
    refine Snd.opt fun v hv => Snd.one hp ⟨r1.h, ?_, h2.h, h3⟩
    have hv' := sResV_ok h2.h hv
    rw [← h2.t] at hv'
    simp only [runF, h1, Option.bind_some, leaveV]
    cases e with
    | exit i => exact absurd rfl (he i)
    | normal => simp only [hv', Option.map_some]
    | ret => simp only [hv', Option.map_some]
  cases e with
  | exit i => exact Snd.none
  | normal => exact fin _ (by simp) h1
  | ret => exact fin _ (by simp) h1

/-- Functions that are answered. -/
abbrev SExt := Nat → Option (List SV → PC → SHeap → R (SV × SHeap))

def sCallN (X : SExt) (D : Nat → Option DF) : Nat → SCl
  | 0 => fun _ _ _ _ => none
  | n + 1 => fun f args pc sh => match X f with
    | some g => g args pc sh
    | none => (D f).bind fun d => sRunF (sCallN X D n) (fun b => sLoopN b n) d args pc sh

/-- What is answered is answered alike. -/
def SXR (pI : Nat → List UInt8 → Bool) (SX : SExt) (X : Ext) : Prop := ∀ f,
  (SX f = none → X f = none) ∧ ∀ sg, SX f = some sg → ∃ g, X f = some g ∧ ∀ (m : Mn) args pc sh h, m.σ.p = pI → m.σ.ok pc → HC m sh h →
    Snd m.σ (sg args pc sh) fun p => ∃ h', g (SV.ccs m args) h = some (p.1.cc m, h') ∧ HC m p.2 h' ∧ Fri m h h'

theorem sCallN_ok {pI : Nat → List UInt8 → Bool} {SX : SExt} {X : Ext} (hX : SXR pI SX X) (D : Nat → Option DF) (m : Mn) (hm : m.σ.p = pI) : ∀ n, ClR m (sCallN SX D n) (callN X D n) := by
  intro n
  induction n with
  | zero => intro f args pc sh h hp H; exact Snd.none
  | succ n ih =>
    intro f args pc sh h hp H
    simp only [sCallN]
    cases hs : SX f with
    | some sg =>
      obtain ⟨g, hg, h1⟩ := (hX f).2 sg hs
      simp only [callN, hg]
      exact h1 m args pc sh h hm hp H
    | none =>
      simp only [callN, (hX f).1 hs]
      refine Snd.opt fun d hd => ?_
      simp only [hd, Option.bind_some]
      exact sRunF_ok ih (sLoopN_ok n) d args hp H

/-- All that comes out is true. -/
def allTrue : List (PC × (SV × SHeap)) → Bool
  | [] => true
  | o :: l => (match o.2.1 with | .bool b => must o.1 b | _ => false) && allTrue l
theorem allTrue_mem : ∀ {l : List (PC × (SV × SHeap))}, allTrue l = true → ∀ o ∈ l, ∃ b, o.2.1 = .bool b ∧ must o.1 b = true
  | o :: l, h, x, hx => by
    simp only [allTrue, Bool.and_eq_true] at h
    rcases List.mem_cons.1 hx with rfl | hx
    · have := h.1
      split at this
      · rename_i b hb; exact ⟨b, hb, this⟩
      · cases this
    · exact allTrue_mem h.2 x hx
def sTrue (r : R (SV × SHeap)) : Bool := match r with | some l => allTrue l | none => false

theorem sTrue_ok {pI : Nat → List UInt8 → Bool} {SX : SExt} {X : Ext} (hX : SXR pI SX X) (D : Nat → Option DF) (m : Mn) (hm : m.σ.p = pI) {n f : Nat} {args : List SV} {pc : PC} {sh : SHeap} {h : Heap}
    (hp : m.σ.ok pc) (H : HC m sh h) (ht : sTrue (sCallN SX D n f args pc sh) = true) : ∃ h', callN X D n f (SV.ccs m args) h = some (.bool true, h') := by
  unfold sTrue at ht
  split at ht
  · rename_i l hl
    obtain ⟨o, h1, h2, h', h3, _⟩ := sCallN_ok hX D m hm n f args pc sh h hp H l hl
    obtain ⟨b, hb, hmb⟩ := allTrue_mem ht o h1
    refine ⟨h', ?_⟩
    rw [h3, hb]
    simp only [SV.cc, must_ok h2 hmb]
  · cases ht

end Gw
