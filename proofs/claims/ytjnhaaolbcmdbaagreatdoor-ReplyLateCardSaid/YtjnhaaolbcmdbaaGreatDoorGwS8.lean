/- The symbolic machine. -/
import Derived.Test.YtjnhaaolbcmdbaaGreatDoorGwS7
namespace Gw
open Go

abbrev SCl := Nat → List SV → PC → SHeap → R (SV × SHeap)
abbrev WMap := Nat → Option (SRV × SV)

/-- A block is put, at once. -/
noncomputable def putK (sh : SHeap) (i : Nat) (b : SBlk) (k : SHeap → Bool) : Bool :=
  match b with
  | .cells ro l => fcSL l fun l => Tri.setK (some (.cells ro l)) (posOf i) sh.t fun t => k ⟨t, sh.n⟩
  | b => Tri.setK (some b) (posOf i) sh.t fun t => k ⟨t, sh.n⟩
theorem putK_eq (sh : SHeap) (i : Nat) (b : SBlk) (k : SHeap → Bool) : putK sh i b k = k (sh.put i (some b)) := by
  unfold putK
  split
  · simp only [fcSL_eq, Tri.setK_eq]; rfl
  · simp only [Tri.setK_eq]; rfl
noncomputable def rStore (pc : PC) (n : Nat) (a x : SV) (sh : SHeap) : R (SV × SHeap) := fun k =>
  match a with
  | .ptr id off => if x.cells.length = n then (if sallOne x.cells then (match srowW sh id with
    | some l => (match sputAt l off x.cells with
      | some l => putK sh id (.cells false l) fun sh => k pc (sundef, sh)
      | none => false)
    | none => false) else false) else false
  | _ => false
/-- What comes out of an operation on memory. -/
def rVH (pc : PC) (p : SV × SHeap) : R (SV × SHeap) := fun k => fcV p.1 fun v => k pc (v, p.2)
theorem Snd.valH {σ : Val} {pc : PC} {p : SV × SHeap} {Q : SV × SHeap → Prop} (h : σ.ok pc) (q : Q p) : Snd σ (rVH pc p) Q := fun k hk => ⟨pc, p, h, q, by rwa [rVH, fcV_eq] at hk⟩

noncomputable def sE_store (pc : PC) (t : Tms) (sh : SHeap) (n : Nat) (a x : Opd) : R (SV × SHeap) := rO (sOp t a) fun a => rO (sOp t x) fun x => rStore pc n a x sh
noncomputable def sE_call (cl : SCl) (pc : PC) (t : Tms) (sh : SHeap) (f : Opd) (args : List Opd) : R (SV × SHeap) := rO (sOp t f) fun f => rO (sOps t args) fun args => match f with
  | .func f cap => cl f (srepL.appS args cap) pc sh
  | _ => rNo
noncomputable def sE_append (pc : PC) (t : Tms) (sh : SHeap) (e b : Nat) (s x : Opd) : R (SV × SHeap) := rO (sOp t s) fun s => rO (sOp t x) fun x => rO (saddedV pc sh e x) fun p => rO (sappendV pc sh e b s p.1 p.2) (rVH pc)
noncomputable def sE_appendZ (pc : PC) (t : Tms) (sh : SHeap) (e b : Nat) (z : List V) (s x : Opd) : R (SV × SHeap) := rO (sOp t s) fun s => rO (sOp t x) fun x => rO (symL z) fun z => match x with
  | .int _ (.c n) => if 0 ≤ n ∧ n * b ≤ 70368744177664 ∧ n ≤ 70368744177664 then rO (sappendV pc sh e b s (srepL z n.toNat) n.toNat) (rVH pc) else rNo
  | _ => rNo
noncomputable def sE_copy (pc : PC) (t : Tms) (sh : SHeap) (e : Nat) (d s : Opd) : R (SV × SHeap) := rO (sOp t d) fun d => rO (sOp t s) fun s => rO (scopyV pc sh e d s) (rVH pc)
noncomputable def sE_clear (pc : PC) (t : Tms) (sh : SHeap) (e : Nat) (z : List V) (x : Opd) : R (SV × SHeap) := rO (sOp t x) fun x => rO (sclearV pc sh e z x) fun sh => rOne pc (sundef, sh)
noncomputable def sE_next (pc : PC) (t : Tms) (sh : SHeap) (x : Opd) : R (SV × SHeap) := rO (sOp t x) fun x => rO (snextV sh x) (rVH pc)
noncomputable def sE_froz (pc : PC) (t : Tms) (sh : SHeap) (x : Opd) : R (SV × SHeap) := rO (sOp t x) fun x => rO (sfrozV pc sh x) (rVH pc)
noncomputable def sE_insert (pc : PC) (t : Tms) (sh : SHeap) (mp k x : Opd) : R (SV × SHeap) := rO (sOp t mp) fun mp => rO (sOp t k) fun k => rO (sOp t x) fun x => rO (sinsertV pc sh mp k x) fun sh => rOne pc (sundef, sh)
noncomputable def sEK (cl : SCl) (pc : PC) (t : Tms) (sh : SHeap) (k : EK) : R (SV × SHeap) :=
  EK.casesOn (motive := fun _ => R (SV × SHeap)) k
    (fun n a x => sE_store pc t sh n a x)
    (fun f args => sE_call cl pc t sh f args)
    (fun e b s x => sE_append pc t sh e b s x)
    (fun e b z s x => sE_appendZ pc t sh e b z s x)
    (fun e d s => sE_copy pc t sh e d s)
    (fun e z x => sE_clear pc t sh e z x)
    (fun x => sE_next pc t sh x)
    (fun x => sE_froz pc t sh x)
    (fun mp k x => sE_insert pc t sh mp k x)

/-- What a call of the symbolic machine's says of one of the machine's. -/
def ClR (m : Mn) (scl : SCl) (cl : Cl) : Prop := ∀ f args pc sh h, m.σ.ok pc → HC m sh h →
  Snd m.σ (scl f args pc sh) fun p => ∃ h', cl f (SV.ccs m args) h = some (p.1.cc m, h') ∧ HC m p.2 h' ∧ Fri m h h'

variable {m : Mn} {t : Tms} {tl : List V}

theorem sundef_cc (m : Mn) : sundef.cc m = undefV := rfl

theorem rStore_ok {σ : Val} {pc : PC} (h : σ.ok pc) {n : Nat} {a x : SV} {sh : SHeap} {Q : SV × SHeap → Prop} (q : ∀ sh', sstoreV n a x sh = some sh' → Q (sundef, sh')) : Snd σ (rStore pc n a x sh) Q := by
  intro k hk
  unfold rStore at hk
  split at hk
  · rename_i id off
    split at hk
    · rename_i h1
      split at hk
      · rename_i h2
        split at hk
        · rename_i l hl
          split at hk
          · rename_i l1 hl1
            rw [putK_eq] at hk
            refine ⟨pc, _, h, q _ ?_, hk⟩
            simp only [sstoreV, if_pos h1, swrN, if_pos h2, hl, Option.bind_some, hl1, Option.map_some]
          · cases hk
        · cases hk
      · cases hk
    · cases hk
  · cases hk

theorem sEK_ok (T : TC m t tl) {scl : SCl} {cl : Cl} (hcl : ClR m scl cl) {pc : PC} (hp : m.σ.ok pc) {sh : SHeap} {h : Heap} (H : HC m sh h) (k : EK) :
    Snd m.σ (sEK scl pc t sh k) fun p => ∃ h', k.run cl tl h = some (p.1.cc m, h') ∧ HC m p.2 h' ∧ Fri m h h' := by
  cases k with
  | store n a x =>
    show Snd m.σ (sE_store pc t sh n a x) _
    unfold sE_store
    refine Snd.opt fun a' ha => Snd.opt fun x' hx => rStore_ok hp fun s1 hs => ?_
    obtain ⟨h', h1, h2⟩ := sstoreV_ok H hs
    exact ⟨h', by simp only [EK.run, sOp_ok T ha, sOp_ok T hx, h1, Option.map_some, sundef_cc], h2⟩
  | call f args =>
    show Snd m.σ (sE_call scl pc t sh f args) _
    unfold sE_call
    refine Snd.opt fun f' hf => Snd.opt fun as ha => ?_
    split
    · rename_i g cap
      refine (hcl g _ pc sh h hp H).mono fun p ⟨h', h1, h2⟩ => ⟨h', ?_, h2⟩
      rw [appS_eq, ccs_append] at h1
      simp only [EK.run, sOp_ok T hf, sOps_ok T ha, SV.cc, callV, h1]
    · exact Snd.none
  | append e b s x =>
    show Snd m.σ (sE_append pc t sh e b s x) _
    unfold sE_append
    refine Snd.opt fun s' hs => Snd.opt fun x' hx => Snd.opt fun p hq => Snd.opt fun r hr => Snd.valH hp ?_
    obtain ⟨vs, n⟩ := p
    obtain ⟨v, s1⟩ := r
    obtain ⟨h', h1, h2⟩ := sappendV_ok hp H hr
    exact ⟨h', by simp only [EK.run, sOp_ok T hs, sOp_ok T hx, saddedV_ok hp H hq, Option.bind_some, h1], h2⟩
  | appendZ e b z s x =>
    show Snd m.σ (sE_appendZ pc t sh e b z s x) _
    unfold sE_appendZ
    refine Snd.opt fun s' hs => Snd.opt fun x' hx => Snd.opt fun z' hz => ?_
    split
    · rename_i k n
      split
      · rename_i hc
        refine Snd.opt fun r hr => Snd.valH hp ?_
        obtain ⟨v, s1⟩ := r
        obtain ⟨h', h1, h2⟩ := sappendV_ok hp H hr
        rw [srepL_ok, symL_ok m z hz] at h1
        exact ⟨h', by simp only [EK.run, sOp_ok T hs, sOp_ok T hx, SV.cc, IT.ev, if_pos hc, h1], h2⟩
      · exact Snd.none
    · exact Snd.none
  | copy e d s =>
    show Snd m.σ (sE_copy pc t sh e d s) _
    unfold sE_copy
    refine Snd.opt fun d' hd => Snd.opt fun s' hs => Snd.opt fun r hr => Snd.valH hp ?_
    obtain ⟨v, s1⟩ := r
    obtain ⟨h', h1, h2⟩ := scopyV_ok hp H hr
    exact ⟨h', by simp only [EK.run, sOp_ok T hd, sOp_ok T hs, h1], h2⟩
  | clear e z x =>
    show Snd m.σ (sE_clear pc t sh e z x) _
    unfold sE_clear
    refine Snd.opt fun x' hx => Snd.opt fun s1 hr => Snd.one hp ?_
    obtain ⟨h', h1, h2⟩ := sclearV_ok hp H hr
    exact ⟨h', by simp only [EK.run, sOp_ok T hx, h1, Option.map_some, sundef_cc], h2⟩
  | next x =>
    show Snd m.σ (sE_next pc t sh x) _
    unfold sE_next
    refine Snd.opt fun x' hx => Snd.opt fun r hr => Snd.valH hp ?_
    obtain ⟨v, s1⟩ := r
    obtain ⟨h', h1, h2⟩ := snextV_ok H hr
    exact ⟨h', by simp only [EK.run, sOp_ok T hx, h1], h2⟩
  | froz x =>
    show Snd m.σ (sE_froz pc t sh x) _
    unfold sE_froz
    refine Snd.opt fun x' hx => Snd.opt fun r hr => Snd.valH hp ?_
    obtain ⟨v, s1⟩ := r
    obtain ⟨h', h1, h2⟩ := sfrozV_ok hp H hr
    exact ⟨h', by simp only [EK.run, sOp_ok T hx, h1], h2⟩
  | insert mp k x =>
    show Snd m.σ (sE_insert pc t sh mp k x) _
    unfold sE_insert
    refine Snd.opt fun mp' hmp => Snd.opt fun k' hk => Snd.opt fun x' hx => Snd.opt fun s1 hr => Snd.one hp ?_
    obtain ⟨h', h1, h2⟩ := sinsertV_ok hp H hr
    exact ⟨h', by simp only [EK.run, sOp_ok T hmp, sOp_ok T hk, sOp_ok T hx, h1, Option.map_some, sundef_cc], h2⟩

structure SRS where
  nt : Nat
  t : Tms
  h : SHeap
  w : WMap
def swset (w : WMap) (i : Nat) (x : SRV × SV) : WMap := fun j => if j = i then some x else w j

noncomputable def sOkW (pc : PC) (w : WMap) (sh : SHeap) : List Nat → Bool
  | [] => true
  | j :: l => (match w j with
    | none => true
    | some (r, x) => match sRdD pc sh r with
      | some y => SV.beq y x
      | none => false) && sOkW pc w sh l
def ccW (m : Mn) (w : WMap) : Nat → Option (RV × V) := fun j => (w j).map fun p => (p.1.cc m, p.2.cc m)
theorem sOkW_ok {pc : PC} (hp : m.σ.ok pc) {w : WMap} {sh : SHeap} {h : Heap} (H : HC m sh h) : ∀ (l : List Nat), sOkW pc w sh l = true → okW (ccW m w) h l = true
  | [], _ => rfl
  | j :: l, hk => by
    simp only [sOkW, Bool.and_eq_true] at hk
    obtain ⟨h1, h2⟩ := hk
    simp only [okW, Bool.and_eq_true]
    refine ⟨?_, sOkW_ok hp H l h2⟩
    cases hw : w j with
    | none => simp [ccW, hw]
    | some p =>
      obtain ⟨r, x⟩ := p
      rw [hw] at h1
      simp only at h1
      cases hr : sRdD pc sh r with
      | none => rw [hr] at h1; cases h1
      | some y =>
        rw [hr] at h1
        have := SV.beq_ok m y x h1
        simp only [ccW, hw, Option.map_some, sRdD_ok hp H hr, this, V.beq_refl]

/-- A temporary is put, at once. -/
noncomputable def tputK (nt : Nat) (t : Tms) (d : Option Nat) (v : SV) (k : Tms → Bool) : Bool :=
  Option.casesOn (motive := fun _ => Bool) d (k t) fun d => Bool.casesOn (motive := fun _ => Bool) (Nat.blt d nt) (k t) (Tri.setK (some v) (posOf d) t k)
def tput (nt : Nat) (t : Tms) (d : Option Nat) (v : SV) : Tms :=
  match d with
  | none => t
  | some d => if d < nt then Tri.set (some v) (posOf d) t else t
theorem tputK_eq (nt : Nat) (t : Tms) (d : Option Nat) (v : SV) (k : Tms → Bool) : tputK nt t d v k = k (tput nt t d v) := by
  cases d with
  | none => rfl
  | some d =>
    simp only [tputK, tput]
    by_cases h : d < nt
    · have : Nat.blt d nt = true := by simp [Nat.blt_eq, h]
      rw [this, if_pos h]; simp only [Tri.setK_eq]
    · have : Nat.blt d nt = false := by
        cases hb : Nat.blt d nt with
        | false => rfl
        | true => rw [Nat.blt_eq] at hb; exact absurd hb h
      rw [this, if_neg h]
theorem nth_upd : ∀ (l : List V) (d : Nat) (v : V) (i : Nat), nth (upd l d v) i = if i = d ∧ d < l.length then v else nth l i
  | [], d, v, i => by simp [upd]
  | x :: l, 0, v, i => by
    cases i with
    | zero => simp [upd, nth]
    | succ i => simp [upd, nth]
  | x :: l, d + 1, v, i => by
    cases i with
    | zero => simp [upd, nth]
    | succ i => simp [upd, nth, nth_upd l d v i]
theorem upd_len : ∀ (l : List V) (d : Nat) (v : V), (upd l d v).length = l.length
  | [], _, _ => rfl
  | _ :: _, 0, _ => rfl
  | _ :: l, d + 1, v => by simp [upd, upd_len l d v]
theorem putD_len (l : List V) (d : Option Nat) (v : V) : (putD l d v).length = l.length := by
  cases d with
  | none => rfl
  | some d => exact upd_len l d v
theorem TC.put (T : TC m t tl) {nt : Nat} (hn : tl.length = nt) (d : Option Nat) (v : SV) : TC m (tput nt t d v) (putD tl d (v.cc m)) := by
  cases d with
  | none => exact T
  | some d =>
    intro i
    simp only [tput, putD, nth_upd]
    by_cases h : d < nt
    · rw [if_pos h]
      simp only [tget, Tri.get_set]
      by_cases e : i = d
      · subst e; rw [if_pos rfl, if_pos ⟨rfl, by omega⟩]
      · rw [if_neg (fun x => e (posOf_inj x)), if_neg (fun x => e x.1)]; exact T i
    · rw [if_neg h, if_neg (fun x => h (by omega))]; exact T i

structure RSC (m : Mn) (s : SRS) (r : RS) : Prop where
  t : TC m s.t r.t
  l : r.t.length = s.nt
  h : HC m s.h r.h
  w : r.w = ccW m s.w

/-- What a step leaves. -/
noncomputable def rPut (pc : PC) (s : SRS) (d : Option Nat) (v : SV) (h : SHeap) (w : WMap) : R SRS := fun k => tputK s.nt s.t d v fun t => k pc ⟨s.nt, t, h, w⟩
theorem rPut_ok {σ : Val} {pc : PC} (hp : σ.ok pc) {s : SRS} {d : Option Nat} {v : SV} {h : SHeap} {w : WMap} {Q : SRS → Prop} (q : Q ⟨s.nt, tput s.nt s.t d v, h, w⟩) : Snd σ (rPut pc s d v h w) Q := fun k hk => ⟨pc, _, hp, q, by rwa [rPut, tputK_eq] at hk⟩

noncomputable def sK_p (s : SRS) (o : DOp) (pc : PC) (k : PK) : R SRS := rB (sPK pc s.t k) fun pc v => rPut pc s o.dst v s.h s.w
noncomputable def sK_r (s : SRS) (o : DOp) (pc : PC) (k : RK) : R SRS := rO (sRes pc s.t k) fun r => rB (sRd pc s.h r) fun pc v => rPut pc s o.dst v s.h (match o.wt with | true => swset s.w o.i (r, v) | false => s.w)
noncomputable def rAlloc (pc : PC) (s : SRS) (o : DOp) (i : Nat) (b : SBlk) (v : SV) : R SRS := fun k => fcV v fun v => putK s.h i b fun h => rPut pc s o.dst v h s.w k
theorem rAlloc_ok {σ : Val} {pc : PC} (hp : σ.ok pc) {s : SRS} {o : DOp} {i : Nat} {b : SBlk} {v : SV} {Q : SRS → Prop} (q : Q ⟨s.nt, tput s.nt s.t o.dst v, s.h.put i (some b), s.w⟩) : Snd σ (rAlloc pc s o i b v) Q := by
  intro k hk
  rw [rAlloc, fcV_eq, putK_eq] at hk
  exact rPut_ok hp q k hk
noncomputable def sK_a (b : Nat) (s : SRS) (o : DOp) (pc : PC) (sl : Nat) (k : AK) : R SRS := fun kk => fcN (b + sl) fun i => match s.h.get i with
  | none => match Nat.blt i s.h.n with
    | true => rO (sAK s.t i k) (fun p => rAlloc pc s o i p.1 p.2) kk
    | false => false
  | some _ => false
noncomputable def sK_e (cl : SCl) (s : SRS) (o : DOp) (pc : PC) (k : EK) : R SRS := rB (sEK cl pc s.t s.h k) fun pc p => match sOkW pc s.w p.2 o.cs with
  | true => rPut pc s o.dst p.1 p.2 s.w
  | false => rNo
noncomputable def sStepK (cl : SCl) (b : Nat) (o : DOp) (s : SRS) (pc : PC) (k : K) : R SRS :=
  K.casesOn (motive := fun _ => R SRS) k (fun k => sK_p s o pc k) (fun k => sK_r s o pc k) (fun sl k => sK_a b s o pc sl k) (fun k => sK_e cl s o pc k)

theorem ccW_set (m : Mn) (w : WMap) (i : Nat) (x : SRV × SV) : ccW m (swset w i x) = wset (ccW m w) i (x.1.cc m, x.2.cc m) := by
  funext j
  simp only [ccW, swset, wset]
  split <;> rfl

theorem sStepK_ok {scl : SCl} {cl : Cl} (hcl : ClR m scl cl) {pc : PC} (hp : m.σ.ok pc) {sb b : Nat} (hb : ∀ k, m.ι (sb + k) = b + k) {o : DOp} {s : SRS} {r : RS} (C : RSC m s r) (k : K) :
    Snd m.σ (sStepK scl sb o s pc k) fun s1 => ∃ r1, stepK cl b o r k = some r1 ∧ RSC m s1 r1 ∧ Fri m r.h r1.h := by
  cases k with
  | p k =>
    show Snd m.σ (rB (sPK pc s.t k) _) _
    refine Snd.bind (sPK_ok C.t hp k) fun pc v hp hv => rPut_ok hp ⟨⟨putD r.t o.dst (v.cc m), r.h, r.w⟩, ?_, ⟨C.t.put C.l _ _, by rw [putD_len]; exact C.l, C.h, C.w⟩, Fri.refl _ _⟩
    simp only [stepK, hv, Option.bind_some]
  | r k =>
    show Snd m.σ (rO (sRes pc s.t k) _) _
    refine Snd.opt fun rv hr => Snd.bind (sRd_ok hp C.h rv) fun pc' v hp' hv => rPut_ok hp' ⟨⟨putD r.t o.dst (v.cc m), r.h, if o.wt then wset r.w o.i (rv.cc m, v.cc m) else r.w⟩, ?_, ⟨C.t.put C.l _ _, by rw [putD_len]; exact C.l, C.h, ?_⟩, Fri.refl _ _⟩
    · simp only [stepK, sRes_ok C.t hp hr, Option.bind_some, hv]
    · cases hw : o.wt with
      | true => simp only [if_true, ccW_set, C.w]
      | false => simp only [C.w]; rfl
  | a sl k =>
    intro kk hk
    change sK_a sb s o pc sl k kk = true at hk
    rw [sK_a, fcN_eq] at hk
    split at hk
    · rename_i hg
      split at hk
      · rename_i hlt
        have hlt' : sb + sl < s.h.n := by rwa [Nat.blt_eq] at hlt
        refine Snd.opt (Q := fun s1 => ∃ r1, stepK cl b o r (.a sl k) = some r1 ∧ RSC m s1 r1 ∧ Fri m r.h r1.h) (fun p ha => ?_) kk hk
        obtain ⟨bk, v⟩ := p
        obtain ⟨bk', h1, h2⟩ := sAK_ok C.t ha
        obtain ⟨a, c⟩ := C.h.put (sb + sl) h2
        refine rAlloc_ok hp ⟨⟨putD r.t o.dst (v.cc m), r.h.put (m.ι (sb + sl)) (some bk'), r.w⟩, ?_, ⟨C.t.put C.l _ _, by rw [putD_len]; exact C.l, a, C.w⟩, c⟩
        have e1 := C.h.non _ hg
        rw [hb] at e1 h1
        have e2 : b + sl < r.h.n := by
          have h3 := C.h.n0
          obtain ⟨d, hd⟩ : ∃ d, s.h.n = sb + d := ⟨s.h.n - sb, by omega⟩
          rw [hd, hb] at h3
          omega
        simp only [stepK, e1, if_pos e2, h1, Option.bind_some, hb]
      · cases hk
    · cases hk
  | e k =>
    show Snd m.σ (rB (sEK scl pc s.t s.h k) _) _
    refine Snd.bind (sEK_ok C.t hcl hp C.h k) fun pc p hp hv => ?_
    obtain ⟨h1, h2, h3, h4⟩ := hv
    split
    · rename_i hw
      refine rPut_ok hp ⟨⟨putD r.t o.dst (p.1.cc m), h1, r.w⟩, ?_, ⟨C.t.put C.l _ _, by rw [putD_len]; exact C.l, h3, C.w⟩, h4⟩
      have := sOkW_ok hp h3 _ hw
      rw [← C.w] at this
      simp only [stepK, h2, Option.bind_some, this, cond_true]
    · exact Snd.none

noncomputable def sStepOp (cl : SCl) (b : Nat) (o : DOp) (s : SRS) (pc : PC) : R SRS :=
  match o.g with
  | none => sStepK cl b o s pc o.k
  | some (j, w) => match tget s.t j with
    | .bool c => rB (rSplit pc c) fun pc v => match v == w with
      | true => sStepK cl b o s pc o.k
      | false => rPut pc s o.dst sundef s.h s.w
    | _ => rPut pc s o.dst sundef s.h s.w
theorem sStepOp_ok {scl : SCl} {cl : Cl} (hcl : ClR m scl cl) {pc : PC} (hp : m.σ.ok pc) {sb b : Nat} (hb : ∀ k, m.ι (sb + k) = b + k) (o : DOp) {s : SRS} {r : RS} (C : RSC m s r) :
    Snd m.σ (sStepOp scl sb o s pc) fun s1 => ∃ r1, stepOp cl b o r = some r1 ∧ RSC m s1 r1 ∧ Fri m r.h r1.h := by
  have skip : wantD o.g r.t = false → ∀ {pc}, m.σ.ok pc → Snd m.σ (rPut pc s o.dst sundef s.h s.w) fun s1 => ∃ r1, stepOp cl b o r = some r1 ∧ RSC m s1 r1 ∧ Fri m r.h r1.h := by
    intro hw pc hp
    refine rPut_ok hp ⟨⟨putD r.t o.dst undefV, r.h, r.w⟩, ?_, ⟨C.t.put C.l _ sundef, by rw [putD_len]; exact C.l, C.h, C.w⟩, Fri.refl _ _⟩
    simp only [stepOp, hw, cond_false]
  unfold sStepOp
  split
  · rename_i hg
    refine (sStepK_ok hcl hp hb C o.k).mono fun s1 ⟨r1, h1, h2⟩ => ⟨r1, ?_, h2⟩
    simp only [stepOp, wantD, hg, cond_true, h1]
  · rename_i j w hg
    split
    · rename_i c hn
      refine Snd.bind (rSplit_ok hp c) fun pc v hp hv => ?_
      have hw : wantD o.g r.t = (v == w) := by
        simp only [wantD, hg]
        rw [← C.t j, hn]
        simp only [SV.cc, hv]
      split
      · rename_i he
        refine (sStepK_ok hcl hp hb C o.k).mono fun s1 ⟨r1, h1, h2⟩ => ⟨r1, ?_, h2⟩
        simp only [stepOp, hw, he, cond_true, h1]
      · rename_i he
        exact skip (by rw [hw]; exact he) hp
    · rename_i hn
      refine skip ?_ hp
      simp only [wantD, hg]
      rw [← C.t j]
      cases hv : tget s.t j <;> first | rfl | exact absurd hv (hn _)

noncomputable def sRunOps (cl : SCl) (b : Nat) (l : List DOp) : SRS → PC → R SRS :=
  List.rec (motive := fun _ => SRS → PC → R SRS) (fun s pc => rOne pc s) (fun o _ ih s pc => rB (sStepOp cl b o s pc) fun pc s => ih s pc) l
theorem sRunOps_ok {scl : SCl} {cl : Cl} (hcl : ClR m scl cl) {sb b : Nat} (hb : ∀ k, m.ι (sb + k) = b + k) : ∀ (l : List DOp) {pc : PC} {s : SRS} {r : RS}, m.σ.ok pc → RSC m s r →
    Snd m.σ (sRunOps scl sb l s pc) fun s1 => ∃ r1, runOps cl b l r = some r1 ∧ RSC m s1 r1 ∧ Fri m r.h r1.h
  | [], pc, s, r, hp, C => Snd.one hp ⟨r, rfl, C, Fri.refl _ _⟩
  | o :: l, pc, s, r, hp, C => by
    show Snd m.σ (rB (sStepOp scl sb o s pc) fun pc s => sRunOps scl sb l s pc) _
    refine Snd.bind (sStepOp_ok hcl hp hb o C) fun pc s1 hp ⟨r1, h1, h2, h3⟩ => ?_
    refine (sRunOps_ok hcl hb l hp h2).mono fun s2 ⟨r2, h4, h5, h6⟩ => ⟨r2, ?_, h5, h3.trans h6⟩
    simp only [runOps, h1, Option.bind_some, h4]

structure SSt where
  nt : Nat
  t : Tms
  h : SHeap
structure StC (m : Mn) (s : SSt) (r : St) : Prop where
  t : TC m s.t r.t
  l : r.t.length = s.nt
  h : HC m s.h r.h

def noW : WMap := fun _ => none
noncomputable def sRegV (cl : SCl) (n : Nat) (ops : List DOp) (s : SSt) (pc : PC) : R SSt := fun k =>
  fcN (s.h.n + n) fun n' => rB (sRunOps cl s.h.n ops ⟨s.nt, s.t, ⟨s.h.t, n'⟩, noW⟩ pc) (fun pc r => rOne pc ⟨r.nt, r.t, r.h⟩) k
theorem sRegV_ok {scl : SCl} {cl : Cl} (hcl : ClR m scl cl) {pc : PC} (hp : m.σ.ok pc) (n : Nat) (ops : List DOp) {s : SSt} {r : St} (C : StC m s r) :
    Snd m.σ (sRegV scl n ops s pc) fun s1 => ∃ r1, regV cl n ops r = some r1 ∧ StC m s1 r1 ∧ Fri m r.h r1.h := by
  intro k hk
  rw [sRegV, fcN_eq] at hk
  refine (Snd.bind (Q := fun s1 => ∃ r1, regV cl n ops r = some r1 ∧ StC m s1 r1 ∧ Fri m r.h r1.h) (sRunOps_ok hcl (b := r.h.n) C.h.n ops (s := ⟨s.nt, s.t, s.h.up n, noW⟩) (r := ⟨r.t, r.h.up n, fun _ => none⟩) hp ⟨C.t, C.l, C.h.up n, by funext j; rfl⟩) fun pc s1 hp ⟨r1, h1, h2, h3⟩ => Snd.one hp ⟨⟨r1.t, r1.h⟩, ?_, ⟨h2.t, h2.l, h2.h⟩, h3⟩) k hk
  simp only [regV, h1, Option.map_some]

abbrev SBody := PC → SSt → R (Ex × SSt)
/-- What comes next, if nothing is left. -/
def sSeq (f : SBody) (pc : PC) (p : Ex × SSt) : R (Ex × SSt) :=
  Ex.casesOn (motive := fun _ => R (Ex × SSt)) p.1 (f pc p.2) (fun i => rOne pc (.exit i, p.2)) (rOne pc (.ret, p.2))
def sLoopN (body : SBody) (n : Nat) : PC → SSt → R (Ex × SSt) :=
  Nat.rec (motive := fun _ => PC → SSt → R (Ex × SSt)) (fun _ _ => rNo) (fun _ ih pc s => rB (body pc s) fun pc p => sSeq ih pc p) n

/-- What a piece of code says. -/
def BdR (m : Mn) (sb : SBody) (bd : St → Option (Ex × St)) : Prop := ∀ pc s r, m.σ.ok pc → StC m s r →
  Snd m.σ (sb pc s) fun p => ∃ r1, bd r = some (p.1, r1) ∧ StC m p.2 r1 ∧ Fri m r.h r1.h
def LpR (m : Mn) (slp : SBody → SBody) (lp : (St → Option (Ex × St)) → St → Option (Ex × St)) : Prop := ∀ sb bd, BdR m sb bd → BdR m (slp sb) (lp bd)

theorem sLoopN_ok (n : Nat) : LpR m (fun b => sLoopN b n) (fun b => loopN b n) := by
  intro sb bd hb
  induction n with
  | zero => intro pc s r hp C; exact Snd.none
  | succ n ih =>
    intro pc s r hp C
    show Snd m.σ (rB (sb pc s) fun pc p => sSeq (sLoopN sb n) pc p) _
    refine Snd.bind (hb pc s r hp C) fun pc p hp ⟨r1, h1, h2, h3⟩ => ?_
    obtain ⟨e, s1⟩ := p
    cases e with
    | normal => exact (ih pc s1 r1 hp h2).mono fun q ⟨r2, h4, h5, h6⟩ => ⟨r2, by simp only [loopN, h1, Option.bind_some]; exact h4, h5, h3.trans h6⟩
    | exit i => exact Snd.one hp ⟨r1, by simp only [loopN, h1, Option.bind_some], h2, h3⟩
    | ret => exact Snd.one hp ⟨r1, by simp only [loopN, h1, Option.bind_some], h2, h3⟩

def sCond (pc : PC) (c : SV) (a b : PC → R (Ex × SSt)) : R (Ex × SSt) :=
  match c with
  | .bool c => rB (rSplit pc c) fun pc v => match v with
    | true => a pc
    | false => b pc
  | _ => rNo
def sBlockEx (id : Nat) (pc : PC) (p : Ex × SSt) : R (Ex × SSt) :=
  match p.1 with
  | .exit i => if i = id then rOne pc (.normal, p.2) else rOne pc (.exit i, p.2)
  | e => rOne pc (e, p.2)
noncomputable def sEvC (cl : SCl) (lp : SBody → SBody) (c : DC) : SBody :=
  DC.rec (motive := fun _ => SBody)
    (fun pc s => rOne pc (.normal, s))
    (fun n ops pc s => rB (sRegV cl n ops s pc) fun pc s => rOne pc (.normal, s))
    (fun _ _ iha ihb pc s => rB (iha pc s) fun pc p => sSeq ihb pc p)
    (fun c _ _ iha ihb pc s => rO (sOp s.t c) fun c => sCond pc c (fun pc => iha pc s) (fun pc => ihb pc s))
    (fun id _ ih pc s => rB (ih pc s) fun pc p => sBlockEx id pc p)
    (fun _ ih => lp ih)
    (fun i pc s => rOne pc (.exit i, s))
    (fun pc s => rOne pc (.ret, s)) c

theorem sEvC_ok {scl : SCl} {cl : Cl} (hcl : ClR m scl cl) {slp : SBody → SBody} {lp : (St → Option (Ex × St)) → St → Option (Ex × St)} (hlp : LpR m slp lp) : ∀ c, BdR m (sEvC scl slp c) (evC cl lp c)
  | .skip => fun pc s r hp C => Snd.one hp ⟨r, rfl, C, Fri.refl _ _⟩
  | .reg n ops => fun pc s r hp C => by
    show Snd m.σ (rB (sRegV scl n ops s pc) _) _
    exact Snd.bind (sRegV_ok hcl hp n ops C) fun pc s1 hp ⟨r1, h1, h2, h3⟩ => Snd.one hp ⟨r1, by simp only [evC, h1, Option.map_some], h2, h3⟩
  | .seq a b => fun pc s r hp C => by
    show Snd m.σ (rB (sEvC scl slp a pc s) _) _
    refine Snd.bind (sEvC_ok hcl hlp a pc s r hp C) fun pc p hp ⟨r1, h1, h2, h3⟩ => ?_
    obtain ⟨e, s1⟩ := p
    cases e with
    | normal => exact (sEvC_ok hcl hlp b pc s1 r1 hp h2).mono fun q ⟨r2, h4, h5, h6⟩ => ⟨r2, by simp only [evC, h1, Option.bind_some]; exact h4, h5, h3.trans h6⟩
    | exit i => exact Snd.one hp ⟨r1, by simp only [evC, h1, Option.bind_some], h2, h3⟩
    | ret => exact Snd.one hp ⟨r1, by simp only [evC, h1, Option.bind_some], h2, h3⟩
  | .cond c a b => fun pc s r hp C => by
    show Snd m.σ (rO (sOp s.t c) _) _
    refine Snd.opt fun c' hc => ?_
    unfold sCond
    split
    · rename_i c0
      refine Snd.bind (rSplit_ok hp c0) fun pc v hp hv => ?_
      have e : c.ev r.t = .bool v := by rw [sOp_ok C.t hc]; simp only [SV.cc, hv]
      cases v with
      | true => exact (sEvC_ok hcl hlp a pc s r hp C).mono fun q ⟨r2, h4, h5⟩ => ⟨r2, by simp only [evC, e]; exact h4, h5⟩
      | false => exact (sEvC_ok hcl hlp b pc s r hp C).mono fun q ⟨r2, h4, h5⟩ => ⟨r2, by simp only [evC, e]; exact h4, h5⟩
    · exact Snd.none
  | .block id a => fun pc s r hp C => by
    show Snd m.σ (rB (sEvC scl slp a pc s) _) _
    refine Snd.bind (sEvC_ok hcl hlp a pc s r hp C) fun pc p hp ⟨r1, h1, h2, h3⟩ => ?_
    obtain ⟨e, s1⟩ := p
    cases e with
    | normal => exact Snd.one hp ⟨r1, by simp only [evC, h1, Option.map_some], h2, h3⟩
    | exit i =>
      simp only [sBlockEx]
      split
      · rename_i hi; exact Snd.one hp ⟨r1, by simp only [evC, h1, Option.map_some, if_pos hi], h2, h3⟩
      · rename_i hi; exact Snd.one hp ⟨r1, by simp only [evC, h1, Option.map_some, if_neg hi], h2, h3⟩
    | ret => exact Snd.one hp ⟨r1, by simp only [evC, h1, Option.map_some], h2, h3⟩
  | .loop a => fun pc s r hp C => hlp _ _ (sEvC_ok hcl hlp a) pc s r hp C
  | .exit i => fun pc s r hp C => Snd.one hp ⟨r, rfl, C, Fri.refl _ _⟩
  | .ret => fun pc s r hp C => Snd.one hp ⟨r, rfl, C, Fri.refl _ _⟩

noncomputable def sResGet (t : Tms) (sh : SHeap) : Res → Option SV
  | .tmp i => some (tget t i)
  | .c1 i => match tget t i with | .ptr id off => (srow sh id).bind fun l => scellAt l off | _ => none
  | .cN i n => match tget t i with | .ptr id off => (srdN sh id off n).map .agg | _ => none
noncomputable def sResL (t : Tms) (sh : SHeap) : List Res → Option (List SV)
  | [] => some []
  | r :: l => (sResGet t sh r).bind fun v => (sResL t sh l).map (v :: ·)
def tupOf : List SV → SV
  | [v] => v
  | l => .tup l
noncomputable def sResV (t : Tms) (sh : SHeap) (rs : List Res) : Option SV := (sResL t sh rs).map tupOf

theorem sResGet_ok (T : TC m t tl) {sh : SHeap} {h : Heap} (H : HC m sh h) {r : Res} {v : SV} (hr : sResGet t sh r = some v) : r.get tl h = some (v.cc m) := by
  cases r with
  | tmp i => cases hr; simp only [Res.get, T i]
  | c1 i =>
    simp only [sResGet] at hr
    split at hr
    · rename_i id off hn
      simp only [Option.bind_eq_some_iff] at hr
      obtain ⟨l, hl, hc⟩ := hr
      obtain ⟨l', h1⟩ := srow_ok H hl
      have e := T i
      rw [hn] at e
      simp only [Res.get, ← e, SV.cc, h1, Option.bind_some, scellAt_ok m l l' off hc]
    · cases hr
  | cN i n =>
    simp only [sResGet] at hr
    split at hr
    · rename_i id off hn
      simp only [Option.map_eq_some_iff] at hr
      obtain ⟨l, hl, rfl⟩ := hr
      have e := T i
      rw [hn] at e
      simp only [Res.get, ← e, SV.cc, srdN_ok H hl, Option.map_some]
    · cases hr
theorem sResL_ok (T : TC m t tl) {sh : SHeap} {h : Heap} (H : HC m sh h) : ∀ {rs : List Res} {l : List SV}, sResL t sh rs = some l → resL tl h rs = some (SV.ccs m l)
  | [], l, hl => by cases hl; rfl
  | r :: rs, l, hl => by
    simp only [sResL, Option.bind_eq_some_iff, Option.map_eq_some_iff] at hl
    obtain ⟨v, hv, l', hl', rfl⟩ := hl
    simp only [resL, sResGet_ok T H hv, Option.bind_some, sResL_ok T H hl', Option.map_some, SV.ccs]
theorem sResV_ok (T : TC m t tl) {sh : SHeap} {h : Heap} (H : HC m sh h) {rs : List Res} {v : SV} (hv : sResV t sh rs = some v) : resV tl h rs = some (v.cc m) := by
  simp only [sResV, Option.map_eq_some_iff] at hv
  obtain ⟨l, hl, rfl⟩ := hv
  simp only [resV, sResL_ok T H hl, Option.map_some]
  cases l with
  | nil => rfl
  | cons a l => cases l <;> rfl

/-- Arguments are laid. -/
def argT : List SV → Nat → Tms → Tms
  | [], _, t => t
  | v :: l, i, t => argT l (i + 1) (Tri.set (some v) (posOf i) t)
noncomputable def argK : List SV → Nat → Tms → (Tms → Bool) → Bool
  | [], _, t, k => k t
  | v :: l, i, t, k => fcN i fun i => Tri.setK (some v) (posOf i) t fun t => argK l (Nat.succ i) t k
theorem argK_eq : ∀ (l : List SV) (i : Nat) (t : Tms) (k : Tms → Bool), argK l i t k = k (argT l i t)
  | [], _, _, _ => rfl
  | v :: l, i, t, k => by simp only [argK, fcN_eq, Tri.setK_eq, argT, argK_eq l]
theorem nth_pads : ∀ (n i : Nat), nth (pads n) i = undefV
  | 0, i => by simp [pads, nth]
  | n + 1, 0 => rfl
  | n + 1, i + 1 => nth_pads n i
theorem upd_app : ∀ (pre : List V) (x v : V) (l : List V), upd (pre ++ x :: l) pre.length v = pre ++ v :: l
  | [], _, _, _ => rfl
  | p :: pre, x, v, l => by simp [upd, upd_app pre x v l]
theorem pads_len : ∀ n, (pads n).length = n
  | 0 => rfl
  | n + 1 => by simp [pads, pads_len n]
theorem argT_ok (m : Mn) : ∀ (l : List SV) (i : Nat) (t : Tms) (pre : List V) (n : Nat), pre.length = i → TC m t (pre ++ pads (l.length + n)) → TC m (argT l i t) (pre ++ (SV.ccs m l ++ pads n))
  | [], i, t, pre, n, hl, T => by
    rw [List.length_nil, Nat.zero_add] at T
    exact T
  | v :: l, i, t, pre, n, hl, T => by
    have e : pads ((v :: l).length + n) = undefV :: pads (l.length + n) := by
      rw [List.length_cons, show l.length + 1 + n = (l.length + n) + 1 by omega]; rfl
    rw [e] at T
    have h2 := T.put (nt := i + 1 + (l.length + n)) (by simp [pads_len, hl]; omega) (some i) v
    simp only [tput, if_pos (show i < i + 1 + (l.length + n) by omega), putD] at h2
    rw [← hl, upd_app, hl] at h2
    have := argT_ok m l (i + 1) _ (pre ++ [v.cc m]) n (by simp [hl]) (by simpa using h2)
    simpa [argT, SV.ccs] using this
theorem TC.nil (m : Mn) (n : Nat) : TC m .nil (pads n) := fun i => by rw [nth_pads, tget, Tri.get_nil]; rfl

noncomputable def sRunF (cl : SCl) (lp : SBody → SBody) (d : DF) (args : List SV) (pc : PC) (sh : SHeap) : R (SV × SHeap) := fun k =>
  match Nat.ble args.length d.nt with
  | true => argK args 0 .nil fun t => rB (sEvC cl lp d.body pc ⟨d.nt, t, sh⟩) (fun pc p => match p.1 with
    | .exit _ => rNo
    | _ => rO (sResV p.2.t p.2.h d.res) fun v => rVH pc (v, p.2.h)) k
  | false => false

theorem sRunF_ok {scl : SCl} {cl : Cl} (hcl : ClR m scl cl) {slp : SBody → SBody} {lp : (St → Option (Ex × St)) → St → Option (Ex × St)} (hlp : LpR m slp lp) (d : DF) (args : List SV) {pc : PC} (hp : m.σ.ok pc) {sh : SHeap} {h : Heap} (H : HC m sh h) :
    Snd m.σ (sRunF scl slp d args pc sh) fun p => ∃ h', runF cl lp d (SV.ccs m args) h = some (p.1.cc m, h') ∧ HC m p.2 h' ∧ Fri m h h' := by
  intro k hk
  unfold sRunF at hk
  split at hk
  · rename_i hle
    have hle' : args.length ≤ d.nt := by rwa [Nat.ble_eq] at hle
    rw [argK_eq] at hk
    have T : TC m (argT args 0 .nil) (SV.ccs m args ++ pads (d.nt - args.length)) := argT_ok m args 0 .nil [] (d.nt - args.length) rfl (TC.nil m _)
    have C : StC m ⟨d.nt, argT args 0 .nil, sh⟩ (enterV d (SV.ccs m args) h) := ⟨by simpa only [enterV, SV.ccs_len] using T, by simp [enterV, SV.ccs_len, pads_len]; omega, H⟩
    refine (Snd.bind (Q := fun p => ∃ h', runF cl lp d (SV.ccs m args) h = some (p.1.cc m, h') ∧ HC m p.2 h' ∧ Fri m h h') (sEvC_ok hcl hlp d.body pc _ _ hp C) fun pc p hp ⟨r1, h1, h2, h3⟩ => ?_) k hk
    obtain ⟨e, s1⟩ := p
    have fin : ∀ (e : Ex), (∀ i, e ≠ .exit i) → evC cl lp d.body (enterV d (SV.ccs m args) h) = some (e, r1) → Snd m.σ (rO (sResV s1.t s1.h d.res) fun v => rVH pc (v, s1.h)) fun p => ∃ h', runF cl lp d (SV.ccs m args) h = some (p.1.cc m, h') ∧ HC m p.2 h' ∧ Fri m h h' := by
      intro e he h1
      refine Snd.opt fun v hv => Snd.valH hp ⟨r1.h, ?_, h2.h, h3⟩
      have hv' := sResV_ok h2.t h2.h hv
      simp only [runF, h1, Option.bind_some, leaveV]
      cases e with
      | exit i => exact absurd rfl (he i)
      | normal => simp only [hv', Option.map_some]
      | ret => simp only [hv', Option.map_some]
    cases e with
    | exit i => exact Snd.none
    | normal => exact fin _ (by simp) h1
    | ret => exact fin _ (by simp) h1
  · cases hk

/-- Functions that are answered. -/
abbrev SExt := Nat → Option (List SV → PC → SHeap → R (SV × SHeap))

noncomputable def sCallN (X : SExt) (D : Nat → Option DF) (n : Nat) : SCl :=
  Nat.rec (motive := fun _ => SCl) (fun _ _ _ _ => rNo)
    (fun n ih f args pc sh => Option.casesOn (motive := fun _ => R (SV × SHeap)) (X f) (rO (D f) fun d => sRunF ih (fun b => sLoopN b n) d args pc sh) fun g => g args pc sh) n

/-- What is answered is answered alike. -/
def SXR (pI : Nat → List UInt8 → Bool) (SX : SExt) (X : Ext) : Prop := ∀ f,
  (SX f = none → X f = none) ∧ ∀ sg, SX f = some sg → ∃ g, X f = some g ∧ ∀ (m : Mn) args pc sh h, m.σ.p = pI → m.σ.ok pc → HC m sh h →
    Snd m.σ (sg args pc sh) fun p => ∃ h', g (SV.ccs m args) h = some (p.1.cc m, h') ∧ HC m p.2 h' ∧ Fri m h h'

theorem sCallN_ok {pI : Nat → List UInt8 → Bool} {SX : SExt} {X : Ext} (hX : SXR pI SX X) (D : Nat → Option DF) (m : Mn) (hm : m.σ.p = pI) : ∀ n, ClR m (sCallN SX D n) (callN X D n) := by
  intro n
  induction n with
  | zero => intro f args pc sh h hp H; exact Snd.none
  | succ n ih =>
    intro f args pc sh h hp H
    show Snd m.σ (Option.casesOn (motive := fun _ => R (SV × SHeap)) (SX f) (rO (D f) fun d => sRunF (sCallN SX D n) (fun b => sLoopN b n) d args pc sh) fun g => g args pc sh) _
    cases hs : SX f with
    | some sg =>
      obtain ⟨g, hg, h1⟩ := (hX f).2 sg hs
      simp only [callN, hg]
      exact h1 m args pc sh h hm hp H
    | none =>
      simp only [callN, (hX f).1 hs]
      refine Snd.opt fun d hd => ?_
      simp only [hd, Option.bind_some]
      exact sRunF_ok ih (sLoopN_ok n) d args hp H

/-- All that comes out is true. -/
def isT (pc : PC) (p : SV × SHeap) : Bool := match p.1 with | .bool b => must pc b | _ => false
def sTrue (r : R (SV × SHeap)) : Bool := r isT

theorem sTrue_ok {pI : Nat → List UInt8 → Bool} {SX : SExt} {X : Ext} (hX : SXR pI SX X) (D : Nat → Option DF) (m : Mn) (hm : m.σ.p = pI) {n f : Nat} {args : List SV} {pc : PC} {sh : SHeap} {h : Heap}
    (hp : m.σ.ok pc) (H : HC m sh h) (ht : sTrue (sCallN SX D n f args pc sh) = true) : ∃ h', callN X D n f (SV.ccs m args) h = some (.bool true, h') := by
  obtain ⟨pc', p, h1, ⟨h', h3, _⟩, h4⟩ := sCallN_ok hX D m hm n f args pc sh h hp H isT ht
  refine ⟨h', ?_⟩
  unfold isT at h4
  split at h4
  · rename_i b hb
    rw [h3, hb]
    simp only [SV.cc, must_ok h1 h4]
  · cases h4

end Gw
