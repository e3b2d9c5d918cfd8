/- Pure operations on symbolic values: slices, elements, all of them. -/
import Derived.Test.YtjnhaaolbcmdbaaGreatDoorGwS5
namespace Gw
open Go

/-- Temporaries: by their numbers. -/
abbrev Tms := Tri SV
noncomputable def tget (t : Tms) (i : Nat) : SV := Option.casesOn (motive := fun _ => SV) (Tri.get (posOf i) t) sundef fun v => v
def TC (m : Mn) (t : Tms) (l : List V) : Prop := ∀ i, (tget t i).cc m = nth l i

noncomputable def sOp (t : Tms) (x : Opd) : Option SV := Opd.casesOn (motive := fun _ => Option SV) x (fun i => some (tget t i)) fun v => symV v
noncomputable def sOps (t : Tms) : List Opd → Option (List SV)
  | [] => some []
  | x :: l => (sOp t x).bind fun v => (sOps t l).map (v :: ·)
noncomputable def sOpO (t : Tms) : Option Opd → Option (Option SV)
  | none => some none
  | some x => (sOp t x).map some
noncomputable def sOpP (t : Tms) : List (Nat × Nat × Opd) → Option (List (Nat × Nat × SV))
  | [] => some []
  | (o, s, x) :: l => (sOp t x).bind fun v => (sOpP t l).map ((o, s, v) :: ·)
def ccP (m : Mn) : List (Nat × Nat × SV) → List (Nat × Nat × V)
  | [] => []
  | (o, s, v) :: l => (o, s, v.cc m) :: ccP m l

variable {m : Mn} {t : Tms} {tl : List V}
theorem sOp_ok (T : TC m t tl) {x : Opd} {v : SV} (h : sOp t x = some v) : x.ev tl = v.cc m := by
  cases x with
  | tmp i => cases h; exact (T i).symm
  | cst c => exact (symV_ok m c h).symm
theorem sOps_ok (T : TC m t tl) : ∀ {l : List Opd} {v : List SV}, sOps t l = some v → evs tl l = SV.ccs m v
  | [], v, h => by cases h; rfl
  | x :: l, v, h => by
    simp only [sOps, Option.bind_eq_some_iff, Option.map_eq_some_iff] at h
    obtain ⟨y, hy, z, hz, rfl⟩ := h
    simp only [evs, SV.ccs, sOp_ok T hy, sOps_ok T hz]
theorem sOpO_ok (T : TC m t tl) : ∀ {x : Option Opd} {v : Option SV}, sOpO t x = some v → evO tl x = v.map (SV.cc m)
  | none, v, h => by cases h; rfl
  | some x, v, h => by
    simp only [sOpO, Option.map_eq_some_iff] at h
    obtain ⟨y, hy, rfl⟩ := h
    simp only [evO, sOp_ok T hy, Option.map_some]
theorem sOpP_ok (T : TC m t tl) : ∀ {l : List (Nat × Nat × Opd)} {v : List (Nat × Nat × SV)}, sOpP t l = some v → evP tl l = ccP m v
  | [], v, h => by cases h; rfl
  | (o, s, x) :: l, v, h => by
    simp only [sOpP, Option.bind_eq_some_iff, Option.map_eq_some_iff] at h
    obtain ⟨y, hy, z, hz, rfl⟩ := h
    simp only [evP, ccP, sOp_ok T hy, sOpP_ok T hz]

def SV.cells : SV → List SV
  | .agg l => l
  | v => [v]
theorem SV.cells_ok (m : Mn) (v : SV) : (v.cc m).cells = SV.ccs m v.cells := by cases v <;> rfl
def SV.one : SV → Bool
  | .agg _ => false
  | .tup _ => false
  | _ => true
def sallOne : List SV → Bool
  | [] => true
  | v :: l => v.one && sallOne l
theorem SV.one_ok (m : Mn) (v : SV) : (v.cc m).one = v.one := by cases v <;> rfl
theorem sallOne_ok (m : Mn) : ∀ (l : List SV), allOne (SV.ccs m l) = sallOne l
  | [] => rfl
  | v :: l => by simp only [SV.ccs, allOne, sallOne, SV.one_ok, sallOne_ok m l]

theorem SV.ccs_len (m : Mn) (l : List SV) : (SV.ccs m l).length = l.length := by rw [SV.ccs_eq]; simp

def sfill : List SV → List (Nat × Nat × SV) → Option (List SV)
  | cs, [] => some cs
  | cs, (off, sz, v) :: rest =>
    if v.cells.length = sz then (sputAt cs off v.cells).bind fun cs => sfill cs rest else none
theorem sfill_ok (m : Mn) : ∀ (ps : List (Nat × Nat × SV)) (cs : List SV) {r : List SV}, sfill cs ps = some r → fillV (SV.ccs m cs) (ccP m ps) = some (SV.ccs m r)
  | [], cs, r, h => by cases h; rfl
  | (o, s, v) :: ps, cs, r, h => by
    simp only [sfill] at h
    split at h
    · rename_i hl
      simp only [Option.bind_eq_some_iff] at h
      obtain ⟨y, hy, hz⟩ := h
      simp only [ccP, fillV]
      rw [SV.cells_ok, if_pos (by rw [SV.ccs_len]; exact hl), sputAt_ok m _ _ _ hy]
      exact sfill_ok m ps y hz
    · cases h

/-- Bounds. -/
def sBndHi (pc : PC) (len most : IT) (hi : Option SV) : Option IT :=
  match hi with
  | none => some len
  | some (.int _ i) => if leB pc (.c 0) i && leB pc i most then some i else none
  | some _ => none
def sBndLo (pc : PC) (h : IT) (lo : Option SV) : Option IT :=
  match lo with
  | none => some (.c 0)
  | some (.int _ i) => if leB pc (.c 0) i && leB pc i h then some i else none
  | some _ => none
theorem sBndHi_ok {pc : PC} (h : m.σ.ok pc) {len most r : IT} {hi : Option SV} (hm : sBndHi pc len most hi = some r) :
    bndHi (len.ev m.σ).toNat (most.ev m.σ).toNat (hi.map (SV.cc m)) = some (r.ev m.σ).toNat := by
  unfold sBndHi at hm
  split at hm
  · cases hm; rfl
  · split at hm
    · rename_i hc
      cases hm
      simp only [Bool.and_eq_true] at hc
      have h1 := leB_ok h hc.1; have h2 := leB_ok h hc.2
      simp only [IT.ev] at h1
      simp only [Option.map_some, SV.cc, bndHi, asI]
      rw [if_pos ⟨h1, by omega⟩]
    · cases hm
  · cases hm
theorem sBndLo_ok {pc : PC} (h : m.σ.ok pc) {hh r : IT} {lo : Option SV} (hm : sBndLo pc hh lo = some r) :
    bndLo (hh.ev m.σ).toNat (lo.map (SV.cc m)) = some (r.ev m.σ).toNat := by
  unfold sBndLo at hm
  split at hm
  · cases hm; rfl
  · split at hm
    · rename_i hc
      cases hm
      simp only [Bool.and_eq_true] at hc
      have h1 := leB_ok h hc.1; have h2 := leB_ok h hc.2
      simp only [IT.ev] at h1
      simp only [Option.map_some, SV.cc, bndLo, asI]
      rw [if_pos ⟨h1, by omega⟩]
    · cases hm
  · cases hm

/-- A number that is known, and not below zero. -/
def natOf (pc : PC) (t : IT) : Option Nat := match fold pc t with | .c n => if 0 ≤ n then some n.toNat else none | _ => none
theorem natOf_ok {σ : Val} {pc : PC} (h : σ.ok pc) {t : IT} {n : Nat} (hn : natOf pc t = some n) : t.ev σ = n := by
  unfold natOf at hn
  split at hn
  · rename_i k hk
    split at hn
    · cases hn
      rw [← fold_ok h t, hk]; simp only [IT.ev]; omega
    · cases hn
  · cases hn

def mostOf (len : IT) (cap : Option Nat) : IT := match cap with | some c => .c c | none => len
theorem mostOf_ok (σ : Val) (len : IT) (cap : Option Nat) : ((mostOf len cap).ev σ).toNat = cap.getD (len.ev σ).toNat := by
  cases cap <;> simp [mostOf, IT.ev]

def sSliceV (pc : PC) (esz : Nat) (x : SV) (lo hi mx : Option SV) : Option SV :=
  match x with
  | .nils =>
    match mx with
    | none => (sBndHi pc (.c 0) (.c 0) hi).bind fun h => (sBndLo pc h lo).bind fun _ => some .nils
    | some _ => none
  | .slice id off len e cap =>
    if e = esz then
      match mx with
      | none => (sBndHi pc len (mostOf len cap) hi).bind fun h => (sBndLo pc h lo).bind fun l => (natOf pc l).bind fun n => if leB pc (.c n) h then some (.slice id (off + n * esz) (mkAddC h (-(n : Int))) esz (cap.map (· - n))) else none
      | some mx => (sBndHi pc len (mostOf len cap) (some mx)).bind fun mm => (natOf pc mm).bind fun mm =>
        if hi.isSome then (sBndHi pc len (.c mm) hi).bind fun h => (sBndLo pc h lo).bind fun l => (natOf pc l).bind fun n => if leB pc (.c n) h then some (.slice id (off + n * esz) (mkAddC h (-(n : Int))) esz (some (mm - n))) else none else none
    else none
  | _ => none

theorem sSliceV_ok {pc : PC} (h : m.σ.ok pc) {esz : Nat} {x v : SV} {lo hi mx : Option SV} (hm : sSliceV pc esz x lo hi mx = some v) :
    sliceV esz (x.cc m) (lo.map (SV.cc m)) (hi.map (SV.cc m)) (mx.map (SV.cc m)) = some (v.cc m) := by
  have fin : ∀ {h' : IT} {n : Nat}, leB pc (.c n) h' = true → ((mkAddC h' (-(n : Int))).ev m.σ).toNat = (h'.ev m.σ).toNat - n := by
    intro h' n hl
    have := leB_ok h hl
    simp only [IT.ev] at this
    rw [mkAddC_ok]; omega
  unfold sSliceV at hm
  split at hm
  · split at hm
    · simp only [Option.bind_eq_some_iff] at hm
      obtain ⟨a, ha, b, hb, hv⟩ := hm
      cases hv
      have h1 := sBndHi_ok h ha
      simp only [IT.ev] at h1
      simp only [SV.cc, sliceV, Option.map_none]
      rw [show (0 : Nat) = (0 : Int).toNat from rfl, h1]
      simp only [Option.bind_some]
      rw [sBndLo_ok h hb]; rfl
    · cases hm
  · rename_i id off len e cap
    split at hm
    · rename_i he
      split at hm
      · simp only [Option.bind_eq_some_iff] at hm
        obtain ⟨a, ha, b, hb, n, hn, hv⟩ := hm
        split at hv
        · rename_i hl
          cases hv
          have h1 := sBndHi_ok h ha
          rw [mostOf_ok] at h1
          simp only [SV.cc, sliceV, Option.map_none, if_pos he]
          rw [h1]; simp only [Option.bind_some]
          rw [sBndLo_ok h hb]; simp only [Option.bind_some]
          rw [fin hl, natOf_ok h hn]
          simp
        · cases hv
      · rename_i mx
        simp only [Option.bind_eq_some_iff] at hm
        obtain ⟨a, ha, n0, hn0, hv⟩ := hm
        split at hv
        · rename_i hs
          simp only [Option.bind_eq_some_iff] at hv
          obtain ⟨b, hb, c, hc, n, hn, hv⟩ := hv
          split at hv
          · rename_i hl
            cases hv
            have h1 := sBndHi_ok h ha
            rw [mostOf_ok] at h1
            simp only [SV.cc, sliceV, Option.map_some, if_pos he]
            simp only [Option.map_some] at h1
            rw [h1]; simp only [Option.bind_some]
            rw [if_pos (by simpa using hs), natOf_ok h hn0]
            have h2 := sBndHi_ok h hb
            simp only [IT.ev] at h2
            rw [h2]; simp only [Option.bind_some]
            rw [sBndLo_ok h hc]; simp only [Option.bind_some]
            rw [fin hl, natOf_ok h hn]
            simp
          · cases hv
        · cases hv
    · cases hm
  · cases hm

/-- A part of a text. -/
def mkSub (s : ST) (l h L : IT) : ST :=
  match s, l, h with
  | .c b, .c x, .c y => .c (extractL b x.toNat y.toNat)
  | s, l, h => match l with
    | .c 0 => if IT.beq h L then s else .sub s l h
    | l => .sub s l h
theorem mkSub_ok {σ : Val} {s : ST} {l h L : IT} (hL : L.ev σ = (s.ev σ).length) : (mkSub s l h L).ev σ = extractL (s.ev σ) (l.ev σ).toNat (h.ev σ).toNat := by
  unfold mkSub
  split
  · rfl
  · split
    · split
      · rename_i he
        rw [IT.beq_sound _ _ he, hL]
        simp [IT.ev, extractL]
      · rfl
    · rfl

def sSliceS (pc : PC) (x : SV) (lo hi : Option SV) : Option SV :=
  match x with
  | .str s =>
    let L := mkLen pc s
    (sBndHi pc L L hi).bind fun h => (sBndLo pc h lo).bind fun l => some (.str (mkSub s (fold pc l) (fold pc h) (fold pc L)))
  | _ => none
theorem sSliceS_ok {pc : PC} (h : m.σ.ok pc) {x v : SV} {lo hi : Option SV} (hm : sSliceS pc x lo hi = some v) :
    Gw.sliceS (x.cc m) (lo.map (SV.cc m)) (hi.map (SV.cc m)) = some (v.cc m) := by
  unfold sSliceS at hm
  split at hm
  · rename_i s
    simp only [Option.bind_eq_some_iff] at hm
    obtain ⟨a, ha, b, hb, hv⟩ := hm
    cases hv
    have h1 := sBndHi_ok h ha
    rw [mkLen_ok h] at h1
    simp only [SV.cc, sliceS]
    rw [show ((ST.ev m.σ s).length : Int).toNat = (ST.ev m.σ s).length by omega] at h1
    rw [h1]; simp only [Option.bind_some]
    rw [sBndLo_ok h hb]; simp only [Option.bind_some]
    rw [mkSub_ok (by rw [fold_ok h, mkLen_ok h]), fold_ok h, fold_ok h]
  · cases hm

/-- An element's place. -/
def sIdxS (pc : PC) (esz : Nat) (x i : SV) : R SV :=
  match x, i with
  | .slice id off len e _, .int _ n => if e = esz then rB (rEnum pc n) fun pc n => if decide (0 ≤ n) && ltB pc (.c n) len then rV pc (.ptr id (off + n.toNat * esz)) else rNo else rNo
  | _, _ => rNo
theorem sIdxS_ok {pc : PC} (h : m.σ.ok pc) (esz : Nat) (x i : SV) : Snd m.σ (sIdxS pc esz x i) fun v => idxS esz (x.cc m) (i.cc m) = some (v.cc m) := by
  unfold sIdxS
  split
  · rename_i id off len e cap k n
    split
    · rename_i he
      refine Snd.bind (rEnum_ok h n) fun pc v h hv => ?_
      split
      · rename_i hc
        simp only [Bool.and_eq_true, decide_eq_true_eq] at hc
        have := ltB_ok h hc.2
        simp only [IT.ev] at this
        refine Snd.val h ?_
        simp only [SV.cc, idxS]
        rw [hv, if_pos ⟨he, hc.1, by omega⟩]
      · exact Snd.none
    · exact Snd.none
  · exact Snd.none

def sIdxA (pc : PC) (len esz : Nat) (x i : SV) : R SV :=
  match x, i with
  | .ptr id off, .int _ n => rB (rEnum pc n) fun pc n => if 0 ≤ n ∧ n < (len : Int) then rV pc (.ptr id (off + n.toNat * esz)) else rNo
  | _, _ => rNo
theorem sIdxA_ok {pc : PC} (h : m.σ.ok pc) (len esz : Nat) (x i : SV) : Snd m.σ (sIdxA pc len esz x i) fun v => idxA len esz (x.cc m) (i.cc m) = some (v.cc m) := by
  unfold sIdxA
  split
  · rename_i id off k n
    refine Snd.bind (rEnum_ok h n) fun pc v h hv => ?_
    split
    · rename_i hc
      refine Snd.val h ?_
      simp only [SV.cc, idxA]
      rw [hv, if_pos hc]
    · exact Snd.none
  · exact Snd.none

def sIdxStr (pc : PC) (x i : SV) : R SV :=
  match x, i with
  | .str (.c s), .int _ n => rB (rEnum pc n) fun pc n => if 0 ≤ n then (match s[n.toNat]? with | some b => rV pc (.int .u8 (.c b.toNat)) | none => rNo) else rNo
  | .str s, .int _ n => if leB pc (.c 0) n && ltB pc n (mkLen pc s) then rV pc (.int .u8 (.byte s (fold pc n))) else rNo
  | _, _ => rNo
theorem sIdxStr_ok {pc : PC} (h : m.σ.ok pc) (x i : SV) : Snd m.σ (sIdxStr pc x i) fun v => idxStr (x.cc m) (i.cc m) = some (v.cc m) := by
  unfold sIdxStr
  split
  · rename_i s k n
    refine Snd.bind (rEnum_ok h n) fun pc v h hv => ?_
    split
    · rename_i hc
      split
      · rename_i b hb
        refine Snd.val h ?_
        simp only [SV.cc, idxStr, ST.ev, IT.ev]
        rw [hv, if_pos hc, hb]; rfl
      · exact Snd.none
    · exact Snd.none
  · rename_i s k n _
    split
    · rename_i hc
      simp only [Bool.and_eq_true] at hc
      have h1 := leB_ok h hc.1; have h2 := ltB_ok h hc.2
      rw [mkLen_ok h] at h2
      simp only [IT.ev] at h1
      refine Snd.val h ?_
      simp only [SV.cc, idxStr, IT.ev, fold_ok h]
      rw [if_pos h1]
      have hlt : (n.ev m.σ).toNat < (s.ev m.σ).length := by omega
      rw [List.getElem?_eq_getElem hlt]
      rfl
    · exact Snd.none
  · exact Snd.none

def sPart (l : List SV) (off sz : Nat) (agg : Bool) : Option SV :=
  if agg then (if sz = 0 then none else (scellsAt l off sz).map .agg) else scellAt l off
theorem sPart_ok (m : Mn) {l : List SV} {off sz : Nat} {agg : Bool} {v : SV} (h : sPart l off sz agg = some v) : partV (SV.ccs m l) off sz agg = some (v.cc m) := by
  unfold sPart at h
  split at h
  · rename_i ha
    split at h
    · cases h
    · rename_i hz
      simp only [Option.map_eq_some_iff] at h
      obtain ⟨r, hr, rfl⟩ := h
      rcases scellsAt_ok m l [] off sz hr with h1 | h1
      · exact absurd h1.1 hz
      · rw [List.append_nil] at h1
        simp only [partV, if_pos ha, h1, Option.map_some, SV.cc]
  · rename_i ha
    have := scellAt_ok m l [] off h
    rw [List.append_nil] at this
    simp only [partV, if_neg ha, this]

def sIdxArr (pc : PC) (len sz : Nat) (agg : Bool) (x i : SV) : R SV :=
  match x, i with
  | .agg l, .int _ n => rB (rEnum pc n) fun pc n => if 0 ≤ n ∧ n < (len : Int) then rO (sPart l (n.toNat * sz) sz agg) (rV pc) else rNo
  | _, _ => rNo
theorem sIdxArr_ok {pc : PC} (h : m.σ.ok pc) (len sz : Nat) (agg : Bool) (x i : SV) : Snd m.σ (sIdxArr pc len sz agg x i) fun v => idxArr len sz agg (x.cc m) (i.cc m) = some (v.cc m) := by
  unfold sIdxArr
  split
  · rename_i l k n
    refine Snd.bind (rEnum_ok h n) fun pc v h hv => ?_
    split
    · rename_i hc
      refine Snd.opt fun w hw => Snd.val h ?_
      simp only [SV.cc, idxArr]
      rw [hv, if_pos hc]
      exact sPart_ok m hw
    · exact Snd.none
  · exact Snd.none

def sTassert (t : Nat) (zero : V) (ok : Bool) (x : SV) : Option SV :=
  match x with
  | .nili => if ok then (symV zero).map fun z => .tup [z, .bool (.c false)] else none
  | .iface t' v => if t' = t then some (if ok then .tup [v, .bool (.c true)] else v) else if ok then (symV zero).map fun z => .tup [z, .bool (.c false)] else none
  | _ => none
theorem sTassert_ok (m : Mn) {t : Nat} {zero : V} {ok : Bool} {x v : SV} (h : sTassert t zero ok x = some v) : tassertV t zero ok (x.cc m) = some (v.cc m) := by
  unfold sTassert at h
  split at h
  · split at h
    · rename_i ho
      simp only [Option.map_eq_some_iff] at h
      obtain ⟨z, hz, rfl⟩ := h
      simp only [SV.cc, SV.ccs, tassertV, if_pos ho, symV_ok m _ hz, BT.ev]
    · cases h
  · rename_i t' v'
    split at h
    · rename_i ht
      cases h
      simp only [SV.cc, tassertV, if_pos ht]
      split <;> rfl
    · rename_i ht
      split at h
      · rename_i ho
        simp only [Option.map_eq_some_iff] at h
        obtain ⟨z, hz, rfl⟩ := h
        simp only [SV.cc, SV.ccs, tassertV, if_neg ht, if_pos ho, symV_ok m _ hz, BT.ev]
      · cases h
  · cases h

def sMinV (pc : PC) : SV → List SV → Option SV
  | x, [] => some x
  | .int k a, .int _ b :: l => sMinV pc (.int k (mkMin pc a b)) l
  | _, _ => none
def sMaxV (pc : PC) : SV → List SV → Option SV
  | x, [] => some x
  | .int k a, .int _ b :: l => sMaxV pc (.int k (mkMax pc a b)) l
  | _, _ => none
theorem sMinV_ok {pc : PC} (h : m.σ.ok pc) : ∀ (l : List SV) (x : SV) {v : SV}, sMinV pc x l = some v → minV (x.cc m) (SV.ccs m l) = some (v.cc m)
  | [], x, v, hm => by
    have : x = v := by cases x <;> simpa [sMinV] using hm
    subst this
    cases x <;> rfl
  | y :: l, x, v, hm => by
    cases x <;> (try (simp [sMinV] at hm; done))
    cases y <;> (try (simp [sMinV] at hm; done))
    rename_i k a k' b
    simp only [sMinV] at hm
    have := sMinV_ok h l _ hm
    simp only [SV.cc, mkMin_ok h] at this
    simp only [SV.ccs, SV.cc, minV]
    exact this
theorem sMaxV_ok {pc : PC} (h : m.σ.ok pc) : ∀ (l : List SV) (x : SV) {v : SV}, sMaxV pc x l = some v → maxV (x.cc m) (SV.ccs m l) = some (v.cc m)
  | [], x, v, hm => by
    have : x = v := by cases x <;> simpa [sMaxV] using hm
    subst this
    cases x <;> rfl
  | y :: l, x, v, hm => by
    cases x <;> (try (simp [sMaxV] at hm; done))
    cases y <;> (try (simp [sMaxV] at hm; done))
    rename_i k a k' b
    simp only [sMaxV] at hm
    have := sMaxV_ok h l _ hm
    simp only [SV.cc, mkMax_ok h] at this
    simp only [SV.ccs, SV.cc, maxV]
    exact this

/-- A rest of few values: each of them. -/
def rPlain (pc : PC) (op : BinOp) (v : SV) : R SV :=
  match op, v with
  | .rem, .int k t => (match rg pc t with
    | (some a, some b) => if b - a < 16 then rB (rEnum pc t) fun pc n => rV pc (.int k (.c n)) else rV pc v
    | _ => rV pc v)
  | _, _ => rV pc v
theorem rPlain_ok {pc : PC} (h : m.σ.ok pc) (op : BinOp) (v : SV) : Snd m.σ (rPlain pc op v) fun w => v.cc m = w.cc m := by
  unfold rPlain
  split
  · split
    · split
      · rename_i t _ _ _ _ _
        exact Snd.bind (rEnum_ok h t) fun pc n h hn => Snd.val h (by simp only [SV.cc, IT.ev, hn])
      · exact Snd.val h rfl
    · exact Snd.val h rfl
  · exact Snd.val h rfl

/-- Pure operations, each. -/
noncomputable def sP_mov (pc : PC) (t : Tms) (x : Opd) : R SV :=
  rO (sOp t x) (rV pc)
noncomputable def sP_pick (pc : PC) (t : Tms) (c a b : Opd) : R SV :=
  rO (sOp t c) fun c => rO (sOp t a) fun a => rO (sOp t b) fun b => match c with
    | .bool c => rB (rSplit pc c) fun pc v => rV pc (if v then a else b)
    | _ => rNo
noncomputable def sP_build (pc : PC) (t : Tms) (z : List V) (ps : List (Nat × Nat × Opd)) : R SV :=
  rO (symL z) fun z => rO (sOpP t ps) fun ps => rO (sfill z ps) fun l => rV pc (.agg l)
noncomputable def sP_nilCheck (pc : PC) (t : Tms) (x : Opd) : R SV :=
  rO (sOp t x) fun x => match x with | .ptr i o => rV pc (.ptr i o) | .func f c => rV pc (.func f c) | _ => rNo
noncomputable def sP_bin (pc : PC) (t : Tms) (op : BinOp) (x y : Opd) : R SV :=
  rO (sOp t x) fun x => rO (sOp t y) fun y => rO (sbin pc op x y) (rPlain pc op)
noncomputable def sP_eq (pc : PC) (t : Tms) (c : EqC) (n : Bool) (x y : Opd) : R SV :=
  rO (sOp t x) fun x => rO (sOp t y) fun y => rB (sEq pc c x y) fun pc b => rV pc (.bool (if n then plainB pc (.not b) else plainB pc b))
noncomputable def sP_neg (pc : PC) (t : Tms) (x : Opd) : R SV :=
  rO (sOp t x) fun x => match x with | .int k n => rO (mkSubI pc k (.c 0) n) fun r => rV pc (.int k r) | _ => rNo
noncomputable def sP_not (pc : PC) (t : Tms) (x : Opd) : R SV :=
  rO (sOp t x) fun x => match x with | .bool b => rV pc (.bool (plainB pc (.not b))) | _ => rNo
noncomputable def sP_xor (pc : PC) (t : Tms) (x : Opd) : R SV :=
  rO (sOp t x) fun x => match x with | .int k (.c n) => rV pc (.int k (.c (wrapK k (Nat.xor (modK k - 1) (bitsK k n))))) | _ => rNo
noncomputable def sP_conv (pc : PC) (t : Tms) (k : IntKind) (x : Opd) : R SV :=
  rO (sOp t x) fun x => match x with | .int _ n => rV pc (.int k (mkConv pc k n)) | _ => rNo
noncomputable def sP_isStr (pc : PC) (t : Tms) (x : Opd) : R SV :=
  rO (sOp t x) fun x => match x with | .str s => rV pc (.str s) | _ => rNo
noncomputable def sP_mkI (pc : PC) (t : Tms) (ty : Nat) (x : Opd) : R SV :=
  rO (sOp t x) fun x => rV pc (.iface ty x)
noncomputable def sP_mkF (pc : PC) (t : Tms) (f : Nat) (cs : List Opd) : R SV :=
  rO (sOps t cs) fun cs => rV pc (.func f cs)
noncomputable def sP_slice (pc : PC) (t : Tms) (e : Nat) (x : Opd) (lo hi mx : Option Opd) : R SV :=
  rO (sOp t x) fun x => rO (sOpO t lo) fun lo => rO (sOpO t hi) fun hi => rO (sOpO t mx) fun mx => rO (sSliceV pc e x lo hi mx) (rV pc)
noncomputable def sP_sliceS (pc : PC) (t : Tms) (x : Opd) (lo hi : Option Opd) : R SV :=
  rO (sOp t x) fun x => rO (sOpO t lo) fun lo => rO (sOpO t hi) fun hi => rO (sSliceS pc x lo hi) (rV pc)
noncomputable def sP_fieldA (pc : PC) (t : Tms) (off : Nat) (x : Opd) : R SV :=
  rO (sOp t x) fun x => match x with | .ptr id o => rV pc (.ptr id (o + off)) | _ => rNo
noncomputable def sP_field (pc : PC) (t : Tms) (off sz : Nat) (agg : Bool) (x : Opd) : R SV :=
  rO (sOp t x) fun x => match x with | .agg l => rO (sPart l off sz agg) (rV pc) | _ => rNo
noncomputable def sP_idxS (pc : PC) (t : Tms) (e : Nat) (x i : Opd) : R SV :=
  rO (sOp t x) fun x => rO (sOp t i) fun i => sIdxS pc e x i
noncomputable def sP_idxA (pc : PC) (t : Tms) (n e : Nat) (x i : Opd) : R SV :=
  rO (sOp t x) fun x => rO (sOp t i) fun i => sIdxA pc n e x i
noncomputable def sP_idxStr (pc : PC) (t : Tms) (x i : Opd) : R SV :=
  rO (sOp t x) fun x => rO (sOp t i) fun i => sIdxStr pc x i
noncomputable def sP_idxArr (pc : PC) (t : Tms) (n sz : Nat) (agg : Bool) (x i : Opd) : R SV :=
  rO (sOp t x) fun x => rO (sOp t i) fun i => sIdxArr pc n sz agg x i
noncomputable def sP_tassert (pc : PC) (t : Tms) (ty : Nat) (z : V) (ok : Bool) (x : Opd) : R SV :=
  rO (sOp t x) fun x => rO (sTassert ty z ok x) (rV pc)
noncomputable def sP_extract (pc : PC) (t : Tms) (x : Opd) (i : Nat) : R SV :=
  rO (sOp t x) fun x => match x with | .tup l => rO (scellAt l i) (rV pc) | _ => rNo
noncomputable def sP_len (pc : PC) (t : Tms) (x : Opd) : R SV :=
  rO (sOp t x) fun x => match x with
    | .nils => rV pc (.int .i64 (.c 0))
    | .slice _ _ n _ _ => if leB pc (.c 0) n then rV pc (.int .i64 n) else rNo
    | _ => rNo
noncomputable def sP_lenStr (pc : PC) (t : Tms) (x : Opd) : R SV :=
  rO (sOp t x) fun x => match x with | .str s => rV pc (.int .i64 (fold pc (mkLen pc s))) | _ => rNo
def sP_lenA (pc : PC) (_t : Tms) (n : Nat) : R SV :=
  rV pc (.int .i64 (.c n))
noncomputable def sP_cap (pc : PC) (t : Tms) (x : Opd) : R SV :=
  rO (sOp t x) fun x => match x with
    | .nils => rV pc (.int .i64 (.c 0))
    | .slice _ _ _ _ (some c) => rV pc (.int .i64 (.c c))
    | _ => rNo
noncomputable def sP_min (pc : PC) (t : Tms) (x : Opd) (xs : List Opd) : R SV :=
  rO (sOp t x) fun x => rO (sOps t xs) fun xs => rO (sMinV pc x xs) (rV pc)
noncomputable def sP_max (pc : PC) (t : Tms) (x : Opd) (xs : List Opd) : R SV :=
  rO (sOp t x) fun x => rO (sOps t xs) fun xs => rO (sMaxV pc x xs) (rV pc)
/-- A pure operation. -/
noncomputable def sPK (pc : PC) (t : Tms) (k : PK) : R SV :=
  PK.casesOn (motive := fun _ => R SV) k
    (fun x => sP_mov pc t x)
    (fun c a b => sP_pick pc t c a b)
    (fun z ps => sP_build pc t z ps)
    (fun x => sP_nilCheck pc t x)
    (fun op x y => sP_bin pc t op x y)
    (fun c n x y => sP_eq pc t c n x y)
    (fun x => sP_neg pc t x)
    (fun x => sP_not pc t x)
    (fun x => sP_xor pc t x)
    (fun k x => sP_conv pc t k x)
    (fun x => sP_isStr pc t x)
    (fun ty x => sP_mkI pc t ty x)
    (fun f cs => sP_mkF pc t f cs)
    (fun e x lo hi mx => sP_slice pc t e x lo hi mx)
    (fun x lo hi => sP_sliceS pc t x lo hi)
    (fun off x => sP_fieldA pc t off x)
    (fun off sz agg x => sP_field pc t off sz agg x)
    (fun e x i => sP_idxS pc t e x i)
    (fun n e x i => sP_idxA pc t n e x i)
    (fun x i => sP_idxStr pc t x i)
    (fun n sz agg x i => sP_idxArr pc t n sz agg x i)
    (fun ty z ok x => sP_tassert pc t ty z ok x)
    (fun x i => sP_extract pc t x i)
    (fun x => sP_len pc t x)
    (fun x => sP_lenStr pc t x)
    (fun n => sP_lenA pc t n)
    (fun x => sP_cap pc t x)
    (fun x xs => sP_min pc t x xs)
    (fun x xs => sP_max pc t x xs)
    rNo

theorem sPK_ok (T : TC m t tl) {pc : PC} (h : m.σ.ok pc) (k : PK) : Snd m.σ (sPK pc t k) fun v => k.ev tl = some (v.cc m) := by
  cases k with
  | mov x =>
    show Snd m.σ (sP_mov pc t x) _
    unfold sP_mov
    exact Snd.opt fun a ha => Snd.val h (by simp only [PK.ev, sOp_ok T ha])
  | pick c a b =>
    show Snd m.σ (sP_pick pc t c a b) _
    unfold sP_pick
    refine Snd.opt fun c' hc => Snd.opt fun a' ha => Snd.opt fun b' hb => ?_
    split
    · rename_i c0
      refine Snd.bind (rSplit_ok h c0) fun pc v h hv => Snd.val h ?_
      simp only [PK.ev, sOp_ok T hc, sOp_ok T ha, sOp_ok T hb, SV.cc, hv]
      cases v <;> rfl
    · exact Snd.none
  | build z ps =>
    show Snd m.σ (sP_build pc t z ps) _
    unfold sP_build
    refine Snd.opt fun z' hz => Snd.opt fun ps' hp => Snd.opt fun l hl => Snd.val h ?_
    simp only [PK.ev, sOpP_ok T hp]
    rw [← symL_ok m z hz, sfill_ok m ps' z' hl]; rfl
  | nilCheck x =>
    show Snd m.σ (sP_nilCheck pc t x) _
    unfold sP_nilCheck
    refine Snd.opt fun x' hx => ?_
    split <;> first | exact Snd.none | exact Snd.val h (by simp only [PK.ev, sOp_ok T hx, SV.cc])
  | bin op x y =>
    show Snd m.σ (sP_bin pc t op x y) _
    unfold sP_bin
    exact Snd.opt fun x' hx => Snd.opt fun y' hy => Snd.opt fun v hv => (rPlain_ok h op v).mono fun w hw => by simp only [PK.ev, sOp_ok T hx, sOp_ok T hy]; rw [← hw]; exact sbin_ok h hv
  | eq c n x y =>
    show Snd m.σ (sP_eq pc t c n x y) _
    unfold sP_eq
    refine Snd.opt fun x' hx => Snd.opt fun y' hy => Snd.bind (sEq_ok h c x' y') fun pc b h hb => Snd.val h ?_
    simp only [PK.ev, sOp_ok T hx, sOp_ok T hy, hb, Option.map_some, SV.cc]
    cases n <;> simp [plainB_ok h, BT.ev]
  | neg x =>
    show Snd m.σ (sP_neg pc t x) _
    unfold sP_neg
    refine Snd.opt fun x' hx => ?_
    split
    · refine Snd.opt fun r hr => Snd.val h ?_
      have := mkSubI_ok h hr
      simp only [PK.ev, sOp_ok T hx, SV.cc, this, binN_sub, IT.ev]
    · exact Snd.none
  | not x =>
    show Snd m.σ (sP_not pc t x) _
    unfold sP_not
    refine Snd.opt fun x' hx => ?_
    split
    · exact Snd.val h (by simp only [PK.ev, sOp_ok T hx, SV.cc, plainB_ok h, BT.ev])
    · exact Snd.none
  | xor x =>
    show Snd m.σ (sP_xor pc t x) _
    unfold sP_xor
    refine Snd.opt fun x' hx => ?_
    split
    · exact Snd.val h (by simp only [PK.ev, sOp_ok T hx, SV.cc, IT.ev])
    · exact Snd.none
  | conv k x =>
    show Snd m.σ (sP_conv pc t k x) _
    unfold sP_conv
    refine Snd.opt fun x' hx => ?_
    split
    · exact Snd.val h (by simp only [PK.ev, sOp_ok T hx, SV.cc, mkConv_ok h])
    · exact Snd.none
  | isStr x =>
    show Snd m.σ (sP_isStr pc t x) _
    unfold sP_isStr
    refine Snd.opt fun x' hx => ?_
    split
    · exact Snd.val h (by simp only [PK.ev, sOp_ok T hx, SV.cc])
    · exact Snd.none
  | mkI ty x =>
    show Snd m.σ (sP_mkI pc t ty x) _
    unfold sP_mkI
    exact Snd.opt fun x' hx => Snd.val h (by simp only [PK.ev, sOp_ok T hx, SV.cc])
  | mkF f cs =>
    show Snd m.σ (sP_mkF pc t f cs) _
    unfold sP_mkF
    exact Snd.opt fun x' hx => Snd.val h (by simp only [PK.ev, sOps_ok T hx, SV.cc])
  | slice e x lo hi mx =>
    show Snd m.σ (sP_slice pc t e x lo hi mx) _
    unfold sP_slice
    exact Snd.opt fun x' hx => Snd.opt fun lo' hlo => Snd.opt fun hi' hhi => Snd.opt fun mx' hmx => Snd.opt fun v hv => Snd.val h (by
      simp only [PK.ev, sOp_ok T hx, sOpO_ok T hlo, sOpO_ok T hhi, sOpO_ok T hmx]
      exact sSliceV_ok h hv)
  | sliceS x lo hi =>
    show Snd m.σ (sP_sliceS pc t x lo hi) _
    unfold sP_sliceS
    exact Snd.opt fun x' hx => Snd.opt fun lo' hlo => Snd.opt fun hi' hhi => Snd.opt fun v hv => Snd.val h (by
      simp only [PK.ev, sOp_ok T hx, sOpO_ok T hlo, sOpO_ok T hhi]
      exact sSliceS_ok h hv)
  | fieldA off x =>
    show Snd m.σ (sP_fieldA pc t off x) _
    unfold sP_fieldA
    refine Snd.opt fun x' hx => ?_
    split
    · exact Snd.val h (by simp only [PK.ev, sOp_ok T hx, SV.cc])
    · exact Snd.none
  | field off sz agg x =>
    show Snd m.σ (sP_field pc t off sz agg x) _
    unfold sP_field
    refine Snd.opt fun x' hx => ?_
    split
    · exact Snd.opt fun v hv => Snd.val h (by simp only [PK.ev, sOp_ok T hx, SV.cc, fieldV, sPart_ok m hv])
    · exact Snd.none
  | idxS e x i =>
    show Snd m.σ (sP_idxS pc t e x i) _
    unfold sP_idxS
    exact Snd.opt fun x' hx => Snd.opt fun i' hi => (sIdxS_ok h e x' i').mono fun v hv => by simp only [PK.ev, sOp_ok T hx, sOp_ok T hi, hv]
  | idxA n e x i =>
    show Snd m.σ (sP_idxA pc t n e x i) _
    unfold sP_idxA
    exact Snd.opt fun x' hx => Snd.opt fun i' hi => (sIdxA_ok h n e x' i').mono fun v hv => by simp only [PK.ev, sOp_ok T hx, sOp_ok T hi, hv]
  | idxStr x i =>
    show Snd m.σ (sP_idxStr pc t x i) _
    unfold sP_idxStr
    exact Snd.opt fun x' hx => Snd.opt fun i' hi => (sIdxStr_ok h x' i').mono fun v hv => by simp only [PK.ev, sOp_ok T hx, sOp_ok T hi, hv]
  | idxArr n sz agg x i =>
    show Snd m.σ (sP_idxArr pc t n sz agg x i) _
    unfold sP_idxArr
    exact Snd.opt fun x' hx => Snd.opt fun i' hi => (sIdxArr_ok h n sz agg x' i').mono fun v hv => by simp only [PK.ev, sOp_ok T hx, sOp_ok T hi, hv]
  | tassert ty z ok x =>
    show Snd m.σ (sP_tassert pc t ty z ok x) _
    unfold sP_tassert
    exact Snd.opt fun x' hx => Snd.opt fun v hv => Snd.val h (by simp only [PK.ev, sOp_ok T hx, sTassert_ok m hv])
  | extract x i =>
    show Snd m.σ (sP_extract pc t x i) _
    unfold sP_extract
    refine Snd.opt fun x' hx => ?_
    split
    · rename_i l
      refine Snd.opt fun v hv => Snd.val h ?_
      have := scellAt_ok m l [] i hv
      rw [List.append_nil] at this
      simp only [PK.ev, sOp_ok T hx, SV.cc, this]
    · exact Snd.none
  | len x =>
    show Snd m.σ (sP_len pc t x) _
    unfold sP_len
    refine Snd.opt fun x' hx => ?_
    split
    · exact Snd.val h (by simp only [PK.ev, sOp_ok T hx, SV.cc, lenV, IT.ev])
    · split
      · rename_i hl
        have := leB_ok h hl
        simp only [IT.ev] at this
        refine Snd.val h ?_
        simp only [PK.ev, sOp_ok T hx, SV.cc, lenV]
        rw [Int.toNat_of_nonneg this]
      · exact Snd.none
    · exact Snd.none
  | lenStr x =>
    show Snd m.σ (sP_lenStr pc t x) _
    unfold sP_lenStr
    refine Snd.opt fun x' hx => ?_
    split
    · exact Snd.val h (by simp only [PK.ev, sOp_ok T hx, SV.cc, Gw.lenStr, fold_ok h, mkLen_ok h])
    · exact Snd.none
  | lenA n =>
    show Snd m.σ (sP_lenA pc t n) _
    unfold sP_lenA
    exact Snd.val h (by simp only [PK.ev, SV.cc, IT.ev])
  | cap x =>
    show Snd m.σ (sP_cap pc t x) _
    unfold sP_cap
    refine Snd.opt fun x' hx => ?_
    split
    · exact Snd.val h (by simp only [PK.ev, sOp_ok T hx, SV.cc, capV, IT.ev])
    · exact Snd.val h (by simp only [PK.ev, sOp_ok T hx, SV.cc, capV, IT.ev])
    · exact Snd.none
  | min x xs =>
    show Snd m.σ (sP_min pc t x xs) _
    unfold sP_min
    exact Snd.opt fun x' hx => Snd.opt fun xs' hxs => Snd.opt fun v hv => Snd.val h (by simp only [PK.ev, sOp_ok T hx, sOps_ok T hxs]; exact sMinV_ok h xs' x' hv)
  | max x xs =>
    show Snd m.σ (sP_max pc t x xs) _
    unfold sP_max
    exact Snd.opt fun x' hx => Snd.opt fun xs' hxs => Snd.opt fun v hv => Snd.val h (by simp only [PK.ev, sOp_ok T hx, sOps_ok T hxs]; exact sMaxV_ok h xs' x' hv)
  | bad => exact Snd.none

end Gw
