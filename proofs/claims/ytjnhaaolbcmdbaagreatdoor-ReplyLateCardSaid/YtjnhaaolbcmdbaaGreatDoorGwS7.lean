/- Memory operations on symbolic values. -/
import Derived.Test.YtjnhaaolbcmdbaaGreatDoorGwS6
namespace Gw
open Go

inductive SRV where
  | ld (id off : Nat)
  | ldN (id off n : Nat)
  | b2s (id off n : Nat)
  | r2s (id off n : Nat)
  | lk (zero : SV) (id : Nat) (k : IntKind) (n : IT)
  | nos
def SRV.cc (m : Mn) : SRV → RV
  | .ld i o => .ld (m.ι i) o
  | .ldN i o n => .ldN (m.ι i) o n
  | .b2s i o n => .b2s (m.ι i) o n
  | .r2s i o n => .r2s (m.ι i) o n
  | .lk z i k n => .lk (z.cc m) (m.ι i) k (n.ev m.σ)
  | .nos => .nos

variable {m : Mn} {t : Tms} {tl : List V}

noncomputable def sRes (pc : PC) (t : Tms) : RK → Option SRV
  | .ld x => (sOp t x).bind fun x => match x with | .ptr id off => some (.ld id off) | _ => none
  | .ldN n x => (sOp t x).bind fun x => match x with | .ptr id off => some (.ldN id off n) | _ => none
  | .b2s x => (sOp t x).bind fun x => match x with | .nils => some .nos | .slice id off n e _ => if e = 1 then (natOf pc n).map (.b2s id off) else none | _ => none
  | .r2s x => (sOp t x).bind fun x => match x with | .nils => some .nos | .slice id off n e _ => if e = 1 then (natOf pc n).map (.r2s id off) else none | _ => none
  | .lk z mp k => (symV z).bind fun z => (sOp t mp).bind fun mp => (sOp t k).bind fun k => match mp, k with | .map id, .int k n => some (.lk z id k n) | _, _ => none

theorem natOf_cc {pc : PC} (h : m.σ.ok pc) {t : IT} {n : Nat} (hn : natOf pc t = some n) : (t.ev m.σ).toNat = n := by rw [natOf_ok h hn]; omega

theorem sRes_ok (T : TC m t tl) {pc : PC} (h : m.σ.ok pc) {k : RK} {r : SRV} (hr : sRes pc t k = some r) : k.res tl = some (r.cc m) := by
  cases k with
  | ld x =>
    simp only [sRes, Option.bind_eq_some_iff] at hr
    obtain ⟨a, ha, hr⟩ := hr
    split at hr <;> cases hr
    simp only [RK.res, sOp_ok T ha, SV.cc, SRV.cc]
  | ldN n x =>
    simp only [sRes, Option.bind_eq_some_iff] at hr
    obtain ⟨a, ha, hr⟩ := hr
    split at hr <;> cases hr
    simp only [RK.res, sOp_ok T ha, SV.cc, SRV.cc]
  | b2s x =>
    simp only [sRes, Option.bind_eq_some_iff] at hr
    obtain ⟨a, ha, hr⟩ := hr
    split at hr
    · cases hr; simp only [RK.res, sOp_ok T ha, SV.cc, SRV.cc]
    · split at hr
      · rename_i he
        simp only [Option.map_eq_some_iff] at hr
        obtain ⟨n, hn, rfl⟩ := hr
        simp only [RK.res, sOp_ok T ha, SV.cc, SRV.cc, if_pos he, natOf_cc h hn]
      · cases hr
    · cases hr
  | r2s x =>
    simp only [sRes, Option.bind_eq_some_iff] at hr
    obtain ⟨a, ha, hr⟩ := hr
    split at hr
    · cases hr; simp only [RK.res, sOp_ok T ha, SV.cc, SRV.cc]
    · split at hr
      · rename_i he
        simp only [Option.map_eq_some_iff] at hr
        obtain ⟨n, hn, rfl⟩ := hr
        simp only [RK.res, sOp_ok T ha, SV.cc, SRV.cc, if_pos he, natOf_cc h hn]
      · cases hr
    · cases hr
  | lk z mp k =>
    simp only [sRes, Option.bind_eq_some_iff] at hr
    obtain ⟨z', hz, a, ha, b, hb, hr⟩ := hr
    split at hr <;> cases hr
    simp only [RK.res, sOp_ok T ha, sOp_ok T hb, SV.cc, SRV.cc, symV_ok m z hz]

noncomputable def srow (sh : SHeap) (id : Nat) : Option (List SV) :=
  match sh.get id with
  | some (.cells _ l) => some l
  | _ => none
noncomputable def srowW (sh : SHeap) (id : Nat) : Option (List SV) :=
  match sh.get id with
  | some (.cells false l) => some l
  | _ => none
theorem srow_ok {sh : SHeap} {h : Heap} (H : HC m sh h) {id : Nat} {l : List SV} (hr : srow sh id = some l) : ∃ l', rowOf h (m.ι id) = some (SV.ccs m l ++ l') := by
  unfold srow at hr
  split at hr
  · rename_i ro l0 hg
    cases hr
    have := H.blk _ _ hg
    cases ro with
    | true => obtain ⟨l', h1⟩ := this; exact ⟨l', by simp only [rowOf, h1]⟩
    | false => exact ⟨[], by simp only [BC] at this; simp only [rowOf, this, List.append_nil]⟩
  · cases hr
theorem srowW_ok {sh : SHeap} {h : Heap} (H : HC m sh h) {id : Nat} {l : List SV} (hr : srowW sh id = some l) : rowW h (m.ι id) = some (SV.ccs m l) := by
  unfold srowW at hr
  split at hr
  · rename_i l0 hg
    cases hr
    have := H.blk _ _ hg
    simp only [BC] at this
    simp only [rowW, this]
  · cases hr

noncomputable def srdN (sh : SHeap) (id off n : Nat) : Option (List SV) := if n = 0 then some [] else (srow sh id).bind fun l => scellsAt l off n
theorem srdN_ok {sh : SHeap} {h : Heap} (H : HC m sh h) {id off n : Nat} {l : List SV} (hr : srdN sh id off n = some l) : rdN h (m.ι id) off n = some (SV.ccs m l) := by
  unfold srdN at hr
  split at hr
  · rename_i h0; cases hr; simp only [rdN, if_pos h0]; rfl
  · rename_i h0
    simp only [Option.bind_eq_some_iff] at hr
    obtain ⟨r, hr, hc⟩ := hr
    obtain ⟨l', h1⟩ := srow_ok H hr
    rcases scellsAt_ok m r l' off n hc with h2 | h2
    · exact absurd h2.1 h0
    · simp only [rdN, if_neg h0, h1, Option.bind_some, h2]

def sbytesOf : List SV → Option (List UInt8)
  | [] => some []
  | .int .u8 (.c n) :: l => (sbytesOf l).map (UInt8.ofNat n.toNat :: ·)
  | _ :: _ => none
def srunesOf : List SV → Option (List UInt8)
  | [] => some []
  | .int .i32 (.c n) :: l => (srunesOf l).map ((Utf8.encode n).data.toList ++ ·)
  | _ :: _ => none
theorem sbytesOf_ok (m : Mn) : ∀ (l : List SV) {b : List UInt8}, sbytesOf l = some b → bytesOf (SV.ccs m l) = some b
  | [], b, h => by cases h; rfl
  | v :: l, b, h => by
    cases v <;> (try (simp [sbytesOf] at h; done))
    rename_i k n
    cases k <;> (try (simp [sbytesOf] at h; done))
    cases n <;> (try (simp [sbytesOf] at h; done))
    simp only [sbytesOf, Option.map_eq_some_iff] at h
    obtain ⟨r, hr, rfl⟩ := h
    simp only [SV.ccs, SV.cc, IT.ev, bytesOf, sbytesOf_ok m l hr, Option.map_some]
theorem srunesOf_ok (m : Mn) : ∀ (l : List SV) {b : List UInt8}, srunesOf l = some b → runesOf (SV.ccs m l) = some b
  | [], b, h => by cases h; rfl
  | v :: l, b, h => by
    cases v <;> (try (simp [srunesOf] at h; done))
    rename_i k n
    cases k <;> (try (simp [srunesOf] at h; done))
    cases n <;> (try (simp [srunesOf] at h; done))
    simp only [srunesOf, Option.map_eq_some_iff] at h
    obtain ⟨r, hr, rfl⟩ := h
    simp only [SV.ccs, SV.cc, IT.ev, runesOf, srunesOf_ok m l hr, Option.map_some]

noncomputable def smapOf (sh : SHeap) (id : Nat) : Option (List (SV × SV)) :=
  match sh.get id with
  | some (.mp es) => some es
  | _ => none
theorem smapOf_ok {sh : SHeap} {h : Heap} (H : HC m sh h) {id : Nat} {es : List (SV × SV)} (hr : smapOf sh id = some es) : mapOf h (m.ι id) = some (ccE m es) := by
  unfold smapOf at hr
  split at hr
  · rename_i es0 hg
    cases hr
    have := H.blk _ _ hg
    simp only [BC] at this
    simp only [mapOf, this]
  · cases hr

def sfindE (pc : PC) (k : IntKind) (n : IT) : List (SV × SV) → R (Option SV)
  | [] => rOne pc none
  | (.int k' x, v) :: es => if k = k' then rB (rSplit pc (.eq n x)) fun pc b => if b then rOne pc (some v) else sfindE pc k n es else rNo
  | _ :: _ => rNo
theorem sfindE_ok (k : IntKind) (n : IT) : ∀ (es : List (SV × SV)) {pc : PC}, m.σ.ok pc → Snd m.σ (sfindE pc k n es) fun o => findE k (n.ev m.σ) (ccE m es) = some (o.map (SV.cc m))
  | [], pc, h => Snd.one h rfl
  | (key, v) :: es, pc, h => by
    cases key <;> (try exact Snd.none)
    rename_i k' x
    simp only [sfindE]
    split
    · rename_i hk
      refine Snd.bind (rSplit_ok h _) fun pc b h hb => ?_
      simp only [BT.ev] at hb
      cases b with
      | true => exact Snd.one h (by simp only [ccE, SV.cc, findE]; rw [if_pos hk, if_pos hb]; rfl)
      | false => exact (sfindE_ok k n es h).mono fun o ho => by simp only [ccE, SV.cc, findE]; rw [if_pos hk, if_neg (by simpa using hb)]; exact ho
    · exact Snd.none

/-- The same where nothing is to be split. -/
def sfindD (pc : PC) (k : IntKind) (n : IT) : List (SV × SV) → Option (Option SV)
  | [] => some none
  | (.int k' x, v) :: es => if k = k' then (match dB pc (.eq n x) with | some true => some (some v) | some false => sfindD pc k n es | none => none) else none
  | _ :: _ => none
theorem sfindD_ok {pc : PC} (h : m.σ.ok pc) (k : IntKind) (n : IT) : ∀ (es : List (SV × SV)) {o : Option SV}, sfindD pc k n es = some o → findE k (n.ev m.σ) (ccE m es) = some (o.map (SV.cc m))
  | [], o, ho => by cases ho; rfl
  | (key, v) :: es, o, ho => by
    cases key <;> (try (simp [sfindD] at ho; done))
    rename_i k' x
    simp only [sfindD] at ho
    split at ho
    · rename_i hk
      split at ho
      · rename_i hd
        have := dB_ok h _ hd
        simp only [BT.ev] at this
        cases ho
        simp only [ccE, SV.cc, findE]; rw [if_pos hk, if_pos this]; rfl
      · rename_i hd
        have := dB_ok h _ hd
        simp only [BT.ev] at this
        simp only [ccE, SV.cc, findE]; rw [if_pos hk, if_neg (by simpa using this)]
        exact sfindD_ok h k n es ho
      · cases ho
    · cases ho

noncomputable def sRdD (pc : PC) (sh : SHeap) : SRV → Option SV
  | .ld id off => (srow sh id).bind fun l => scellAt l off
  | .ldN id off n => (srdN sh id off n).map .agg
  | .b2s id off n => (srdN sh id off n).bind fun l => (sbytesOf l).map fun b => .str (.c b)
  | .r2s id off n => (srdN sh id off n).bind fun l => (srunesOf l).map fun b => .str (.c b)
  | .lk z id k n => (smapOf sh id).bind fun es => (sfindD pc k n es).map fun o => o.getD z
  | .nos => some (.str (.c []))
theorem sRdD_ok {pc : PC} (hp : m.σ.ok pc) {sh : SHeap} {h : Heap} (H : HC m sh h) {r : SRV} {v : SV} (hr : sRdD pc sh r = some v) : (r.cc m).rd h = some (v.cc m) := by
  cases r with
  | ld id off =>
    simp only [sRdD, Option.bind_eq_some_iff] at hr
    obtain ⟨l, hl, hc⟩ := hr
    obtain ⟨l', h1⟩ := srow_ok H hl
    simp only [SRV.cc, RV.rd, h1, Option.bind_some, scellAt_ok m l l' off hc]
  | ldN id off n =>
    simp only [sRdD, Option.map_eq_some_iff] at hr
    obtain ⟨l, hl, rfl⟩ := hr
    simp only [SRV.cc, RV.rd, srdN_ok H hl, Option.map_some, SV.cc]
  | b2s id off n =>
    simp only [sRdD, Option.bind_eq_some_iff, Option.map_eq_some_iff] at hr
    obtain ⟨l, hl, b, hb, rfl⟩ := hr
    simp only [SRV.cc, RV.rd, srdN_ok H hl, Option.bind_some, sbytesOf_ok m l hb, Option.map_some, SV.cc, ST.ev]
  | r2s id off n =>
    simp only [sRdD, Option.bind_eq_some_iff, Option.map_eq_some_iff] at hr
    obtain ⟨l, hl, b, hb, rfl⟩ := hr
    simp only [SRV.cc, RV.rd, srdN_ok H hl, Option.bind_some, srunesOf_ok m l hb, Option.map_some, SV.cc, ST.ev]
  | lk z id k n =>
    simp only [sRdD, Option.bind_eq_some_iff, Option.map_eq_some_iff] at hr
    obtain ⟨es, he, o, ho, rfl⟩ := hr
    simp only [SRV.cc, RV.rd, smapOf_ok H he, Option.bind_some, sfindD_ok hp k n es ho, Option.map_some]
    cases o <;> rfl
  | nos => cases hr; rfl

noncomputable def sRd (pc : PC) (sh : SHeap) (r : SRV) : R SV :=
  match r with
  | .lk z id k n => rO (smapOf sh id) fun es => rB (sfindE pc k n es) fun pc o => rV pc (o.getD z)
  | r => rO (sRdD pc sh r) (rV pc)
theorem sRd_ok {pc : PC} (hp : m.σ.ok pc) {sh : SHeap} {h : Heap} (H : HC m sh h) (r : SRV) : Snd m.σ (sRd pc sh r) fun v => (r.cc m).rd h = some (v.cc m) := by
  unfold sRd
  split
  · rename_i z id k n
    refine Snd.opt fun es he => Snd.bind (sfindE_ok k n es hp) fun pc o hp ho => Snd.val hp ?_
    simp only [SRV.cc, RV.rd, smapOf_ok H he, Option.bind_some, ho, Option.map_some]
    cases o <;> rfl
  · exact Snd.opt fun v hv => Snd.val hp (sRdD_ok hp H hv)

def srepL (z : List SV) : Nat → List SV
  | 0 => []
  | n + 1 => appS z (srepL z n)
where appS : List SV → List SV → List SV
  | [], m => m
  | x :: l, m => x :: appS l m
theorem appS_eq : ∀ (l k : List SV), srepL.appS l k = l ++ k
  | [], _ => rfl
  | x :: l, k => by simp [srepL.appS, appS_eq l k]
theorem ccs_append (m : Mn) : ∀ (l k : List SV), SV.ccs m (l ++ k) = SV.ccs m l ++ SV.ccs m k
  | [], _ => rfl
  | x :: l, k => by simp [SV.ccs, ccs_append m l k]
theorem srepL_ok (m : Mn) (z : List SV) : ∀ n, SV.ccs m (srepL z n) = repL (SV.ccs m z) n
  | 0 => rfl
  | n + 1 => by simp only [srepL, appS_eq, ccs_append, repL, srepL_ok m z n]

def sbyteVs : List UInt8 → List SV
  | [] => []
  | b :: l => .int .u8 (.c b.toNat) :: sbyteVs l
theorem sbyteVs_ok (m : Mn) : ∀ l, SV.ccs m (sbyteVs l) = byteVs l
  | [] => rfl
  | b :: l => by simp only [sbyteVs, SV.ccs, SV.cc, IT.ev, byteVs, sbyteVs_ok m l]

noncomputable def sAK (t : Tms) (id : Nat) : AK → Option (SBlk × SV)
  | .alloc z => (symL z).map fun z => (.cells false z, .ptr id 0)
  | .box x => (sOp t x).map fun x => (.cells false x.cells, .ptr id 0)
  | .bslice e zs n ps => (symL zs).bind fun zs => (sOpP t ps).bind fun ps => (sfill zs ps).map fun cs => (.cells false cs, .slice id 0 (.c n) e (some n))
  | .s2b x => (sOp t x).bind fun x => match x with | .str (.c s) => some (.cells false (sbyteVs s), .slice id 0 (.c s.length) 1 none) | _ => none
  | .mkslice e bytes z l c => (symL z).bind fun z => (sOp t l).bind fun l => (sOp t c).bind fun c =>
    match l, c with
    | .int _ (.c l), .int _ (.c c) =>
      if 0 ≤ l ∧ l ≤ c ∧ c * bytes ≤ 281474976710656 ∧ c ≤ 281474976710656 then some (.cells false (srepL z c.toNat), .slice id 0 (.c l) e (some c.toNat)) else none
    | _, _ => none
  | .iter x => (sOp t x).bind fun x => match x with | .str (.c s) => some (.iter s 0, .ptr id 0) | _ => none
  | .mkmap => some (.mp [], .map id)
theorem sAK_ok (T : TC m t tl) {id : Nat} {k : AK} {b : SBlk} {v : SV} (hk : sAK t id k = some (b, v)) : ∃ b', k.mk tl (m.ι id) = some (b', v.cc m) ∧ BC m b (some b') := by
  cases k with
  | alloc z =>
    simp only [sAK, Option.map_eq_some_iff, Prod.mk.injEq] at hk
    obtain ⟨z', hz, rfl, rfl⟩ := hk
    exact ⟨_, rfl, by simp only [BC, symL_ok m z hz]⟩
  | box x =>
    simp only [sAK, Option.map_eq_some_iff, Prod.mk.injEq] at hk
    obtain ⟨x', hx, rfl, rfl⟩ := hk
    exact ⟨_, rfl, by simp only [BC, sOp_ok T hx, SV.cells_ok]⟩
  | bslice e zs n ps =>
    simp only [sAK, Option.bind_eq_some_iff, Option.map_eq_some_iff, Prod.mk.injEq] at hk
    obtain ⟨zs', hz, ps', hp, cs, hc, rfl, rfl⟩ := hk
    refine ⟨.cells false (SV.ccs m cs), ?_, rfl⟩
    simp only [AK.mk, sOpP_ok T hp]
    rw [← symL_ok m zs hz, sfill_ok m ps' zs' hc]
    simp [SV.cc, IT.ev]
  | s2b x =>
    simp only [sAK, Option.bind_eq_some_iff] at hk
    obtain ⟨x', hx, hk⟩ := hk
    split at hk <;> cases hk
    rename_i s
    refine ⟨.cells false (byteVs s), ?_, by simp only [BC, sbyteVs_ok]⟩
    simp [AK.mk, sOp_ok T hx, SV.cc, ST.ev, IT.ev]
  | mkslice e bytes z l c =>
    simp only [sAK, Option.bind_eq_some_iff] at hk
    obtain ⟨z', hz, l', hl, c', hc, hk⟩ := hk
    split at hk
    · rename_i k1 a k2 b1
      split at hk
      · rename_i hcond
        cases hk
        refine ⟨.cells false (repL z b1.toNat), ?_, by simp only [BC, srepL_ok, symL_ok m z hz]⟩
        simp only [AK.mk, sOp_ok T hl, sOp_ok T hc, SV.cc, IT.ev, if_pos hcond]
      · cases hk
    · cases hk
  | iter x =>
    simp only [sAK, Option.bind_eq_some_iff] at hk
    obtain ⟨x', hx, hk⟩ := hk
    split at hk <;> cases hk
    rename_i s
    exact ⟨.iter s 0, by simp only [AK.mk, sOp_ok T hx, SV.cc, ST.ev], rfl⟩
  | mkmap =>
    cases hk
    exact ⟨.mp [], rfl, rfl⟩

/-- Cells are written. -/
noncomputable def swrN (sh : SHeap) (id off : Nat) (vs : List SV) : Option SHeap :=
  if sallOne vs then (srowW sh id).bind fun l => (sputAt l off vs).map fun l => sh.put id (some (.cells false l)) else none
theorem swrN_ok {sh sh' : SHeap} {h : Heap} (H : HC m sh h) {id off : Nat} {vs : List SV} (hw : swrN sh id off vs = some sh') :
    ∃ h', wrN h (m.ι id) off (SV.ccs m vs) = some h' ∧ HC m sh' h' ∧ Fri m h h' := by
  unfold swrN at hw
  split at hw
  · rename_i ha
    simp only [Option.bind_eq_some_iff, Option.map_eq_some_iff] at hw
    obtain ⟨l, hl, l1, h1, rfl⟩ := hw
    obtain ⟨a, b⟩ := H.put id (b := .cells false l1) (c := .cells false (SV.ccs m l1)) rfl
    refine ⟨_, ?_, a, b⟩
    simp only [wrN, sallOne_ok, if_pos ha, srowW_ok H hl, Option.bind_some, sputAt_ok m _ _ _ h1, Option.map_some]
  · cases hw

noncomputable def sstoreV (n : Nat) (a x : SV) (sh : SHeap) : Option SHeap :=
  match a with
  | .ptr id off => if x.cells.length = n then swrN sh id off x.cells else none
  | _ => none
theorem sstoreV_ok {sh sh' : SHeap} {h : Heap} (H : HC m sh h) {n : Nat} {a x : SV} (hw : sstoreV n a x sh = some sh') :
    ∃ h', storeV n (a.cc m) (x.cc m) h = some h' ∧ HC m sh' h' ∧ Fri m h h' := by
  unfold sstoreV at hw
  split at hw
  · split at hw
    · rename_i hl
      obtain ⟨h', h1, h2⟩ := swrN_ok H hw
      refine ⟨h', ?_, h2⟩
      simp only [SV.cc, storeV, SV.cells_ok, SV.ccs_len, if_pos hl, h1]
    · cases hw
  · cases hw

noncomputable def saddedV (pc : PC) (sh : SHeap) (esz : Nat) (x : SV) : Option (List SV × Nat) :=
  match x with
  | .nils => some ([], 0)
  | .slice id off n e _ => if e = esz then (natOf pc n).bind fun n => (srdN sh id off (n * esz)).map fun l => (l, n) else none
  | .str (.c s) => if esz = 1 then some (sbyteVs s, s.length) else none
  | _ => none
theorem saddedV_ok {pc : PC} (hp : m.σ.ok pc) {sh : SHeap} {h : Heap} (H : HC m sh h) {esz : Nat} {x : SV} {l : List SV} {n : Nat} (ha : saddedV pc sh esz x = some (l, n)) : addedV h esz (x.cc m) = some (SV.ccs m l, n) := by
  unfold saddedV at ha
  split at ha
  · cases ha; rfl
  · split at ha
    · rename_i he
      simp only [Option.bind_eq_some_iff, Option.map_eq_some_iff, Prod.mk.injEq] at ha
      obtain ⟨n', hn, l', hl, rfl, rfl⟩ := ha
      simp only [SV.cc, addedV, if_pos he, natOf_cc hp hn, srdN_ok H hl, Option.map_some]
    · cases ha
  · split at ha
    · rename_i he; cases ha; simp only [SV.cc, ST.ev, addedV, if_pos he, sbyteVs_ok]
    · cases ha
  · cases ha

theorem cellsAt_zero : ∀ (l : List V) (o : Nat), cellsAt l o 0 = some []
  | [], 0 => rfl
  | _ :: _, 0 => rfl
  | [], _ + 1 => rfl
  | _ :: l, o + 1 => cellsAt_zero l o
noncomputable def sappendV (pc : PC) (sh : SHeap) (esz bytes : Nat) (s : SV) (vs : List SV) (n : Nat) : Option (SV × SHeap) :=
  if sallOne vs then
    match s with
    | .nils =>
      if n = 0 then some (.nils, sh)
      else if n * bytes ≤ 70368744177664 then some (.slice sh.n 0 (.c n) esz none, (sh.put sh.n (some (.cells false vs))).up 1) else none
    | .slice id off len e cap =>
      if e = esz then
        if n = 0 then some (s, sh)
        else (natOf pc len).bind fun len => if (len + n) * bytes ≤ 70368744177664 then
          match cap with
          | some c =>
            if len + n ≤ c then (swrN sh id (off + len * esz) vs).map fun sh => (.slice id off (.c (len + n : Nat)) esz cap, sh)
            else (srdN sh id off (len * esz)).map fun old => (.slice sh.n 0 (.c (len + n : Nat)) esz none, (sh.put sh.n (some (.cells false (srepL.appS old vs)))).up 1)
          | none =>
            (srowW sh id).bind fun l => (scellsAt l off (len * esz)).map fun old => (.slice sh.n 0 (.c (len + n : Nat)) esz none, ((sh.put id (some .dead)).put sh.n (some (.cells false (srepL.appS old vs)))).up 1)
        else none
      else none
    | _ => none
  else none
theorem sappendV_ok {pc : PC} (hp : m.σ.ok pc) {sh sh' : SHeap} {h : Heap} (H : HC m sh h) {esz bytes : Nat} {s v : SV} {vs : List SV} {n : Nat} (ha : sappendV pc sh esz bytes s vs n = some (v, sh')) :
    ∃ h', appendV h esz bytes (s.cc m) (SV.ccs m vs) n = some (v.cc m, h') ∧ HC m sh' h' ∧ Fri m h h' := by
  unfold sappendV at ha
  split at ha
  · rename_i hall
    simp only [appendV, sallOne_ok, if_pos hall]
    split at ha
    · split at ha
      · rename_i h0; cases ha; exact ⟨h, by simp only [SV.cc, if_pos h0], H, Fri.refl _ _⟩
      · rename_i h0
        split at ha
        · rename_i hb
          cases ha
          obtain ⟨a, b⟩ := H.put sh.n (b := .cells false vs) (c := .cells false (SV.ccs m vs)) rfl
          rw [H.n0] at a b
          refine ⟨_, ?_, a.up 1, b⟩
          simp only [SV.cc, if_neg h0, if_pos hb, H.n0, IT.ev]
          simp
        · cases ha
    · rename_i id off len e cap
      split at ha
      · rename_i he
        split at ha
        · rename_i h0; cases ha; exact ⟨h, by simp only [SV.cc, if_pos he, if_pos h0], H, Fri.refl _ _⟩
        · rename_i h0
          simp only [Option.bind_eq_some_iff] at ha
          obtain ⟨ln, hln, ha⟩ := ha
          split at ha
          · rename_i hb
            simp only [SV.cc, if_pos he, if_neg h0, natOf_cc hp hln, if_pos hb]
            split at ha
            · rename_i c
              split at ha
              · rename_i hc
                simp only [Option.map_eq_some_iff, Prod.mk.injEq] at ha
                obtain ⟨s1, hs1, rfl, rfl⟩ := ha
                obtain ⟨h', h1, h2⟩ := swrN_ok H hs1
                refine ⟨h', ?_, h2⟩
                simp only [if_pos hc, h1, Option.map_some, SV.cc, IT.ev]
                simp <;> omega
              · rename_i hc
                simp only [Option.map_eq_some_iff, Prod.mk.injEq] at ha
                obtain ⟨old, ho, rfl, rfl⟩ := ha
                obtain ⟨a, b⟩ := H.put sh.n (b := .cells false (srepL.appS old vs)) (c := .cells false (SV.ccs m (srepL.appS old vs))) rfl
                rw [H.n0] at a b
                refine ⟨_, ?_, a.up 1, b⟩
                simp only [if_neg hc, srdN_ok H ho, Option.map_some, SV.cc, H.n0, IT.ev, appS_eq, ccs_append]
                simp <;> omega
            · simp only [Option.bind_eq_some_iff] at ha
              obtain ⟨l, hl, ha⟩ := ha
              simp only [Option.map_eq_some_iff, Prod.mk.injEq] at ha
              obtain ⟨old, ho, rfl, rfl⟩ := ha
              obtain ⟨a1, b1⟩ := H.put id (b := .dead) (c := .dead) rfl
              obtain ⟨a, b⟩ := a1.put sh.n (b := .cells false (srepL.appS old vs)) (c := .cells false (SV.ccs m (srepL.appS old vs))) rfl
              rw [H.n0] at a b
              refine ⟨_, ?_, a.up 1, b1.trans b⟩
              have h2 : cellsAt (SV.ccs m l) off (ln * esz) = some (SV.ccs m old) := by
                rcases scellsAt_ok m l [] off (ln * esz) ho with h2 | h2
                · rw [h2.1, h2.2, cellsAt_zero]; rfl
                · rwa [List.append_nil] at h2
              simp only [srowW_ok H hl, Option.bind_some, h2, Option.map_some, SV.cc, H.n0, IT.ev, appS_eq, ccs_append]
              simp <;> omega
          · cases ha
      · cases ha
    · cases ha
  · cases ha

noncomputable def scopyV (pc : PC) (sh : SHeap) (esz : Nat) (d s : SV) : Option (SV × SHeap) :=
  match d with
  | .nils => match s with
    | .nils => some (.int .i64 (.c 0), sh)
    | .slice _ _ _ e _ => if e = esz then some (.int .i64 (.c 0), sh) else none
    | .str _ => if esz = 1 then some (.int .i64 (.c 0), sh) else none
    | _ => none
  | .slice id off len e _ =>
    if e = esz then
      (natOf pc len).bind fun len => match s with
      | .nils => some (.int .i64 (.c 0), sh)
      | .slice id' off' n e' _ =>
        if e' = esz then
          (natOf pc n).bind fun n => if Nat.min n len = 0 then some (.int .i64 (.c 0), sh)
          else (srdN sh id' off' (Nat.min n len * esz)).bind fun vs => (swrN sh id off vs).map fun sh => (.int .i64 (.c (Nat.min n len : Nat)), sh)
        else none
      | .str (.c b) =>
        if esz = 1 then
          if Nat.min b.length len = 0 then some (.int .i64 (.c 0), sh)
          else (swrN sh id off (sbyteVs (b.take (Nat.min b.length len)))).map fun sh => (.int .i64 (.c (Nat.min b.length len : Nat)), sh)
        else none
      | _ => none
    else none
  | _ => none
theorem scopyV_ok {pc : PC} (hp : m.σ.ok pc) {sh sh' : SHeap} {h : Heap} (H : HC m sh h) {esz : Nat} {d s v : SV} (ha : scopyV pc sh esz d s = some (v, sh')) :
    ∃ h', copyV h esz (d.cc m) (s.cc m) = some (v.cc m, h') ∧ HC m sh' h' ∧ Fri m h h' := by
  unfold scopyV at ha
  split at ha
  · split at ha
    · cases ha; exact ⟨h, rfl, H, Fri.refl _ _⟩
    · split at ha
      · rename_i he; cases ha; exact ⟨h, by simp only [SV.cc, copyV, if_pos he, IT.ev], H, Fri.refl _ _⟩
      · cases ha
    · split at ha
      · rename_i he; cases ha; exact ⟨h, by simp only [SV.cc, copyV, if_pos he, IT.ev], H, Fri.refl _ _⟩
      · cases ha
    · cases ha
  · rename_i id off len e cap
    split at ha
    · rename_i he
      simp only [Option.bind_eq_some_iff] at ha
      obtain ⟨ln, hln, ha⟩ := ha
      simp only [SV.cc, copyV, if_pos he, natOf_cc hp hln]
      split at ha
      · cases ha; exact ⟨h, rfl, H, Fri.refl _ _⟩
      · rename_i id' off' n e' cap'
        split at ha
        · rename_i he'
          simp only [Option.bind_eq_some_iff] at ha
          obtain ⟨n', hn', ha⟩ := ha
          simp only [SV.cc, if_pos he', natOf_cc hp hn']
          split at ha
          · rename_i h0; cases ha; exact ⟨h, by simp only [if_pos h0, SV.cc, IT.ev], H, Fri.refl _ _⟩
          · rename_i h0
            simp only [Option.bind_eq_some_iff, Option.map_eq_some_iff, Prod.mk.injEq] at ha
            obtain ⟨vs, hvs, s1, hs1, rfl, rfl⟩ := ha
            obtain ⟨h', h1, h2⟩ := swrN_ok H hs1
            exact ⟨h', by simp only [if_neg h0, srdN_ok H hvs, Option.bind_some, h1, Option.map_some, SV.cc, IT.ev], h2⟩
        · cases ha
      · rename_i b
        split at ha
        · rename_i he'
          simp only [SV.cc, ST.ev, if_pos he']
          split at ha
          · rename_i h0; cases ha; exact ⟨h, by simp only [if_pos h0, SV.cc, IT.ev], H, Fri.refl _ _⟩
          · rename_i h0
            simp only [Option.map_eq_some_iff, Prod.mk.injEq] at ha
            obtain ⟨s1, hs1, rfl, rfl⟩ := ha
            obtain ⟨h', h1, h2⟩ := swrN_ok H hs1
            rw [sbyteVs_ok] at h1
            exact ⟨h', by simp only [if_neg h0, h1, Option.map_some, SV.cc, IT.ev], h2⟩
        · cases ha
      · cases ha
    · cases ha
  · cases ha

noncomputable def sclearV (pc : PC) (sh : SHeap) (esz : Nat) (zero : List V) (x : SV) : Option SHeap :=
  match x with
  | .nils => some sh
  | .slice id off n e _ => if e = esz then (natOf pc n).bind fun n => if n = 0 then some sh else (symL zero).bind fun z => swrN sh id off (srepL z n) else none
  | _ => none
theorem sclearV_ok {pc : PC} (hp : m.σ.ok pc) {sh sh' : SHeap} {h : Heap} (H : HC m sh h) {esz : Nat} {zero : List V} {x : SV} (ha : sclearV pc sh esz zero x = some sh') :
    ∃ h', clearV h esz zero (x.cc m) = some h' ∧ HC m sh' h' ∧ Fri m h h' := by
  unfold sclearV at ha
  split at ha
  · cases ha; exact ⟨h, rfl, H, Fri.refl _ _⟩
  · split at ha
    · rename_i he
      simp only [Option.bind_eq_some_iff] at ha
      obtain ⟨n', hn', ha⟩ := ha
      simp only [SV.cc, clearV, if_pos he, natOf_cc hp hn']
      split at ha
      · rename_i h0; cases ha; exact ⟨h, by rw [if_pos h0], H, Fri.refl _ _⟩
      · rename_i h0
        simp only [Option.bind_eq_some_iff] at ha
        obtain ⟨z, hz, ha⟩ := ha
        obtain ⟨h', h1, h2⟩ := swrN_ok H ha
        rw [srepL_ok, symL_ok m zero hz] at h1
        exact ⟨h', by rw [if_neg h0, h1], h2⟩
    · cases ha
  · cases ha

noncomputable def snextV (sh : SHeap) (x : SV) : Option (SV × SHeap) :=
  match x with
  | .ptr id 0 => match sh.get id with
    | some (.iter s pos) =>
      if pos < s.length then
        some (.tup [.bool (.c true), .int .i64 (.c pos), .int .i32 (.c (decodeL s pos).1)], sh.put id (some (.iter s (pos + (decodeL s pos).2))))
      else some (.tup [.bool (.c false)], sh)
    | _ => none
  | _ => none
theorem snextV_ok {sh sh' : SHeap} {h : Heap} (H : HC m sh h) {x v : SV} (ha : snextV sh x = some (v, sh')) :
    ∃ h', nextV h (x.cc m) = some (v.cc m, h') ∧ HC m sh' h' ∧ Fri m h h' := by
  unfold snextV at ha
  split at ha
  · rename_i id
    split at ha
    · rename_i s pos hg
      have hb := H.blk _ _ hg
      simp only [BC] at hb
      simp only [SV.cc, nextV, hb]
      split at ha
      · rename_i hp
        cases ha
        obtain ⟨a, b⟩ := H.put id (b := .iter s (pos + (decodeL s pos).2)) (c := .iter s (pos + (decodeL s pos).2)) rfl
        exact ⟨_, by rw [if_pos hp]; rfl, a, b⟩
      · rename_i hp
        cases ha
        exact ⟨h, by rw [if_neg hp]; rfl, H, Fri.refl _ _⟩
    · cases ha
  · cases ha

noncomputable def sfrozV (pc : PC) (sh : SHeap) (x : SV) : Option (SV × SHeap) :=
  match x with
  | .slice id _ n e _ => if ltB pc (.c 0) n && decide (e = 1) then (srowW sh id).map fun _ => (x, sh) else none
  | _ => none
theorem sfrozV_ok {pc : PC} (hp : m.σ.ok pc) {sh sh' : SHeap} {h : Heap} (H : HC m sh h) {x v : SV} (ha : sfrozV pc sh x = some (v, sh')) :
    ∃ h', frozV h (x.cc m) = some (v.cc m, h') ∧ HC m sh' h' ∧ Fri m h h' := by
  unfold sfrozV at ha
  split at ha
  · split at ha
    · rename_i hc
      simp only [Bool.and_eq_true, decide_eq_true_eq] at hc
      have := ltB_ok hp hc.1
      simp only [IT.ev] at this
      simp only [Option.map_eq_some_iff, Prod.mk.injEq] at ha
      obtain ⟨l, hl, rfl, rfl⟩ := ha
      exact ⟨h, by simp only [SV.cc, frozV]; rw [if_pos ⟨by omega, hc.2⟩, srowW_ok H hl]; rfl, H, Fri.refl _ _⟩
    · cases ha
  · cases ha

theorem ccE_append (m : Mn) : ∀ (l k : List (SV × SV)), ccE m (l ++ k) = ccE m l ++ ccE m k
  | [], _ => rfl
  | (a, b) :: l, k => by simp [ccE, ccE_append m l k]
noncomputable def sinsertV (pc : PC) (sh : SHeap) (mp k x : SV) : Option SHeap :=
  match mp, k with
  | .map id, .int kd n => (smapOf sh id).bind fun es => match sfindD pc kd n es with
    | some none => some (sh.put id (some (.mp (es ++ [(.int kd n, x)]))))
    | _ => none
  | _, _ => none
theorem sinsertV_ok {pc : PC} (hp : m.σ.ok pc) {sh sh' : SHeap} {h : Heap} (H : HC m sh h) {mp k x : SV} (ha : sinsertV pc sh mp k x = some sh') :
    ∃ h', insertV h (mp.cc m) (k.cc m) (x.cc m) = some h' ∧ HC m sh' h' ∧ Fri m h h' := by
  unfold sinsertV at ha
  split at ha
  · rename_i id kd n
    simp only [Option.bind_eq_some_iff] at ha
    obtain ⟨es, he, ha⟩ := ha
    split at ha
    · rename_i hf
      cases ha
      have := sfindD_ok hp kd n es hf
      obtain ⟨a, b⟩ := H.put id (b := .mp (es ++ [(SV.int kd n, x)])) (c := .mp (ccE m (es ++ [(SV.int kd n, x)]))) rfl
      refine ⟨_, ?_, a, b⟩
      simp only [SV.cc, insertV, smapOf_ok H he, Option.bind_some, this, Option.map_none]
      rw [ccE_append]; rfl
    · cases ha
  · cases ha

end Gw
