/- Functions that are answered: those that turn nothing and give plain values. -/
import Derived.Test.YtjnhaaolbcmdbaaGreatDoorGwB3
import Derived.Test.YtjnhaaolbcmdbaaGreatDoorGwS8
namespace Gw
open Go Go.ChangeShapes Go.WideShapes Go.ChangeAt Go.RowKit

mutual
def V.flat : V → Bool
  | .ptr _ _ => false
  | .slice _ _ _ _ _ => false
  | .map _ => false
  | .func _ l => V.flats l
  | .iface _ v => V.flat v
  | .agg l => V.flats l
  | .tup l => V.flats l
  | _ => true
def V.flats : List V → Bool
  | [] => true
  | v :: l => V.flat v && V.flats l
end
mutual
theorem VR.flat {ρ ρ' : Rho} : ∀ (v : V) (x : Value), v.flat = true → VR ρ v x → VR ρ' v x
  | .bool _, _, _, h => h
  | .int _ _, _, _, h => h
  | .str _, _, _, h => h
  | .nilp, _, _, h => h
  | .ptr _ _, _, hf, _ => by simp [V.flat] at hf
  | .nils, _, _, h => h
  | .slice _ _ _ _ _, _, hf, _ => by simp [V.flat] at hf
  | .nilm, _, _, h => h
  | .map _, _, hf, _ => by simp [V.flat] at hf
  | .nilf, _, _, h => h
  | .func _ c, _, hf, h => by obtain ⟨a, h1, h2⟩ := h; exact ⟨a, h1, VRs.flat c a (by simpa [V.flat] using hf) h2⟩
  | .nili, _, _, h => h
  | .iface _ v, _, hf, h => by obtain ⟨y, h1, h2⟩ := h; exact ⟨y, h1, VR.flat v y (by simpa [V.flat] using hf) h2⟩
  | .agg l, _, hf, h => by obtain ⟨a, h1, h2⟩ := h; exact ⟨a, h1, VRs.flat l a (by simpa [V.flat] using hf) h2⟩
  | .tup l, _, hf, h => by obtain ⟨a, h1, h2⟩ := h; exact ⟨a, h1, VRs.flat l a (by simpa [V.flat] using hf) h2⟩
theorem VRs.flat {ρ ρ' : Rho} : ∀ (l : List V) (x : List Value), V.flats l = true → VRs ρ l x → VRs ρ' l x
  | [], _, _, h => h
  | v :: l, _, hf, h => by
    simp only [V.flats, Bool.and_eq_true] at hf
    obtain ⟨y, ys, h1, h2, h3⟩ := h; exact ⟨y, ys, h1, VR.flat v y hf.1 h2, VRs.flat l ys hf.2 h3⟩
end

theorem HR.below {B : Nat} {ρ : Rho} {h : Heap} {w w' : World} (H : HR B ρ h w) (hb : Below w.heap.size w w') : HR B ρ h w' :=
  { blk := fun i b hi => let ⟨L, h1, h2⟩ := H.blk i b hi; ⟨L, h1, h2.congr (hb.block _ (H.lt i L h1))⟩
    inj := H.inj
    new := H.new
    top := H.top
    lt := fun i L hL => Nat.lt_of_lt_of_le (H.lt i L hL) hb.size
    low := Nat.le_trans H.low hb.size }

/-- A memory of no block that is known. -/
def deadH : Heap := (((⟨.nil, 3⟩ : Heap).put 0 (some .dead)).put 1 (some .dead)).put 2 (some .dead)
theorem deadH_get (i : Nat) : deadH.get i = if i = 2 then some .dead else if i = 1 then some .dead else if i = 0 then some .dead else none := by
  simp only [deadH, Heap.get_put, Heap.nil_get]
theorem HR.dead {B : Nat} {ρ : Rho} {h : Heap} {w : World} (H : HR B ρ h w) (hG : GR ρ) :
    ∃ ρ0, GR ρ0 ∧ HR w.heap.size ρ0 deadH w := by
  have hd : ∀ i b, deadH.get i = some b → b = .dead ∧ i < 3 := by
    intro i b hb
    rw [deadH_get] at hb
    split at hb
    · cases hb; exact ⟨rfl, by omega⟩
    · split at hb
      · cases hb; exact ⟨rfl, by omega⟩
      · split at hb
        · cases hb; exact ⟨rfl, by omega⟩
        · cases hb
  refine ⟨fun i => if i < 3 then ρ i else none, fun g hg => ?_, ?_⟩
  · obtain ⟨z, hz⟩ := hG g hg
    have : g < 3 := hg
    exact ⟨z, by simp [this, hz]⟩
  · refine { blk := fun i b hb => ?_, inj := fun i j b c L M hi hj hn hr => ?_, new := fun i hi => ?_, top := fun i hi => ?_, lt := fun i L hL => ?_, low := Nat.le_refl _ }
    · obtain ⟨rfl, hlt⟩ := hd i b hb
      obtain ⟨z, hz⟩ := hG i hlt
      exact ⟨_, by simp only [if_pos hlt]; exact hz, trivial⟩
    · obtain ⟨rfl, _⟩ := hd i b hi
      simp [Blk.rw] at hr
    · by_cases hlt : i < 3
      · rw [deadH_get] at hi
        exfalso
        rcases (show i = 0 ∨ i = 1 ∨ i = 2 by omega) with rfl | rfl | rfl <;> simp at hi
      · simp [hlt]
    · rw [deadH_get]
      have : 3 ≤ i := hi
      simp [show i ≠ 2 by omega, show i ≠ 1 by omega, show i ≠ 0 by omega]
    · by_cases hlt : i < 3
      · simp only [if_pos hlt] at hL
        exact H.lt i L hL
      · simp [hlt] at hL

/-- The front of a row of bytes. -/
def preI : List Int → List V → Bool
  | [], _ => true
  | z :: zs, .int .u8 n :: l => n == z && preI zs l
  | _ :: _, _ => false
def preAt (h : Heap) (i : Nat) (zs : List Int) : Option Unit := (rowOf h i).bind fun l => if preI zs l then some () else none
def tabIn (k0 k1 k2 : List Int) (h : Heap) : Option Unit := (preAt h 0 k0).bind fun _ => (preAt h 1 k1).bind fun _ => preAt h 2 k2
theorem preI_get : ∀ (zs : List Int) (l : List V), preI zs l = true → ∀ (i : Nat) (z : Int), zs[i]? = some z → l[i]? = some (.int .u8 z)
  | [], _, _, i, z, h => by simp at h
  | a :: zs, l, hp, i, z, h => by
    cases l with
    | nil => simp [preI] at hp
    | cons v l =>
      cases v <;> (try (simp [preI] at hp; done))
      rename_i k n
      cases k <;> (try (simp [preI] at hp; done))
      simp only [preI, Bool.and_eq_true, beq_iff_eq] at hp
      cases i with
      | zero => simp at h; subst h; simp [hp.1]
      | succ i => simpa using preI_get zs l hp.2 i z (by simpa using h)
theorem preI_len : ∀ (zs : List Int) (l : List V), preI zs l = true → zs.length ≤ l.length
  | [], _, _ => by simp
  | a :: zs, l, hp => by
    cases l with
    | nil => simp [preI] at hp
    | cons v l =>
      cases v <;> (try (simp [preI] at hp; done))
      rename_i k n
      cases k <;> (try (simp [preI] at hp; done))
      simp only [preI, Bool.and_eq_true, beq_iff_eq] at hp
      simpa using preI_len zs l hp.2

/-- A table's block is named for its front. -/
structure TabP (w : World) (g : Nat) (zs : List Int) : Prop where
  t : ∃ c e fz, w.heap[g]? = some (.cells c e fz) ∧ zs.length ≤ c.size ∧ ∀ (i : Nat) (z : Int), zs[i]? = some z → c[i]? = some (.int .u8 z)

theorem TabP.of_pre {B : Nat} {ρ : Rho} {h : Heap} {w : World} (H : HR B ρ h w) (hG : GR ρ) {g : Nat} (hg : g < NG) {zs : List Int} (hp : preAt h g zs = some ()) : TabP w g zs := by
  simp only [preAt, Option.bind_eq_some_iff] at hp
  obtain ⟨l, hl, hp⟩ := hp
  split at hp
  · rename_i hpre
    unfold rowOf at hl
    split at hl
    · rename_i ro l0 hget
      cases hl
      obtain ⟨L, hL, c, e, fz, h1, h2, h3, h4, _⟩ := H.blk g _ hget
      obtain ⟨z, hz⟩ := hG g hg
      rw [hz] at hL
      cases hL
      have hlen := preI_len zs l hpre
      refine ⟨c, e, fz, h1, ?_, fun i n hi => ?_⟩
      · simp only at h2 h3; omega
      · obtain ⟨x, hx, hv⟩ := h4 i _ (preI_get zs l hpre i n hi)
        simp only [VR] at hv
        rw [hv] at hx
        simpa using hx
    · cases hl
  · cases hp
theorem TabP.of_eq {w : World} {g : Nat} {zs : List Int} (h : ∃ c e fz, w.heap[g]? = some (.cells c e fz) ∧ c.toList = zs.map (Value.int .u8)) : TabP w g zs := by
  obtain ⟨c, e, fz, h1, h2⟩ := h
  have hs : c.size = zs.length := by have := congrArg List.length h2; simpa using this
  refine ⟨c, e, fz, h1, by omega, fun i z hz => ?_⟩
  have : c.toList[i]? = some (.int .u8 z) := by rw [h2]; simp [hz]
  simpa using this

theorem HR.tabsP {w : World} {k0 k1 k2 : List Int} (T0 : TabP w 0 k0) (T1 : TabP w 1 k1) (T2 : TabP w 2 k2) (B : Nat) (hB : B ≤ w.heap.size) (n : Nat) (hn : 3 ≤ n) :
    ∃ ρ, GR ρ ∧ (∀ i, 3 ≤ i → ρ i = none) ∧ HR B ρ (tabH k0 k1 k2 n) w ∧ (tabH k0 k1 k2 n).RO := by
  obtain ⟨c0, e0, f0, a0, s0, b0⟩ := T0
  obtain ⟨c1, e1, f1, a1, s1, b1⟩ := T1
  obtain ⟨c2, e2, f2, a2, s2, b2⟩ := T2
  have cr : ∀ {ρ : Rho} {zs : List Int} {c : Array Value}, (∀ (i : Nat) (z : Int), zs[i]? = some z → c[i]? = some (.int .u8 z)) → CR ρ (zsV .u8 zs) c 0 := by
    intro ρ zs c hc i v hv
    rw [zsV_eq, List.getElem?_map, Option.map_eq_some_iff] at hv
    obtain ⟨z, hz, rfl⟩ := hv
    exact ⟨.int .u8 z, by simpa using hc i z hz, rfl⟩
  have R0 := Heap.RO.nil n
  have R1 := R0.put 0 (zsV .u8 k0)
  have R2 := R1.put 1 (zsV .u8 k1)
  have R3 := R2.put 2 (zsV .u8 k2)
  have no : ∀ {h : Heap} {ρ : Rho} {L : Loc}, h.RO → ∀ j b M, h.get j = some b → b.rw = true → ρ j = some M → M.b ≠ L.b := by
    intro h ρ L R j b M hj hb
    rw [R j b hj] at hb; cases hb
  obtain ⟨l0, H0⟩ := (HR.nil B w hB n).name (i := 0) (L := ⟨0, 0, c0.size⟩) (l := zsV .u8 k0) (by show 0 < n; omega) (Heap.nil_get n 0) (lt_of_heap a0) a0 rfl (by simp [zsV_eq, s0]) (cr b0) (no R0)
  obtain ⟨l1, H1⟩ := H0.name (i := 1) (L := ⟨1, 0, c1.size⟩) (l := zsV .u8 k1) (by show 1 < n; omega) (by rw [Heap.get_put_ne _ _ _ _ (by decide)]; exact Heap.nil_get n 1) (lt_of_heap a1) a1 rfl (by simp [zsV_eq, s1]) (cr b1) (no R1)
  obtain ⟨l2, H2⟩ := H1.name (i := 2) (L := ⟨2, 0, c2.size⟩) (l := zsV .u8 k2) (by show 2 < n; omega) (by rw [Heap.get_put_ne _ _ _ _ (by decide), Heap.get_put_ne _ _ _ _ (by decide)]; exact Heap.nil_get n 2) (lt_of_heap a2) a2 rfl (by simp [zsV_eq, s2]) (cr b2) (no R2)
  refine ⟨_, ?_, ?_, H2, R3⟩
  · intro g hg
    match g, hg with
    | 0, _ => exact ⟨c0.size, rfl⟩
    | 1, _ => exact ⟨c1.size, rfl⟩
    | 2, _ => exact ⟨c2.size, rfl⟩
  · intro i hi
    simp [show i ≠ 0 by omega, show i ≠ 1 by omega, show i ≠ 2 by omega]

/-- What a run of its own says of a call in any memory, where arguments and answer are plain. -/
theorem pure_call {P : Program} (hm : P.follows .mixedOrders = true) {X : Ext} (hX : ExtS P X) {D : Nat → Option DF} (hD : Tab P D) {f n : Nat} {args : List V} {r : V} {hb h1 : Heap}
    (hrun : callN X D n f args hb = some (r, h1)) (ha : V.flats args = true) (hr : r.flat = true)
    {B : Nat} {ρ ρ0 : Rho} {h : Heap} {w : World} {xs : List Value} (hG0 : GR ρ0) (H0 : HR w.heap.size ρ0 hb w) (hv : VRs ρ args xs) (H : HR B ρ h w) :
    (∃ fn, P.funcs[f]? = some fn ∧ fn.name ≠ "runtime.NumGoroutine" ∧ fn.body.isSome = true) ∧
    Calls P f xs.toArray w fun e w' => ∃ x ρ', e = .returned x ∧ Le ρ ρ' ∧ VR ρ' r x ∧ HR B ρ' h w' ∧ Below B w w' := by
  obtain ⟨h2, h3⟩ := sd_call hm hX hD n f args hb r h1 hrun
  refine ⟨h2, (h3 w.heap.size ρ0 xs w hG0 (VRs.flat _ _ ha hv) H0).mono fun e w' ⟨x, ρ', e1, _, e3, _, e5⟩ => ⟨x, ρ, e1, Le.refl _, VR.flat _ _ hr e3, H.below e5, e5.mono H.low⟩⟩

/-- One that only says true, if the tables are there. -/
def gTrue (k0 k1 k2 : List Int) (args : List V) (h : Heap) : Option (V × Heap) :=
  match args with
  | [] => (tabIn k0 k1 k2 h).bind fun _ => some (.bool true, h)
  | _ => none
theorem FrR.bindR {α β : Type} {F : Heap → Option α} (hF : FrR F) {g : α → Heap → Option β} (hg : ∀ a, FrR (g a)) : FrR fun h => (F h).bind fun a => g a h := by
  intro h r hr i b hf
  simp only [Option.bind_eq_some_iff] at hr ⊢
  obtain ⟨a, h1, h2⟩ := hr
  exact ⟨a, hF h a h1 i b hf, hg a h r h2 i b hf⟩
theorem fr_preAt (i : Nat) (zs : List Int) : FrR fun h => preAt h i zs := (fr_rowOf i).bind _
theorem fr_gTrue (k0 k1 k2 : List Int) (args : List V) : FrM (gTrue k0 k1 k2 args) := by
  cases args with
  | nil => exact FrR.bindM (g := fun _ h => some (V.bool true, h)) ((fr_preAt 0 k0).bindR (g := fun _ h => (preAt h 1 k1).bind fun _ => preAt h 2 k2) fun _ => (fr_preAt 1 k1).bindR (g := fun _ h => preAt h 2 k2) fun _ => fr_preAt 2 k2) fun _ => FrM.same _
  | cons a l => exact FrM.none

theorem gTrue_ok {P : Program} (hm : P.follows .mixedOrders = true) {X : Ext} (hX : ExtS P X) {D : Nat → Option DF} (hD : Tab P D) {f n : Nat} {k0 k1 k2 : List Int} {h1 : Heap}
    (hrun : callN X D n f [] (tabH k0 k1 k2 3) = some (.bool true, h1)) : ∀ args h r h', gTrue k0 k1 k2 args h = some (r, h') →
    (∃ fn, P.funcs[f]? = some fn ∧ fn.name ≠ "runtime.NumGoroutine" ∧ fn.body.isSome = true) ∧
    ∀ (B : Nat) (ρ : Rho) (xs : List Value) (w : World), GR ρ → VRs ρ args xs → HR B ρ h w →
      Calls P f xs.toArray w fun e w' => ∃ x ρ', e = .returned x ∧ Le ρ ρ' ∧ VR ρ' r x ∧ HR B ρ' h' w' ∧ Below B w w' := by
  intro args h r h' hg
  unfold gTrue at hg
  split at hg
  · simp only [Option.bind_eq_some_iff, Option.some.injEq, Prod.mk.injEq] at hg
    obtain ⟨_, ht, rfl, rfl⟩ := hg
    refine ⟨(sd_call hm hX hD n f [] _ _ _ hrun).1, fun B ρ xs w hG hv H => ?_⟩
    simp only [tabIn, Option.bind_eq_some_iff] at ht
    obtain ⟨_, t0, _, t1, t2⟩ := ht
    obtain ⟨ρ0, g0, _, H0, _⟩ := HR.tabsP (TabP.of_pre H hG (by decide) t0) (TabP.of_pre H hG (by decide) t1) (TabP.of_pre H hG (by decide) t2) w.heap.size (Nat.le_refl _) 3 (Nat.le_refl _)
    exact (pure_call hm hX hD hrun rfl rfl g0 H0 hv H).2
  · cases hg

/-- The same of symbols. -/
def spreI : List Int → List SV → Bool
  | [], _ => true
  | z :: zs, .int .u8 (.c n) :: l => n == z && spreI zs l
  | _ :: _, _ => false
theorem spreI_ok (m : Mn) : ∀ (zs : List Int) (l : List SV) (l' : List V), spreI zs l = true → preI zs (SV.ccs m l ++ l') = true
  | [], _, _, _ => by simp [preI]
  | z :: zs, l, l', h => by
    cases l with
    | nil => simp [spreI] at h
    | cons v l =>
      cases v <;> (try (simp [spreI] at h; done))
      rename_i k n
      cases k <;> (try (simp [spreI] at h; done))
      cases n <;> (try (simp [spreI] at h; done))
      simp only [spreI, Bool.and_eq_true] at h
      simp only [SV.ccs, SV.cc, IT.ev, List.cons_append, preI, Bool.and_eq_true]
      exact ⟨h.1, spreI_ok m zs l l' h.2⟩
noncomputable def spreAt (sh : SHeap) (i : Nat) (zs : List Int) : Bool := match srow sh i with | some l => spreI zs l | none => false
theorem spreAt_ok {m : Mn} {sh : SHeap} {h : Heap} (H : HC m sh h) {i : Nat} (hi : i < NG) {zs : List Int} (hp : spreAt sh i zs = true) : preAt h i zs = some () := by
  unfold spreAt at hp
  split at hp
  · rename_i l hl
    obtain ⟨l', h1⟩ := srow_ok H hl
    rw [m.gl i hi] at h1
    simp only [preAt, h1, Option.bind_some, spreI_ok m zs l l' hp, if_true]
  · cases hp
noncomputable def sgTrue (k0 k1 k2 : List Int) (args : List SV) (pc : PC) (sh : SHeap) : R (SV × SHeap) :=
  match args with
  | [] => if spreAt sh 0 k0 && (spreAt sh 1 k1 && spreAt sh 2 k2) then rOne pc (.bool (.c true), sh) else rNo
  | _ => rNo
theorem sgTrue_ok (k0 k1 k2 : List Int) (m : Mn) (args : List SV) (pc : PC) (sh : SHeap) (h : Heap) (hp : m.σ.ok pc) (H : HC m sh h) :
    Snd m.σ (sgTrue k0 k1 k2 args pc sh) fun p => ∃ h', gTrue k0 k1 k2 (SV.ccs m args) h = some (p.1.cc m, h') ∧ HC m p.2 h' ∧ Fri m h h' := by
  unfold sgTrue
  split
  · split
    · rename_i hc
      simp only [Bool.and_eq_true] at hc
      refine Snd.one hp ⟨h, ?_, H, Fri.refl _ _⟩
      simp only [SV.ccs, gTrue, tabIn, spreAt_ok H (show 0 < NG by decide) hc.1, spreAt_ok H (show 1 < NG by decide) hc.2.1, spreAt_ok H (show 2 < NG by decide) hc.2.2, Option.bind_some, SV.cc, BT.ev]
    · exact Snd.none
  · exact Snd.none

end Gw
namespace Gw
open Go Go.ChangeShapes Go.WideShapes Go.ChangeAt Go.RowKit

def szsV (k : IntKind) : List Int → List SV
  | [] => []
  | n :: l => .int k (.c n) :: szsV k l
theorem szsV_ok (m : Mn) (k : IntKind) : ∀ l, SV.ccs m (szsV k l) = zsV k l
  | [] => rfl
  | n :: l => by simp only [szsV, SV.ccs, SV.cc, IT.ev, zsV, szsV_ok m k l]
theorem SHeap.nil_get (n i : Nat) : (⟨.nil, n⟩ : SHeap).get i = none := Tri.get_nil _
def stabH (k0 k1 k2 : List Int) (n : Nat) : SHeap := (((⟨.nil, n⟩ : SHeap).put 0 (some (.cells true (szsV .u8 k0)))).put 1 (some (.cells true (szsV .u8 k1)))).put 2 (some (.cells true (szsV .u8 k2)))
/-- Names as they are. -/
def mnId (σ : Val) : Mn := ⟨σ, id, fun _ _ => rfl, fun _ _ h => h⟩
theorem HC.nil (σ : Val) (n : Nat) : HC (mnId σ) ⟨.nil, n⟩ ⟨.nil, n⟩ :=
  { blk := fun i b h => by rw [SHeap.nil_get] at h; cases h
    non := fun i _ => Heap.nil_get n _
    n := fun k => rfl }
theorem HC.tabs (σ : Val) (k0 k1 k2 : List Int) (n : Nat) : HC (mnId σ) (stabH k0 k1 k2 n) (tabH k0 k1 k2 n) := by
  have pr : ∀ zs : List Int, BC (mnId σ) (.cells true (szsV .u8 zs)) (some (.cells true (zsV .u8 zs))) := fun zs => ⟨[], by rw [szsV_ok]; simp⟩
  exact ((((HC.nil σ n).put 0 (pr k0)).1.put 1 (pr k1)).1.put 2 (pr k2)).1
end Gw
