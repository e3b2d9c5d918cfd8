/- Functions that are answered: those that turn nothing and give plain values. -/
import Derived.Test.YtkehghjhbfoooaaGreatDoorGxB3
import Derived.Test.YtkehghjhbfoooaaGreatDoorGxT5
noncomputable section
namespace Gw
open Go Go.ChangeShapes Go.WideShapes Go.ChangeAt Go.RowKit

theorem BR.congrF {B : Nat → Prop} {ρ : Rho} {L : Loc} {w w' : World} {b : Blk} (h : BR B ρ L w b) (hlt : ∀ F, Foot w L b F → b ≠ .dead → ∀ k ∈ F, w'.heap[k]? = w.heap[k]?) : BR B ρ L w' b := by
  cases b with
  | obj x =>
    obtain ⟨F, h1, h2⟩ := h
    exact ⟨F, h1.congr (hlt F h1 (by intro e; cases e)), h2⟩
  | cells ro l => exact h.congr rfl (hlt [L.b] rfl (by intro e; cases e) L.b (by simp))
  | iter s p => exact h.congr rfl (hlt [L.b] rfl (by intro e; cases e) L.b (by simp))
  | mp es => exact h.congr rfl (hlt [L.b] rfl (by intro e; cases e) L.b (by simp))
  | dead => trivial
/-- Nothing is turned that is there. -/
theorem HR.below {B : Nat → Prop} {ρ : Rho} {h : Heap} {w w' : World} (H : HR B ρ h w) (hb : Below w.heap.size w w') : HR B ρ h w' := by
  have ft : ∀ i b L, h.get i = some b → ρ i = some L → b ≠ .dead → ∀ F, Foot w L b F → ∀ k ∈ F, w'.heap[k]? = w.heap[k]? := by
    intro i b L hi hL hd F hF k hk
    obtain ⟨F', h1, h2, _⟩ := H.foot hi hL
    have : F = F' := hF.congr (fun _ _ => rfl) h1
    subst this
    exact hb.block k (h2 hd k hk)
  refine { blk := fun i b hi => ?_, inj := fun i j b c L M hi hj hn hbw hcd h1 h2 F G hF hG => ?_, new := H.new, top := H.top, lt := fun i L hL => Nat.lt_of_lt_of_le (H.lt i L hL) hb.size, low := fun k hk => Nat.lt_of_lt_of_le (H.low k hk) hb.size }
  · obtain ⟨L, h1, h2⟩ := H.blk i b hi
    exact ⟨L, h1, h2.congrF fun F hF hd => ft i b L hi h1 hd F hF⟩
  · have hbd : b ≠ .dead := by intro e; subst e; cases hbw
    obtain ⟨F', f1, f2, _⟩ := H.foot hi h1
    obtain ⟨G', g1, g2, _⟩ := H.foot hj h2
    have e1 : F' = F := f1.congr (fun k hk => ft i b L hi h1 hbd F' f1 k hk) hF
    have e2 : G' = G := g1.congr (fun k hk => ft j c M hj h2 hcd G' g1 k hk) hG
    subst e1 e2
    exact H.inj i j b c L M hi hj hn hbw hcd h1 h2 F' G' f1 g1

def roRow (h : Heap) (i : Nat) : Option (List V) := match h.get i with
  | some (.cells _ l) => some l
  | _ => none
theorem fr_roRow (id : Nat) : FrR fun h => roRow h id := by
  intro h r hr i b hf
  simp only [roRow] at hr ⊢
  cases hg : h.get id with
  | none => rw [hg] at hr; cases hr
  | some x => rw [Heap.get_put_ne _ _ _ _ (get_ne hf hg), hg]; rw [hg] at hr; exact hr

/-- The front of a row of bytes. -/
def preI : List Int → List V → Bool
  | [], _ => true
  | z :: zs, .int .u8 n :: l => n == z && preI zs l
  | _ :: _, _ => false
def preAt (h : Heap) (i : Nat) (zs : List Int) : Option Unit := (roRow h i).bind fun l => if preI zs l then some () else none
def tabIn (k0 k1 k2 : List Int) (h : Heap) : Option Unit := (preAt h 0 k0).bind fun _ => (preAt h 1 k1).bind fun _ => preAt h 2 k2
theorem preI_get : ∀ (zs : List Int) (l : List V), preI zs l = true → ∀ (i : Nat) (z : Int), zs[i]? = some z → l[i]? = some (.int .u8 z)
  | [], _, _, i, z, h => by simp at h
  | a :: zs, l, hp, i, z, h => by
    cases l with
    | nil => simp [preI] at hp
    | cons v l =>
      cases v <;> (try (simp [preI] at hp; done))
      rename_i k n
      cases k <;> (try (simp [preI] at hp; done))
      simp only [preI, Bool.and_eq_true, beq_iff_eq] at hp
      cases i with
      | zero => simp at h; subst h; simp [hp.1]
      | succ i => simpa using preI_get zs l hp.2 i z (by simpa using h)
theorem preI_len : ∀ (zs : List Int) (l : List V), preI zs l = true → zs.length ≤ l.length
  | [], _, _ => by simp
  | a :: zs, l, hp => by
    cases l with
    | nil => simp [preI] at hp
    | cons v l =>
      cases v <;> (try (simp [preI] at hp; done))
      rename_i k n
      cases k <;> (try (simp [preI] at hp; done))
      simp only [preI, Bool.and_eq_true, beq_iff_eq] at hp
      simpa using preI_len zs l hp.2

/-- A table's block is named for its front. -/
structure TabP (w : World) (g : Nat) (zs : List Int) : Prop where
  t : ∃ c e fz, w.heap[g]? = some (.cells c e fz) ∧ zs.length ≤ c.size ∧ ∀ (i : Nat) (z : Int), zs[i]? = some z → c[i]? = some (.int .u8 z)

theorem TabP.of_pre {B : Nat → Prop} {ρ : Rho} {h : Heap} {w : World} (H : HR B ρ h w) (hG : GR ρ) {g : Nat} (hg : g < NG) {zs : List Int} (hp : preAt h g zs = some ()) : TabP w g zs := by
  simp only [preAt, Option.bind_eq_some_iff] at hp
  obtain ⟨l, hl, hp⟩ := hp
  split at hp
  · rename_i hpre
    unfold roRow at hl
    split at hl
    · rename_i ro l0 hget
      cases hl
      obtain ⟨L, hL, c, e, fz, h1, h2, h3, h4, _⟩ := H.blk g _ hget
      obtain ⟨z, hz⟩ := hG g hg
      rw [hz] at hL
      cases hL
      have hlen := preI_len zs l hpre
      refine ⟨c, e, fz, h1, ?_, fun i n hi => ?_⟩
      · simp only at h2 h3; omega
      · obtain ⟨x, hx, hv⟩ := h4 i _ (preI_get zs l hpre i n hi)
        simp only [VR] at hv
        rw [hv] at hx
        simpa using hx
    · cases hl
  · cases hp
theorem TabP.of_eq {w : World} {g : Nat} {zs : List Int} (h : ∃ c e fz, w.heap[g]? = some (.cells c e fz) ∧ c.toList = zs.map (Value.int .u8)) : TabP w g zs := by
  obtain ⟨c, e, fz, h1, h2⟩ := h
  have hs : c.size = zs.length := by have := congrArg List.length h2; simpa using this
  refine ⟨c, e, fz, h1, by omega, fun i z hz => ?_⟩
  have : c.toList[i]? = some (.int .u8 z) := by rw [h2]; simp [hz]
  simpa using this

theorem HR.tabsP {w : World} {k0 k1 k2 : List Int} (T0 : TabP w 0 k0) (T1 : TabP w 1 k1) (T2 : TabP w 2 k2) (B : Nat → Prop) (hB : ∀ k, B k → k < w.heap.size) (n : Nat) (hn : 3 ≤ n) :
    ∃ ρ, GR ρ ∧ (∀ i, 3 ≤ i → ρ i = none) ∧ HR B ρ (tabH k0 k1 k2 n) w ∧ (tabH k0 k1 k2 n).RO := by
  obtain ⟨c0, e0, f0, a0, s0, b0⟩ := T0
  obtain ⟨c1, e1, f1, a1, s1, b1⟩ := T1
  obtain ⟨c2, e2, f2, a2, s2, b2⟩ := T2
  have cr : ∀ {ρ : Rho} {zs : List Int} {c : Array Value}, (∀ (i : Nat) (z : Int), zs[i]? = some z → c[i]? = some (.int .u8 z)) → CR ρ (zsV .u8 zs) c 0 := by
    intro ρ zs c hc i v hv
    rw [zsV_eq, List.getElem?_map, Option.map_eq_some_iff] at hv
    obtain ⟨z, hz, rfl⟩ := hv
    exact ⟨.int .u8 z, by simpa using hc i z hz, rfl⟩
  have R0 := Heap.RO.nil n
  have R1 := R0.put 0 (zsV .u8 k0)
  have R2 := R1.put 1 (zsV .u8 k1)
  have R3 := R2.put 2 (zsV .u8 k2)
  obtain ⟨l0, H0⟩ := (HR.nil B w hB n).name R0 (i := 0) (L := ⟨0, 0, c0.size⟩) (l := zsV .u8 k0) (by show 0 < n; omega) (Heap.nil_get n 0) (lt_of_heap a0) a0 rfl (by simp [zsV_eq, s0]) (cr b0)
  obtain ⟨l1, H1⟩ := H0.name R1 (i := 1) (L := ⟨1, 0, c1.size⟩) (l := zsV .u8 k1) (by show 1 < n; omega) (by rw [Heap.get_put_ne _ _ _ _ (by decide)]; exact Heap.nil_get n 1) (lt_of_heap a1) a1 rfl (by simp [zsV_eq, s1]) (cr b1)
  obtain ⟨l2, H2⟩ := H1.name R2 (i := 2) (L := ⟨2, 0, c2.size⟩) (l := zsV .u8 k2) (by show 2 < n; omega) (by rw [Heap.get_put_ne _ _ _ _ (by decide), Heap.get_put_ne _ _ _ _ (by decide)]; exact Heap.nil_get n 2) (lt_of_heap a2) a2 rfl (by simp [zsV_eq, s2]) (cr b2)
  refine ⟨_, ?_, ?_, H2, R3⟩
  · intro g hg
    match g, hg with
    | 0, _ => exact ⟨c0.size, rfl⟩
    | 1, _ => exact ⟨c1.size, rfl⟩
    | 2, _ => exact ⟨c2.size, rfl⟩
  · intro i hi
    simp [show i ≠ 0 by omega, show i ≠ 1 by omega, show i ≠ 2 by omega]

/-- What a run of its own says of a call in any memory, where arguments and answer are plain. -/
theorem pure_call {P : Program} (hm : P.follows .mixedOrders = true) {X : Ext} (hX : ExtS P X) {D : Nat → Option DF} (hD : Tab P D) {f n : Nat} {args : List V} {r : V} {hb h1 : Heap}
    (hrun : callN X D n f args hb = some (r, h1)) (ha : V.flats args = true) (hr : r.flat = true)
    {B : Nat → Prop} {ρ ρ0 : Rho} {h : Heap} {w : World} {xs : List Value} (hG0 : GR ρ0) (H0 : HR (fun k => k < w.heap.size) ρ0 hb w) (hv : VRs ρ args xs) (H : HR B ρ h w) :
    (∃ fn, P.funcs[f]? = some fn ∧ fn.name ≠ "runtime.NumGoroutine" ∧ fn.body.isSome = true) ∧
    Calls P f xs.toArray w fun e w' => ∃ x ρ', e = .returned x ∧ Le ρ ρ' ∧ VR ρ' r x ∧ HR B ρ' h w' ∧ Keeps B w w' := by
  obtain ⟨h2, h3⟩ := sd_call hm hX hD n f args hb r h1 hrun
  refine ⟨h2, (h3 (fun k => k < w.heap.size) ρ0 xs w hG0 (VRs.flat _ _ ha hv) H0).mono fun e w' ⟨x, ρ', e1, _, e3, _, e5⟩ => ⟨x, ρ, e1, Le.refl _, VR.flat _ _ hr e3, H.below e5.below, e5.mono fun k hk => H.low k hk⟩⟩

/-- One that only says true, if the tables are there. -/
def gTrue (k0 k1 k2 : List Int) (args : List V) (h : Heap) : Option (V × Heap) :=
  match args with
  | [] => (tabIn k0 k1 k2 h).bind fun _ => some (.bool true, h)
  | _ => none
theorem FrR.bindR {α β : Type} {F : Heap → Option α} (hF : FrR F) {g : α → Heap → Option β} (hg : ∀ a, FrR (g a)) : FrR fun h => (F h).bind fun a => g a h := by
  intro h r hr i b hf
  simp only [Option.bind_eq_some_iff] at hr ⊢
  obtain ⟨a, h1, h2⟩ := hr
  exact ⟨a, hF h a h1 i b hf, hg a h r h2 i b hf⟩
theorem fr_preAt (i : Nat) (zs : List Int) : FrR fun h => preAt h i zs := (fr_roRow i).bind _
theorem fr_gTrue (k0 k1 k2 : List Int) (args : List V) : FrM (gTrue k0 k1 k2 args) := by
  cases args with
  | nil => exact FrR.bindM (g := fun _ h => some (V.bool true, h)) ((fr_preAt 0 k0).bindR (g := fun _ h => (preAt h 1 k1).bind fun _ => preAt h 2 k2) fun _ => (fr_preAt 1 k1).bindR (g := fun _ h => preAt h 2 k2) fun _ => fr_preAt 2 k2) fun _ => FrM.same _
  | cons a l => exact FrM.none

theorem gTrue_ok {P : Program} (hm : P.follows .mixedOrders = true) {X : Ext} (hX : ExtS P X) {D : Nat → Option DF} (hD : Tab P D) {f n : Nat} {k0 k1 k2 : List Int} {h1 : Heap}
    (hrun : callN X D n f [] (tabH k0 k1 k2 3) = some (.bool true, h1)) : ∀ args h r h', gTrue k0 k1 k2 args h = some (r, h') →
    (∃ fn, P.funcs[f]? = some fn ∧ fn.name ≠ "runtime.NumGoroutine" ∧ fn.body.isSome = true) ∧
    ∀ (B : Nat → Prop) (ρ : Rho) (xs : List Value) (w : World), GR ρ → VRs ρ args xs → HR B ρ h w →
      Calls P f xs.toArray w fun e w' => ∃ x ρ', e = .returned x ∧ Le ρ ρ' ∧ VR ρ' r x ∧ HR B ρ' h' w' ∧ Keeps B w w' := by
  intro args h r h' hg
  unfold gTrue at hg
  split at hg
  · simp only [Option.bind_eq_some_iff, Option.some.injEq, Prod.mk.injEq] at hg
    obtain ⟨_, ht, rfl, rfl⟩ := hg
    refine ⟨(sd_call hm hX hD n f [] _ _ _ hrun).1, fun B ρ xs w hG hv H => ?_⟩
    simp only [tabIn, Option.bind_eq_some_iff] at ht
    obtain ⟨_, t0, _, t1, t2⟩ := ht
    obtain ⟨ρ0, g0, _, H0, _⟩ := HR.tabsP (TabP.of_pre H hG (by decide) t0) (TabP.of_pre H hG (by decide) t1) (TabP.of_pre H hG (by decide) t2) (fun k => k < w.heap.size) (fun _ h => h) 3 (Nat.le_refl _)
    exact (pure_call hm hX hD hrun rfl rfl g0 H0 hv H).2
  · cases hg

end Gw
