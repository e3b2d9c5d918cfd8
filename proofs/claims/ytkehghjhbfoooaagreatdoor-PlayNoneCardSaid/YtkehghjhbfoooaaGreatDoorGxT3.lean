/- What was opened is closed. -/
import Derived.Test.YtkehghjhbfoooaaGreatDoorGxT2
noncomputable section
namespace Gw
open Go Go.RowKit

mutual
def V.flat : V → Bool
  | .ptr _ _ => false
  | .slice _ _ _ _ _ => false
  | .map _ => false
  | .func _ l => V.flats l
  | .iface _ v => V.flat v
  | .agg l => V.flats l
  | .tup l => V.flats l
  | _ => true
def V.flats : List V → Bool
  | [] => true
  | v :: l => V.flat v && V.flats l
end
mutual
theorem VR.flat {ρ ρ' : Rho} : ∀ (v : V) (x : Value), v.flat = true → VR ρ v x → VR ρ' v x
  | .bool _, _, _, h => h
  | .int _ _, _, _, h => h
  | .str _, _, _, h => h
  | .nilp, _, _, h => h
  | .ptr _ _, _, hf, _ => by simp [V.flat] at hf
  | .nils, _, _, h => h
  | .slice _ _ _ _ _, _, hf, _ => by simp [V.flat] at hf
  | .nilm, _, _, h => h
  | .map _, _, hf, _ => by simp [V.flat] at hf
  | .nilf, _, _, h => h
  | .func _ c, _, hf, h => by obtain ⟨a, h1, h2⟩ := h; exact ⟨a, h1, VRs.flat c a (by simpa [V.flat] using hf) h2⟩
  | .nili, _, _, h => h
  | .iface _ v, _, hf, h => by obtain ⟨y, h1, h2⟩ := h; exact ⟨y, h1, VR.flat v y (by simpa [V.flat] using hf) h2⟩
  | .agg l, _, hf, h => by obtain ⟨a, h1, h2⟩ := h; exact ⟨a, h1, VRs.flat l a (by simpa [V.flat] using hf) h2⟩
  | .tup l, _, hf, h => by
    rcases h with h | ⟨a, h1, h2⟩
    · exact .inl h
    · exact .inr ⟨a, h1, VRs.flat l a (by simpa [V.flat] using hf) h2⟩
theorem VRs.flat {ρ ρ' : Rho} : ∀ (l : List V) (x : List Value), V.flats l = true → VRs ρ l x → VRs ρ' l x
  | [], _, _, h => h
  | v :: l, _, hf, h => by
    simp only [V.flats, Bool.and_eq_true] at hf
    obtain ⟨y, ys, h1, h2, h3⟩ := h; exact ⟨y, ys, h1, VR.flat v y hf.1 h2, VRs.flat l ys hf.2 h3⟩
end

/-- The row of a block that is read and written, or of a plain thing. -/
def rowP (h : Heap) (j : Nat) : Option (List V) :=
  match h.get j with
  | some (.cells false l) => some l
  | some (.obj y) => y.row
  | _ => none
/-- So many cells of a block from a place on are a plain thing's; or the block is the thing. -/
def SubB (h : Heap) (j off n : Nat) (y : Ob) : Prop :=
  (∃ l r, rowP h j = some l ∧ y.row = some r ∧ (l.drop off).take n = r ∧ r.length = n ∧ V.flats r = true) ∨ (off = 0 ∧ h.get j = some (.obj y) ∧ y.enc.length = n)
/-- Cells are a thing's; its parts lie under these names. -/
def closeOk (h : Heap) : List V → List Ce → List Nat → Prop
  | [], [], ids => ids = []
  | v :: vs, .v u :: cs, ids => v = u ∧ u.flat = true ∧ closeOk h vs cs ids
  | v :: vs, .p y :: cs, ids => ∃ j ids', ids = j :: ids' ∧ v = .ptr j 0 ∧ h.get j = some (.obj y) ∧ closeOk h vs cs ids'
  | v :: vs, .s y m e :: cs, ids => ∃ j off c ids', ids = j :: ids' ∧ v = .slice j off m e c ∧ SubB h j off (m * e) y ∧ closeOk h vs cs ids'
  | _, _, _ => False
def killAll (h : Heap) : List Nat → Heap
  | [] => h
  | j :: l => killAll (h.put j (some .dead)) l
theorem killAll_n : ∀ (l : List Nat) (h : Heap), (killAll h l).n = h.n
  | [], _ => rfl
  | _ :: l, h => by simp only [killAll]; rw [killAll_n l]; rfl
theorem killAll_get : ∀ (l : List Nat) (h : Heap) (i : Nat), (killAll h l).get i = if i ∈ l then some .dead else h.get i
  | [], h, i => by simp [killAll]
  | j :: l, h, i => by
    simp only [killAll]
    rw [killAll_get l, Heap.get_put]
    by_cases h1 : i ∈ l
    · simp [h1]
    · by_cases h2 : i = j
      · simp [h2]
      · simp [h1, h2]
/-- Memory in which a thing has been closed. -/
def closeAt (h : Heap) (i : Nat) (x : Ob) (ids : List Nat) : Heap := killAll (h.put i (some (.obj x))) ids

theorem repCs_of_row {R : Ob → Loc → List Nat → Prop} : ∀ (r : List V) (xs : List Value), V.flats r = true → (∀ (k : Nat) (v : V), r[k]? = some v → ∃ ρ : Rho, ∃ x, xs[k]? = some x ∧ VR ρ v x) → RepCs R (r.map Ce.v) xs []
  | [], _, _, _ => rfl
  | v :: r, xs, hf, h => by
    simp only [V.flats, Bool.and_eq_true] at hf
    obtain ⟨ρ, x, hx, hv⟩ := h 0 v (by simp)
    cases xs with
    | nil => simp at hx
    | cons x' xs =>
      simp at hx; subst hx
      exact ⟨x', xs, [], [], rfl, rfl, ⟨VR.flat v x' hf.1 hv, rfl⟩, repCs_of_row r xs hf.2 fun k u hk => by obtain ⟨ρ, y, hy, hr⟩ := h (k + 1) u (by simpa using hk); exact ⟨ρ, y, by simpa using hy, hr⟩, fun k hk => by cases hk⟩

theorem repCs_depth {w : World} : ∀ {cs : List Ce} {xs : List Value} {F : List Nat}, RepCs (Rep w) cs xs F → ∃ d, RepCs (RepD w d) cs xs F
  | [], _, _, h => ⟨0, h⟩
  | ce :: cs, _, _, ⟨x, xs', G1, G2, h1, h2, h3, h4, h5⟩ => by
    obtain ⟨d2, g2⟩ := repCs_depth h4
    have : ∃ d1, RepC (RepD w d1) ce x G1 := by
      cases ce with
      | v u => exact ⟨0, h3⟩
      | p y => obtain ⟨L, e1, d, e2⟩ := h3; exact ⟨d, L, e1, e2⟩
      | s y m e => obtain ⟨L, a, k, e1, e2, e3, e4, e5, e6, d, e7⟩ := h3; exact ⟨d, L, a, k, e1, e2, e3, e4, e5, e6, e7⟩
    obtain ⟨d1, g1⟩ := this
    exact ⟨max d1 d2, x, xs', G1, G2, h1, h2, g1.mono fun _ _ _ h => h.le (Nat.le_max_left _ _), g2.mono fun _ _ _ h => h.le (Nat.le_max_right _ _), h5⟩

theorem repCs_flatG {R : Ob → Loc → List Nat → Prop} : ∀ {l : List V} {xs : List Value} {G : List Nat}, RepCs R (l.map Ce.v) xs G → G = []
  | [], _, _, h => h
  | _ :: _, _, _, ⟨_, _, _, _, _, e2, ⟨_, e3⟩, e4, _⟩ => by rw [e2, e3, repCs_flatG e4]; rfl

/-- A row that may be handed on as a thing. -/
theorem HR.rowP {B : Nat → Prop} {ρ : Rho} {h : Heap} {w : World} (H : HR B ρ h w) {j : Nat} {l : List V} (hr : rowP h j = some l) :
    ∃ L b c e fz, ρ j = some L ∧ h.get j = some b ∧ b.rw = true ∧ b ≠ .dead ∧ (∀ F, Foot w L b F ↔ F = [L.b]) ∧ ¬ B L.b ∧ w.heap[L.b]? = some (.cells c e fz) ∧ c.size = L.z ∧ FZ fz L.z ∧ L.o + l.length ≤ L.z ∧ CR ρ l c L.o := by
  unfold Gw.rowP at hr
  split at hr
  · rename_i l' hg
    simp only [Option.some.injEq] at hr; subst hr
    obtain ⟨L, hL, c, e, fz, h1, h2, h3, h4, h5⟩ := H.blk j _ hg
    exact ⟨L, _, c, e, fz, hL, hg, rfl, by simp, fun F => Iff.rfl, (h5 rfl).1, h1, h2, (h5 rfl).2, h3, h4⟩
  · rename_i y hg
    obtain ⟨L, hL, F, ⟨d, hR⟩, hB⟩ := H.blk j _ hg
    have hR0 : Rep w y L F := ⟨d, hR⟩
    cases d with
    | zero => exact hR.elim
    | succ d =>
      obtain ⟨c, e, fz, G, hF, h1, h2, hfz, h3, h4, h5⟩ := hR
      rw [Ob.row_enc hr] at h3 h4
      have hG : G = [] := repCs_flatG h4
      subst hG
      refine ⟨L, _, c, e, fz, hL, hg, rfl, by simp, fun F' => ⟨fun hF' => ?_, fun hF' => ?_⟩, hB _ (by rw [hF]; simp), h1, h2, hfz, by simpa using h3, fun k v hk => ?_⟩
      · rw [← hR0.det hF', hF]
      · rw [hF', ← hF]; exact hR0
      · obtain ⟨x, hx, hv⟩ := repCs_row h4 k v hk
        exact ⟨x, by simpa using hx, hv.mono (Le.zero ρ)⟩
  · cases hr

/-- A name under which something lies that may be handed on; a block that is its own. -/
def Own (ρ : Rho) (h : Heap) (w : World) (j z : Nat) : Prop := ∃ L b F, ρ j = some L ∧ h.get j = some b ∧ b.rw = true ∧ b ≠ .dead ∧ Foot w L b F ∧ z ∈ F

theorem close_part {B : Nat → Prop} {ρ : Rho} {h : Heap} {w : World} (H : HR B ρ h w) {j off m e : Nat} {c : Option Nat} {y : Ob} {x : Value} (hs : SubB h j off (m * e) y) (hv : VR ρ (.slice j off m e c) x) :
    ∃ G, RepC (Rep w) (.s y m e) x G ∧ (∀ z ∈ G, Own ρ h w j z ∧ ¬ B z) := by
  simp only [VR] at hv
  obtain ⟨a, k, hx, hmk, _, Lj, hLj, hab, hk⟩ := hv
  rcases hs with ⟨l, r, hl, hr, hsub, hlen, hfl⟩ | ⟨rfl, hg, hlen⟩
  · obtain ⟨L, b, cs, et, fz, hL, hg, hrw, hnd, hfoot, hB, h1, h2, h3, h4, h5⟩ := H.rowP hl
    rw [hLj] at hL; simp only [Option.some.injEq] at hL; subst hL
    refine ⟨[Lj.b], ⟨⟨Lj.b, if k = 0 then 0 else Lj.o + off, Lj.z⟩, a, k, hx, hmk, hab, fun h0 => by simp [h0], fun h0 => ?_, by rw [Ob.row_enc hr]; simpa using hlen, 1, cs, et, fz, [], rfl, h1, h2, h3, ?_, ?_, by simp⟩, fun z hz => ?_⟩
    · simp only [h0, if_false]
      exact hk.resolve_left h0
    · rw [Ob.row_enc hr]
      simp only [List.length_map, hlen]
      by_cases h0 : k = 0
      · have : m = 0 := by omega
        subst this; simp [h0]
      · simp only [h0, if_false]
        have h6 := (hk.resolve_left h0).2
        have : m * e ≤ k * e := Nat.mul_le_mul_right e hmk
        omega
    · rw [Ob.row_enc hr]
      refine repCs_of_row r _ hfl fun t v ht => ?_
      by_cases h0 : k = 0
      · have : m = 0 := by omega
        subst this
        have : r = [] := List.eq_nil_of_length_eq_zero (by simpa using hlen)
        rw [this] at ht; simp at ht
      · simp only [h0, if_false]
        rw [← hsub] at ht
        have htn : t < m * e := by
          obtain ⟨hlt, _⟩ := List.getElem?_eq_some_iff.1 ht
          have := List.length_take_le (m * e) (l.drop off)
          omega
        simp [htn] at ht
        obtain ⟨u, hu, hur⟩ := h5 (off + t) v ht
        exact ⟨ρ, u, by simp; rw [← hu]; congr 1; omega, hur⟩
    · simp at hz; subst hz
      exact ⟨⟨Lj, b, [Lj.b], hLj, hg, hrw, hnd, (hfoot _).2 rfl, by simp⟩, hB⟩
  · obtain ⟨L, hL, F, hR, hB⟩ := H.blk j _ hg
    rw [hLj] at hL; simp only [Option.some.injEq] at hL; subst hL
    refine ⟨F, ?_, fun z hz => ⟨⟨Lj, _, F, hLj, hg, rfl, by simp, hR, hz⟩, hB z hz⟩⟩
    by_cases h0 : k = 0
    · have hm : m = 0 := by omega
      subst hm
      have hy : y.enc = [] := List.eq_nil_of_length_eq_zero (by simpa using hlen)
      obtain ⟨d, hR⟩ := hR
      cases d with
      | zero => exact hR.elim
      | succ d =>
        obtain ⟨cs, et, fz, G, hF, h1, h2, h3, h4, h5, h6⟩ := hR
        refine ⟨⟨Lj.b, 0, Lj.z⟩, a, k, hx, hmk, hab, fun _ => rfl, fun h => absurd h0 h, hlen, d + 1, cs, et, fz, G, hF, h1, h2, h3, by rw [hy]; simp, ?_, h6⟩
        rw [hy] at h5 ⊢
        exact h5
    · obtain ⟨ha, hz⟩ := hk.resolve_left h0
      exact ⟨Lj, a, k, hx, hmk, hab, fun h => absurd h h0, fun _ => ⟨by rw [ha]; simp, by omega⟩, hlen, hR⟩

theorem close_cells {B : Nat → Prop} {ρ : Rho} {h : Heap} {w : World} (H : HR B ρ h w) : ∀ (vs : List V) (cs : List Ce) (ids : List Nat) (xs : List Value), closeOk h vs cs ids → ids.Nodup → (∀ (k : Nat) (v : V), vs[k]? = some v → ∃ x, xs[k]? = some x ∧ VR ρ v x) →
    ∃ G, RepCs (Rep w) cs xs G ∧ (∀ z ∈ G, (∃ j ∈ ids, Own ρ h w j z) ∧ ¬ B z)
  | [], [], ids, xs, hc, _, _ => ⟨[], rfl, fun z hz => by cases hz⟩
  | v :: vs, .v u :: cs, ids, xs, hc, hn, hx => by
    obtain ⟨rfl, hf, hc⟩ := hc
    obtain ⟨x, hx0, hv⟩ := hx 0 v (by simp)
    cases xs with
    | nil => simp at hx0
    | cons x' xs =>
      simp at hx0; subst hx0
      obtain ⟨G, g1, g2⟩ := close_cells H vs cs ids xs hc hn fun k u hk => by simpa using hx (k + 1) u (by simpa using hk)
      exact ⟨G, ⟨x', xs, [], G, rfl, rfl, ⟨VR.flat v x' hf hv, rfl⟩, g1, fun k hk => by cases hk⟩, g2⟩
  | v :: vs, .p y :: cs, ids, xs, hc, hn, hx => by
    obtain ⟨j, ids', rfl, rfl, hg, hc⟩ := hc
    obtain ⟨x, hx0, hv⟩ := hx 0 (.ptr j 0) (by simp)
    cases xs with
    | nil => simp at hx0
    | cons x' xs =>
      simp at hx0; subst hx0
      rw [List.nodup_cons] at hn
      obtain ⟨G, g1, g2⟩ := close_cells H vs cs ids' xs hc hn.2 fun k u hk => by simpa using hx (k + 1) u (by simpa using hk)
      obtain ⟨L, hL, F, hR, hB⟩ := H.blk j _ hg
      simp only [VR] at hv
      obtain ⟨L', hL', hxe⟩ := hv
      rw [hL] at hL'; simp only [Option.some.injEq] at hL'; subst hL'
      refine ⟨F ++ G, ⟨x', xs, F, G, rfl, rfl, ⟨L, by rw [hxe]; simp, hR⟩, g1, fun z hz hz' => ?_⟩, fun z hz => ?_⟩
      · obtain ⟨⟨j', hj', L2, b2, F2, a1, a2, a3, a4, a5, a6⟩, _⟩ := g2 z hz'
        exact H.inj j j' _ b2 L L2 hg a2 (fun e => hn.1 (e ▸ hj')) rfl a4 hL a1 F F2 hR a5 z hz a6
      · rcases List.mem_append.1 hz with hz | hz
        · exact ⟨⟨j, by simp, L, _, F, hL, hg, rfl, by simp, hR, hz⟩, hB z hz⟩
        · obtain ⟨⟨j', hj', ho⟩, hb⟩ := g2 z hz
          exact ⟨⟨j', by simp [hj'], ho⟩, hb⟩
  | v :: vs, .s y m e :: cs, ids, xs, hc, hn, hx => by
    obtain ⟨j, off, c, ids', rfl, rfl, hs, hc⟩ := hc
    obtain ⟨x, hx0, hv⟩ := hx 0 (.slice j off m e c) (by simp)
    cases xs with
    | nil => simp at hx0
    | cons x' xs =>
      simp at hx0; subst hx0
      rw [List.nodup_cons] at hn
      obtain ⟨G, g1, g2⟩ := close_cells H vs cs ids' xs hc hn.2 fun k u hk => by simpa using hx (k + 1) u (by simpa using hk)
      obtain ⟨F, f1, f2⟩ := close_part H hs hv
      refine ⟨F ++ G, ⟨x', xs, F, G, rfl, rfl, f1, g1, fun z hz hz' => ?_⟩, fun z hz => ?_⟩
      · obtain ⟨⟨j', hj', L2, b2, F2, a1, a2, a3, a4, a5, a6⟩, _⟩ := g2 z hz'
        obtain ⟨⟨L1, b1, F1, c1, c2, c3, c4, c5, c6⟩, _⟩ := f2 z hz
        exact H.inj j j' b1 b2 L1 L2 c2 a2 (fun e => hn.1 (e ▸ hj')) c3 a4 c1 a1 F1 F2 c5 a5 z c6 a6
      · rcases List.mem_append.1 hz with hz | hz
        · exact ⟨⟨j, by simp, (f2 z hz).1⟩, (f2 z hz).2⟩
        · obtain ⟨⟨j', hj', ho⟩, hb⟩ := g2 z hz
          exact ⟨⟨j', by simp [hj'], ho⟩, hb⟩
  | [], .v _ :: _, _, _, hc, _, _ => hc.elim
  | [], .p _ :: _, _, _, hc, _, _ => hc.elim
  | [], .s _ _ _ :: _, _, _, hc, _, _ => hc.elim
  | _ :: _, [], _, _, hc, _, _ => hc.elim

theorem closeOk_len {h : Heap} : ∀ (vs : List V) (cs : List Ce) (ids : List Nat), closeOk h vs cs ids → vs.length = cs.length
  | [], [], _, _ => rfl
  | _ :: vs, .v _ :: cs, _, ⟨_, _, h⟩ => by simp [closeOk_len vs cs _ h]
  | _ :: vs, .p _ :: cs, _, ⟨_, _, _, _, _, h⟩ => by simp [closeOk_len vs cs _ h]
  | _ :: vs, .s _ _ _ :: cs, _, ⟨_, _, _, _, _, _, _, h⟩ => by simp [closeOk_len vs cs _ h]
  | [], .v _ :: _, _, hc => hc.elim
  | [], .p _ :: _, _, hc => hc.elim
  | [], .s _ _ _ :: _, _, hc => hc.elim
  | _ :: _, [], _, hc => hc.elim

/-- A thing is closed. -/
theorem HR.close {B : Nat → Prop} {ρ : Rho} {h : Heap} {w : World} (H : HR B ρ h w) {i : Nat} {x : Ob} {vs : List V} {ids : List Nat} (hg : h.get i = some (.cells false vs)) (hc : closeOk h vs x.enc ids) (hn : ids.Nodup) (hi : i ∉ ids) : HR B ρ (closeAt h i x ids) w := by
  obtain ⟨L, hL, c, e, fz, h1, h2, h3, h4, h5⟩ := H.blk i _ hg
  obtain ⟨hB, hfz⟩ := h5 rfl
  obtain ⟨G, g1, g2⟩ := close_cells H vs x.enc ids (c.toList.drop L.o) hc hn fun k v hk => by obtain ⟨u, hu, hr⟩ := h4 k v hk; exact ⟨u, by simpa using hu, hr⟩
  obtain ⟨d, g1⟩ := repCs_depth g1
  have hLG : L.b ∉ G := by
    intro hin
    obtain ⟨⟨j, hj, L2, b2, F2, a1, a2, a3, a4, a5, a6⟩, _⟩ := g2 _ hin
    exact H.inj i j _ b2 L L2 hg a2 (fun e => hi (e ▸ hj)) rfl a4 hL a1 [L.b] F2 rfl a5 L.b (by simp) a6
  have hR : Rep w x L (L.b :: G) := ⟨d + 1, c, e, fz, G, rfl, h1, h2, hfz, by rw [← closeOk_len vs x.enc ids hc]; exact h3, g1, hLG⟩
  have hBG : ∀ z ∈ L.b :: G, ¬ B z := by
    intro z hz
    rcases List.mem_cons.1 hz with rfl | hz
    · exact hB
    · exact (g2 z hz).2
  have get_eq : ∀ j, (closeAt h i x ids).get j = if j ∈ ids then some .dead else if j = i then some (.obj x) else h.get j := by
    intro j; simp only [closeAt]; rw [killAll_get, Heap.get_put]
  -- what is in the thing is in none of the others
  have apart : ∀ j b M K, j ∉ ids → j ≠ i → h.get j = some b → ρ j = some M → Foot w M b K → (b ≠ .dead → ∀ z ∈ L.b :: G, z ∉ K) := by
    intro j b M K hji hne hj hM hK hd z hz hz'
    rcases List.mem_cons.1 hz with rfl | hz
    · exact H.inj i j _ b L M hg hj (Ne.symm hne) rfl hd hL hM [L.b] K rfl hK L.b (by simp) hz'
    · obtain ⟨⟨j2, hj2, L2, b2, F2, a1, a2, a3, a4, a5, a6⟩, _⟩ := g2 z hz
      exact H.inj j2 j b2 b L2 M a2 hj (fun e => hji (e ▸ hj2)) a3 hd a1 hM F2 K a5 hK z a6 hz'
  refine ⟨fun j b hj => ?_, fun j k b b' M N hj hk hne hbw hcd h1' h2' K K' hK hK' => ?_, fun j hj => ?_, fun j hj => ?_, H.lt, H.low⟩
  · rw [get_eq] at hj
    by_cases hji : j ∈ ids
    · rw [if_pos hji] at hj; simp only [Option.some.injEq] at hj; subst hj
      have : ∃ b, h.get j = some b := by
        have key : ∀ (vs : List V) (cs : List Ce) (ids : List Nat), closeOk h vs cs ids → j ∈ ids → ∃ b, h.get j = some b := by
          intro vs
          induction vs with
          | nil =>
            intro cs ids hc hj
            cases cs with
            | nil => simp only [closeOk] at hc; rw [hc] at hj; cases hj
            | cons ce cs => cases ce <;> exact hc.elim
          | cons v vs ih =>
            intro cs ids hc hj
            cases cs with
            | nil => exact hc.elim
            | cons ce cs =>
              cases ce with
              | v u => exact ih cs ids hc.2.2 hj
              | p y =>
                obtain ⟨j', ids', rfl, _, hg', hc⟩ := hc
                rcases List.mem_cons.1 hj with rfl | hj
                · exact ⟨_, hg'⟩
                · exact ih cs ids' hc hj
              | s y m e =>
                obtain ⟨j', off, c, ids', rfl, _, hs, hc⟩ := hc
                rcases List.mem_cons.1 hj with rfl | hj
                · rcases hs with ⟨l, r, hl, _⟩ | ⟨_, hg', _⟩
                  · unfold Gw.rowP at hl
                    split at hl
                    · rename_i hg'; exact ⟨_, hg'⟩
                    · rename_i hg'; exact ⟨_, hg'⟩
                    · cases hl
                  · exact ⟨_, hg'⟩
                · exact ih cs ids' hc hj
        exact key vs x.enc ids hc hji
      obtain ⟨b, hb⟩ := this
      obtain ⟨M, hM, _⟩ := H.blk j b hb
      exact ⟨M, hM, trivial⟩
    · rw [if_neg hji] at hj
      by_cases hjx : j = i
      · rw [if_pos hjx] at hj; simp only [Option.some.injEq] at hj; subst hj; subst hjx
        exact ⟨L, hL, _, hR, hBG⟩
      · rw [if_neg hjx] at hj; exact H.blk j b hj
  · rw [get_eq] at hj hk
    by_cases hji : j ∈ ids
    · rw [if_pos hji] at hj; simp only [Option.some.injEq] at hj; subst hj; simp [Blk.rw] at hbw
    · rw [if_neg hji] at hj
      by_cases hki : k ∈ ids
      · rw [if_pos hki] at hk; simp only [Option.some.injEq] at hk; exact absurd hk.symm hcd
      · rw [if_neg hki] at hk
        by_cases hjx : j = i
        · rw [if_pos hjx] at hj; simp only [Option.some.injEq] at hj; subst hj; subst hjx
          rw [hL] at h1'; simp only [Option.some.injEq] at h1'; subst h1'
          have : K = L.b :: G := Rep.det hK hR
          subst this
          rw [if_neg (Ne.symm hne)] at hk
          exact apart k b' N K' hki (Ne.symm hne) hk h2' hK' hcd
        · rw [if_neg hjx] at hj
          by_cases hkx : k = i
          · rw [if_pos hkx] at hk; simp only [Option.some.injEq] at hk; subst hk; subst hkx
            rw [hL] at h2'; simp only [Option.some.injEq] at h2'; subst h2'
            have : K' = L.b :: G := Rep.det hK' hR
            subst this
            intro z hz hz'
            exact apart j b M K hji hjx hj h1' hK (by intro e; subst e; simp [Blk.rw] at hbw) z hz' hz
          · rw [if_neg hkx] at hk
            exact H.inj j k b b' M N hj hk hne hbw hcd h1' h2' K K' hK hK'
  · rw [get_eq] at hj
    by_cases hji : j ∈ ids
    · rw [if_pos hji] at hj; cases hj
    · rw [if_neg hji] at hj
      by_cases hjx : j = i
      · rw [if_pos hjx] at hj; cases hj
      · rw [if_neg hjx] at hj; exact H.new j hj
  · simp only [closeAt, killAll_n, Heap.put_n] at hj
    rw [get_eq]
    have hnone := H.top j hj
    rw [if_neg, if_neg, hnone]
    · intro e; subst e; rw [hg] at hnone; cases hnone
    · intro hji
      -- a part's name is in use
      have key : ∀ (vs : List V) (cs : List Ce) (ids : List Nat), closeOk h vs cs ids → j ∈ ids → ∃ b, h.get j = some b := by
        intro vs
        induction vs with
        | nil =>
          intro cs ids hc hj
          cases cs with
          | nil => simp only [closeOk] at hc; rw [hc] at hj; cases hj
          | cons ce cs => cases ce <;> exact hc.elim
        | cons v vs ih =>
          intro cs ids hc hj
          cases cs with
          | nil => exact hc.elim
          | cons ce cs =>
            cases ce with
            | v u => exact ih cs ids hc.2.2 hj
            | p y =>
              obtain ⟨j', ids', rfl, _, hg', hc⟩ := hc
              rcases List.mem_cons.1 hj with rfl | hj
              · exact ⟨_, hg'⟩
              · exact ih cs ids' hc hj
            | s y m e =>
              obtain ⟨j', off, c, ids', rfl, _, hs, hc⟩ := hc
              rcases List.mem_cons.1 hj with rfl | hj
              · rcases hs with ⟨l, r, hl, _⟩ | ⟨_, hg', _⟩
                · unfold Gw.rowP at hl
                  split at hl
                  · rename_i hg'; exact ⟨_, hg'⟩
                  · rename_i hg'; exact ⟨_, hg'⟩
                  · cases hl
                · exact ⟨_, hg'⟩
              · exact ih cs ids' hc hj
      obtain ⟨b, hb⟩ := key vs x.enc ids hc hji
      rw [hnone] at hb; cases hb
end Gw
