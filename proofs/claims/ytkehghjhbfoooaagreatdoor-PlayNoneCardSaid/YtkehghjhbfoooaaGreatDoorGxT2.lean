/- Things in memory are opened (their cells seen, their parts named) and closed again. -/
import Derived.Test.YtkehghjhbfoooaaGreatDoorGxA18
noncomputable section
namespace Gw
open Go Go.RowKit

/-- The cells of a thing, its parts under new names from n on; the parts. -/
def openCs : Nat → List Ce → List V × List Ob
  | _, [] => ([], [])
  | n, .v u :: cs => (u :: (openCs n cs).1, (openCs n cs).2)
  | n, .p y :: cs => (.ptr n 0 :: (openCs (n + 1) cs).1, y :: (openCs (n + 1) cs).2)
  | n, .s y m e :: cs => (.slice n 0 m e none :: (openCs (n + 1) cs).1, y :: (openCs (n + 1) cs).2)
def putsO : Heap → Nat → List Ob → Heap
  | h, _, [] => h
  | h, n, y :: ys => putsO (h.put n (some (.obj y))) (n + 1) ys
/-- Memory in which a thing has been opened. -/
def openAt (h : Heap) (i : Nat) (x : Ob) : Heap :=
  putsO ((h.put i (some (.cells false (openCs h.n x.enc).1))).up (openCs h.n x.enc).2.length) h.n (openCs h.n x.enc).2

theorem putsO_n : ∀ (ys : List Ob) (h : Heap) (n : Nat), (putsO h n ys).n = h.n
  | [], _, _ => rfl
  | _ :: ys, h, n => by simp only [putsO]; rw [putsO_n ys]; rfl
theorem putsO_get : ∀ (ys : List Ob) (h : Heap) (n j : Nat), (putsO h n ys).get j = if n ≤ j ∧ j < n + ys.length then (ys[j - n]?).map .obj else h.get j
  | [], h, n, j => by simp only [putsO, List.length_nil]; rw [if_neg (by omega)]
  | y :: ys, h, n, j => by
    simp only [putsO]
    rw [putsO_get ys, Heap.get_put]
    by_cases h1 : n + 1 ≤ j ∧ j < n + 1 + ys.length
    · rw [if_pos h1, if_pos (by simp only [List.length_cons]; omega)]
      rw [show j - n = (j - (n + 1)) + 1 by omega]; simp
    · rw [if_neg h1]
      by_cases h2 : j = n
      · subst h2; rw [if_pos rfl, if_pos (by simp)]; simp
      · rw [if_neg h2, if_neg (by simp only [List.length_cons]; omega)]

theorem openCs_len : ∀ (cs : List Ce) (n : Nat), (openCs n cs).1.length = cs.length
  | [], _ => rfl
  | .v _ :: cs, n => by simp [openCs, openCs_len cs]
  | .p _ :: cs, n => by simp [openCs, openCs_len cs]
  | .s _ _ _ :: cs, n => by simp [openCs, openCs_len cs]

/-- Where the parts lie. -/
theorem openCs_ok {R : Ob → Loc → List Nat → Prop} : ∀ (cs : List Ce) (n : Nat) (xs : List Value) (G : List Nat), RepCs R cs xs G →
    ∃ ls : List (Loc × List Nat), ls.length = (openCs n cs).2.length ∧ (∀ (k : Nat) (y : Ob), (openCs n cs).2[k]? = some y → ∃ p, ls[k]? = some p ∧ R y p.1 p.2 ∧ ∀ x ∈ p.2, x ∈ G) ∧
      (∀ (j k : Nat) p q, ls[j]? = some p → ls[k]? = some q → j ≠ k → ∀ x ∈ p.2, x ∉ q.2) ∧ (∀ (k : Nat) p, ls[k]? = some p → ∀ x ∈ p.2, x ∈ G) ∧
      ∀ ρ' : Rho, (∀ (k : Nat) p, ls[k]? = some p → ρ' (n + k) = some p.1) → ∀ (k : Nat) (v : V), (openCs n cs).1[k]? = some v → ∃ x, xs[k]? = some x ∧ VR ρ' v x
  | [], n, xs, G, _ => ⟨[], rfl, fun k y h => by simp [openCs] at h, fun j k p q h => by simp at h, fun k p h => by simp at h, fun ρ' _ k v h => by simp [openCs] at h⟩
  | .v u :: cs, n, xs, G, ⟨x, xs', G1, G2, hx, hG, h1, h2, h3⟩ => by
    obtain ⟨ls, e1, e2, e3, e4, e5⟩ := openCs_ok cs n xs' G2 h2
    refine ⟨ls, e1, fun k y hk => ?_, e3, fun k p hp y hy => ?_, fun ρ' hρ k v hk => ?_⟩
    · obtain ⟨p, q1, q2, q3⟩ := e2 k y hk
      exact ⟨p, q1, q2, fun z hz => by rw [hG]; simp [q3 z hz]⟩
    · rw [hG]; simp [e4 k p hp y hy]
    · subst hx
      cases k with
      | zero => simp [openCs] at hk; subst hk; exact ⟨x, by simp, h1.1.mono (Le.zero ρ')⟩
      | succ k => obtain ⟨z, z1, z2⟩ := e5 ρ' hρ k v (by simpa [openCs] using hk); exact ⟨z, by simpa using z1, z2⟩
  | .p y :: cs, n, xs, G, ⟨x, xs', G1, G2, hx, hG, ⟨L, hxp, hR⟩, h2, h3⟩ => by
    obtain ⟨ls, e1, e2, e3, e4, e5⟩ := openCs_ok cs (n + 1) xs' G2 h2
    refine ⟨(L, G1) :: ls, by simp [openCs, e1], fun k z hk => ?_, fun j k p q hj hk hn z hz hz' => ?_, fun k p hp z hz => ?_, fun ρ' hρ k v hk => ?_⟩
    · cases k with
      | zero => simp [openCs] at hk; subst hk; exact ⟨(L, G1), by simp, hR, fun z hz => by rw [hG]; simp [hz]⟩
      | succ k =>
        obtain ⟨p, q1, q2, q3⟩ := e2 k z (by simpa [openCs] using hk)
        exact ⟨p, by simpa using q1, q2, fun z hz => by rw [hG]; simp [q3 z hz]⟩
    · cases j with
      | zero =>
        simp at hj; subst hj
        cases k with
        | zero => exact hn rfl
        | succ k => exact h3 z hz (e4 k q (by simpa using hk) z hz')
      | succ j =>
        cases k with
        | zero => simp at hk; subst hk; exact h3 z hz' (e4 j p (by simpa using hj) z hz)
        | succ k => exact e3 j k p q (by simpa using hj) (by simpa using hk) (by omega) z hz hz'
    · cases k with
      | zero => simp at hp; subst hp; rw [hG]; simp [hz]
      | succ k => rw [hG]; simp [e4 k p (by simpa using hp) z hz]
    · subst hx
      cases k with
      | zero =>
        simp [openCs] at hk; subst hk
        have := hρ 0 (L, G1) (by simp)
        exact ⟨x, by simp, by simp only [VR]; exact ⟨L, this, by rw [hxp]; simp⟩⟩
      | succ k =>
        obtain ⟨z, z1, z2⟩ := e5 ρ' (fun j p hj => by have := hρ (j + 1) p (by simpa using hj); rw [← this]; congr 1; omega) k v (by simpa [openCs] using hk)
        exact ⟨z, by simpa using z1, z2⟩
  | .s y m e :: cs, n, xs, G, ⟨x, xs', G1, G2, hx, hG, ⟨L, a, kk, hxs, hmk, hab, hk0, hk1, hlen, hR⟩, h2, h3⟩ => by
    obtain ⟨ls, e1, e2, e3, e4, e5⟩ := openCs_ok cs (n + 1) xs' G2 h2
    refine ⟨(L, G1) :: ls, by simp [openCs, e1], fun k z hk => ?_, fun j k p q hj hk hn z hz hz' => ?_, fun k p hp z hz => ?_, fun ρ' hρ k v hk => ?_⟩
    · cases k with
      | zero => simp [openCs] at hk; subst hk; exact ⟨(L, G1), by simp, hR, fun z hz => by rw [hG]; simp [hz]⟩
      | succ k =>
        obtain ⟨p, q1, q2, q3⟩ := e2 k z (by simpa [openCs] using hk)
        exact ⟨p, by simpa using q1, q2, fun z hz => by rw [hG]; simp [q3 z hz]⟩
    · cases j with
      | zero =>
        simp at hj; subst hj
        cases k with
        | zero => exact hn rfl
        | succ k => exact h3 z hz (e4 k q (by simpa using hk) z hz')
      | succ j =>
        cases k with
        | zero => simp at hk; subst hk; exact h3 z hz' (e4 j p (by simpa using hj) z hz)
        | succ k => exact e3 j k p q (by simpa using hj) (by simpa using hk) (by omega) z hz hz'
    · cases k with
      | zero => simp at hp; subst hp; rw [hG]; simp [hz]
      | succ k => rw [hG]; simp [e4 k p (by simpa using hp) z hz]
    · subst hx
      cases k with
      | zero =>
        simp [openCs] at hk; subst hk
        have := hρ 0 (L, G1) (by simp)
        refine ⟨x, by simp, ?_⟩
        simp only [VR]
        refine ⟨a, kk, hxs, hmk, fun c' hc => (by cases hc), L, this, hab, ?_⟩
        by_cases hz : kk = 0
        · exact .inl hz
        · exact .inr ⟨by rw [(hk1 hz).1]; simp, by have := (hk1 hz).2; omega⟩
      | succ k =>
        obtain ⟨z, z1, z2⟩ := e5 ρ' (fun j p hj => by have := hρ (j + 1) p (by simpa using hj); rw [← this]; congr 1; omega) k v (by simpa [openCs] using hk)
        exact ⟨z, by simpa using z1, z2⟩

/-- A thing is opened. -/
theorem HR.open {B : Nat → Prop} {ρ : Rho} {h : Heap} {w : World} (H : HR B ρ h w) {i : Nat} {x : Ob} (hg : h.get i = some (.obj x)) : ∃ ρ', Le ρ ρ' ∧ HR B ρ' (openAt h i x) w := by
  obtain ⟨L, hL, F, ⟨d, hR⟩, hB⟩ := H.blk i _ hg
  have hF : Foot w L (.obj x) F := ⟨d, hR⟩
  cases d with
  | zero => exact hR.elim
  | succ d =>
  obtain ⟨c, e, fz, G, hFG, hc, hcz, hfz, hlen, hcs, hLG⟩ := hR
  obtain ⟨ls, e1, e2, e3, e4, e5⟩ := openCs_ok x.enc h.n _ G hcs
  have hi : i < h.n := by
    rcases Nat.lt_or_ge i h.n with h1 | h1
    · exact h1
    · rw [H.top i h1] at hg; cases hg
  let ρ' : Rho := fun j => if h.n ≤ j then (ls[j - h.n]?).map (·.1) else ρ j
  have hρlo : ∀ j, j < h.n → ρ' j = ρ j := fun j hj => by simp only [ρ']; rw [if_neg (by omega)]
  have hρhi : ∀ k, ρ' (h.n + k) = (ls[k]?).map (·.1) := fun k => by simp only [ρ']; rw [if_pos (by omega), Nat.add_sub_cancel_left]
  have hnone : ∀ j, h.n ≤ j → ρ j = none := fun j hj => H.new j (H.top j hj)
  have hle : Le ρ ρ' := by
    intro j M hj
    by_cases hjn : j < h.n
    · rw [hρlo j hjn]; exact hj
    · rw [hnone j (by omega)] at hj; cases hj
  have get_eq : ∀ j, (openAt h i x).get j = if h.n ≤ j ∧ j < h.n + (openCs h.n x.enc).2.length then ((openCs h.n x.enc).2[j - h.n]?).map .obj else if j = i then some (.cells false (openCs h.n x.enc).1) else h.get j := by
    intro j
    simp only [openAt]
    rw [putsO_get, Heap.get_up, Heap.get_put]
  have child : ∀ j b, h.n ≤ j → (openAt h i x).get j = some b → ∃ y p, b = .obj y ∧ ls[j - h.n]? = some p ∧ ρ' j = some p.1 ∧ Rep w y p.1 p.2 ∧ ∀ z ∈ p.2, z ∈ G := by
    intro j b hj hb
    rw [get_eq] at hb
    by_cases hr : h.n ≤ j ∧ j < h.n + (openCs h.n x.enc).2.length
    · rw [if_pos hr, Option.map_eq_some_iff] at hb
      obtain ⟨y, hy, rfl⟩ := hb
      obtain ⟨p, q1, q2, q3⟩ := e2 _ y hy
      refine ⟨y, p, rfl, q1, ?_, ⟨d, q2⟩, q3⟩
      have := hρhi (j - h.n)
      rw [show h.n + (j - h.n) = j by omega, q1] at this
      exact this
    · rw [if_neg hr, if_neg (by omega), H.top j hj] at hb; cases hb
  have old : ∀ j, j < h.n → j ≠ i → (openAt h i x).get j = h.get j := by
    intro j hj hji; rw [get_eq, if_neg (by omega), if_neg hji]
  have own : (openAt h i x).get i = some (.cells false (openCs h.n x.enc).1) := by
    rw [get_eq, if_neg (by omega), if_pos rfl]
  have hGF : ∀ z ∈ G, z ∈ F := fun z hz => by rw [hFG]; simp [hz]
  -- what a block of the new memory has is a part of what one of the old had
  have part : ∀ j b M K, (openAt h i x).get j = some b → ρ' j = some M → Foot w M b K → (j < h.n ∧ j ≠ i ∧ h.get j = some b ∧ ρ j = some M) ∨ (b.rw = true ∧ b ≠ .dead ∧ (∀ z ∈ K, z ∈ F)) := by
    intro j b M K hj hM hK
    by_cases hjn : j < h.n
    · by_cases hji : j = i
      · right
        subst hji
        rw [own] at hj; simp only [Option.some.injEq] at hj; subst hj
        rw [hρlo j hjn, hL] at hM; simp only [Option.some.injEq] at hM; subst hM
        refine ⟨rfl, by simp, fun z hz => ?_⟩
        have : K = [L.b] := hK
        rw [this] at hz; simp at hz; rw [hz, hFG]; simp
      · left
        rw [old j hjn hji] at hj; rw [hρlo j hjn] at hM
        exact ⟨hjn, hji, hj, hM⟩
    · right
      obtain ⟨y, p, rfl, _, hp, hr, hpG⟩ := child j b (by omega) hj
      rw [hp] at hM; simp only [Option.some.injEq] at hM; subst hM
      have : p.2 = K := hr.det hK
      subst this
      exact ⟨rfl, by simp, fun z hz => hGF z (hpG z hz)⟩
  refine ⟨ρ', hle, ⟨fun j b hj => ?_, fun j k b b' M N hj hk hn hbw hcd h1 h2 K K' hK hK' => ?_, fun j hj => ?_, fun j hj => ?_, fun j M hj => ?_, H.low⟩⟩
  · by_cases hjn : j < h.n
    · by_cases hji : j = i
      · subst hji
        rw [own] at hj; simp only [Option.some.injEq] at hj; subst hj
        refine ⟨L, by rw [hρlo j hjn]; exact hL, c, e, fz, hc, hcz, by rw [openCs_len]; exact hlen, fun k v hk => ?_, fun _ => ⟨hB _ (by rw [hFG]; simp), hfz⟩⟩
        obtain ⟨z, z1, z2⟩ := e5 ρ' (fun k p hp => by rw [hρhi, hp]; rfl) k v hk
        exact ⟨z, by simpa using z1, z2⟩
      · rw [old j hjn hji] at hj
        obtain ⟨M, hM, hb⟩ := H.blk j b hj
        exact ⟨M, by rw [hρlo j hjn]; exact hM, hb.mono hle⟩
    · obtain ⟨y, p, rfl, _, hp, hr, hpG⟩ := child j b (by omega) hj
      exact ⟨p.1, hp, p.2, hr, fun z hz => hB z (hGF z (hpG z hz))⟩
  · rcases part j b M K hj h1 hK with ⟨a1, a2, a3, a4⟩ | ⟨a1, a2, a3⟩ <;> rcases part k b' N K' hk h2 hK' with ⟨b1, b2, b3, b4⟩ | ⟨b1, b2, b3⟩
    · exact H.inj j k b b' M N a3 b3 hn hbw hcd a4 b4 K K' hK hK'
    · intro z hz hz'
      exact H.inj j i b _ M L a3 hg a2 hbw (by simp) a4 hL K F hK hF z hz (b3 z hz')
    · intro z hz hz'
      exact H.inj i k _ b' L N hg b3 (Ne.symm b2) rfl hcd hL b4 F K' hF hK' z (a3 z hz) hz'
    · -- two of the new ones
      by_cases hjn : j < h.n
      · have hji : j = i := by
          by_cases hji : j = i
          · exact hji
          · exfalso
            rw [old j hjn hji] at hj; rw [hρlo j hjn] at h1
            obtain ⟨K0, hK0, _, hm⟩ := H.foot hj h1
            have := H.inj i j _ b L M hg hj (Ne.symm hji) rfl a2 hL h1 F K hF hK
            have hmem : M.b ∈ K := by
              have : K0 = K := by cases b with
                | obj y => exact Rep.det hK0 hK
                | cells ro l => rw [show K0 = _ from hK0, show K = _ from hK]
                | iter s p => rw [show K0 = _ from hK0, show K = _ from hK]
                | mp es => rw [show K0 = _ from hK0, show K = _ from hK]
                | dead => rw [show K0 = _ from hK0, show K = _ from hK]
              rw [← this]; exact hm
            exact this _ (a3 _ hmem) hmem
        subst hji
        rw [own] at hj; simp only [Option.some.injEq] at hj; subst hj
        rw [hρlo j hjn, hL] at h1; simp only [Option.some.injEq] at h1; subst h1
        have hK1 : K = [L.b] := hK
        have hkn : h.n ≤ k := by
          rcases Nat.lt_or_ge k h.n with hkn | hkn
          · exfalso
            have hki : k ≠ j := Ne.symm hn
            rw [old k hkn hki] at hk; rw [hρlo k hkn] at h2
            obtain ⟨K0, hK0, _, hm⟩ := H.foot hk h2
            have := H.inj j k _ b' L N hg hk hn rfl b2 hL h2 F K' hF hK'
            have hmem : N.b ∈ K' := by
              have : K0 = K' := by cases b' with
                | obj y => exact Rep.det hK0 hK'
                | cells ro l => rw [show K0 = _ from hK0, show K' = _ from hK']
                | iter s p => rw [show K0 = _ from hK0, show K' = _ from hK']
                | mp es => rw [show K0 = _ from hK0, show K' = _ from hK']
                | dead => rw [show K0 = _ from hK0, show K' = _ from hK']
              rw [← this]; exact hm
            exact this _ (b3 _ hmem) hmem
          · exact hkn
        obtain ⟨y, p, rfl, _, hp, hr, hpG⟩ := child k b' hkn hk
        rw [hp] at h2; simp only [Option.some.injEq] at h2; subst h2
        have : p.2 = K' := hr.det hK'
        subst this
        intro z hz hz'
        rw [hK1] at hz; simp at hz; subst hz
        exact hLG (hpG _ hz')
      · obtain ⟨y, p, rfl, hpl, hp, hr, hpG⟩ := child j b (by omega) hj
        rw [hp] at h1; simp only [Option.some.injEq] at h1; subst h1
        have : p.2 = K := hr.det hK
        subst this
        by_cases hkn : k < h.n
        · have hki : k = i := by
            by_cases hki : k = i
            · exact hki
            · exfalso
              rw [old k hkn hki] at hk; rw [hρlo k hkn] at h2
              obtain ⟨K0, hK0, _, hm⟩ := H.foot hk h2
              have := H.inj i k _ b' L N hg hk (Ne.symm hki) rfl b2 hL h2 F K' hF hK'
              have hmem : N.b ∈ K' := by
                have : K0 = K' := by cases b' with
                  | obj y => exact Rep.det hK0 hK'
                  | cells ro l => rw [show K0 = _ from hK0, show K' = _ from hK']
                  | iter s p => rw [show K0 = _ from hK0, show K' = _ from hK']
                  | mp es => rw [show K0 = _ from hK0, show K' = _ from hK']
                  | dead => rw [show K0 = _ from hK0, show K' = _ from hK']
                rw [← this]; exact hm
              exact this _ (b3 _ hmem) hmem
          subst hki
          rw [own] at hk; simp only [Option.some.injEq] at hk; subst hk
          rw [hρlo k hkn, hL] at h2; simp only [Option.some.injEq] at h2; subst h2
          have hK1 : K' = [L.b] := hK'
          intro z hz hz'
          rw [hK1] at hz'; simp at hz'; subst hz'
          exact hLG (hpG _ hz)
        · obtain ⟨y', p', rfl, hpl', hp', hr', hpG'⟩ := child k b' (by omega) hk
          rw [hp'] at h2; simp only [Option.some.injEq] at h2; subst h2
          have : p'.2 = K' := hr'.det hK'
          subst this
          exact e3 (j - h.n) (k - h.n) p p' hpl hpl' (by omega)
  · by_cases hjn : j < h.n
    · by_cases hji : j = i
      · subst hji; rw [own] at hj; cases hj
      · rw [old j hjn hji] at hj; rw [hρlo j hjn]; exact H.new j hj
    · have := hρhi (j - h.n)
      rw [show h.n + (j - h.n) = j by omega] at this
      rw [this]
      rw [get_eq] at hj
      by_cases hr : h.n ≤ j ∧ j < h.n + (openCs h.n x.enc).2.length
      · rw [if_pos hr, Option.map_eq_none_iff] at hj
        have : (openCs h.n x.enc).2[j - h.n]? ≠ none := by simp; omega
        exact absurd hj this
      · rw [List.getElem?_eq_none (by rw [e1]; omega)]; rfl
  · simp only [openAt, putsO_n, Heap.up_n, Heap.put_n] at hj
    rw [get_eq, if_neg (by omega), if_neg (by omega)]
    exact H.top j (by omega)
  · by_cases hjn : j < h.n
    · rw [hρlo j hjn] at hj; exact H.lt j M hj
    · have := hρhi (j - h.n)
      rw [show h.n + (j - h.n) = j by omega, hj] at this
      obtain ⟨p, hp, hpM⟩ := Option.map_eq_some_iff.1 this.symm
      have hlt : j - h.n < (openCs h.n x.enc).2.length := by
        obtain ⟨h1, _⟩ := List.getElem?_eq_some_iff.1 hp
        omega
      obtain ⟨p', q1, q2, _⟩ := e2 (j - h.n) ((openCs h.n x.enc).2[j - h.n]'hlt) (by simp [hlt])
      rw [hp] at q1; simp only [Option.some.injEq] at q1; subst q1
      rw [← hpM]
      exact Rep.lt (⟨d, q2⟩ : Rep w _ p.1 p.2) _ (Rep.head (⟨d, q2⟩ : Rep w _ p.1 p.2))
end Gw
