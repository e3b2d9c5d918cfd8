/- What holds of a call in a small memory holds in any that has the same things. -/
import Derived.Test.YtkehghjhbfoooaaGreatDoorGxT3
noncomputable section
namespace Gw
open Go Go.RowKit

/-- What a call is handed: a thing of its own (its name), or a part of a row that is read. -/
inductive Ar where
  | o (j : Nat) (x : Ob)
  | w (j off : Nat) (row : List V)

def Ar.blk : Ar → Blk
  | .o _ x => .obj x
  | .w _ _ row => .cells true row
def putsB : Heap → Nat → List Ar → Heap
  | h, _, [] => h
  | h, n, a :: l => putsB (h.put n (some a.blk)) (n + 1) l
def deads : Heap → Nat → Heap
  | h, 0 => h
  | h, n + 1 => deads (h.put n (some .dead)) n
/-- A memory of these alone. -/
def smallH (l : List Ar) : Heap := putsB (deads ⟨.nil, NG + l.length⟩ NG) NG l

theorem putsB_n : ∀ (l : List Ar) (h : Heap) (n : Nat), (putsB h n l).n = h.n
  | [], _, _ => rfl
  | _ :: l, h, n => by simp only [putsB]; rw [putsB_n l]; rfl
theorem putsB_get : ∀ (l : List Ar) (h : Heap) (n j : Nat), (putsB h n l).get j = if n ≤ j ∧ j < n + l.length then (l[j - n]?).map Ar.blk else h.get j
  | [], h, n, j => by simp only [putsB, List.length_nil]; rw [if_neg (by omega)]
  | y :: ys, h, n, j => by
    simp only [putsB]
    rw [putsB_get ys, Heap.get_put]
    by_cases h1 : n + 1 ≤ j ∧ j < n + 1 + ys.length
    · rw [if_pos h1, if_pos (by simp only [List.length_cons]; omega)]
      rw [show j - n = (j - (n + 1)) + 1 by omega]; simp
    · rw [if_neg h1]
      by_cases h2 : j = n
      · subst h2; rw [if_pos rfl, if_pos (by simp)]; simp
      · rw [if_neg h2, if_neg (by simp only [List.length_cons]; omega)]
theorem deads_n : ∀ (n : Nat) (h : Heap), (deads h n).n = h.n
  | 0, _ => rfl
  | n + 1, h => by simp only [deads]; rw [deads_n n]; rfl
theorem deads_get : ∀ (n : Nat) (h : Heap) (j : Nat), (deads h n).get j = if j < n then some .dead else h.get j
  | 0, h, j => by simp [deads]
  | n + 1, h, j => by
    simp only [deads]
    rw [deads_get n, Heap.get_put]
    by_cases h1 : j < n
    · rw [if_pos h1, if_pos (by omega)]
    · rw [if_neg h1]
      by_cases h2 : j = n
      · subst h2; simp
      · rw [if_neg h2, if_neg (by omega)]
theorem Heap.nil_get' (n i : Nat) : (⟨.nil, n⟩ : Heap).get i = none := by simp [Heap.get, Tr.get]
theorem smallH_n (l : List Ar) : (smallH l).n = NG + l.length := by simp only [smallH]; rw [putsB_n, deads_n]
theorem smallH_get (l : List Ar) (j : Nat) : (smallH l).get j = if j < NG then some .dead else (l[j - NG]?).map Ar.blk := by
  simp only [smallH]
  rw [putsB_get, deads_get, Heap.nil_get']
  by_cases h1 : j < NG
  · rw [if_neg (by omega), if_pos h1, if_pos h1]
  · rw [if_neg h1, if_neg h1]
    by_cases h2 : j < NG + l.length
    · rw [if_pos (by omega)]
    · rw [if_neg (by omega), List.getElem?_eq_none (by omega)]; rfl

/-- What must be so in the greater memory. -/
def Ar.ok (h : Heap) : Ar → Prop
  | .o j x => h.get j = some (.obj x)
  | .w j off row => ∃ l, rowOf h j = some l ∧ (l.drop off).take row.length = row ∧ off + row.length ≤ l.length ∧ V.flats row = true
def Ar.id : Ar → Nat
  | .o j _ => j
  | .w j _ _ => j
def Ar.isO : Ar → Bool
  | .o _ _ => true
  | _ => false
/-- A thing of its own is no other one. -/
def arsNe : List Ar → Prop
  | [] => True
  | a :: l => (∀ b ∈ l, (a.isO = true ∨ b.isO = true) → a.id ≠ b.id) ∧ arsNe l
theorem arsNe_get : ∀ {l : List Ar}, arsNe l → ∀ (i k : Nat) (a b : Ar), l[i]? = some a → l[k]? = some b → i ≠ k → a.isO = true → a.id ≠ b.id
  | [], _, i, k, a, b, h, _, _, _ => by simp at h
  | c :: l, ⟨h1, h2⟩, i, k, a, b, hi, hk, hn, ha => by
    cases i with
    | zero =>
      simp at hi; subst hi
      cases k with
      | zero => exact absurd rfl hn
      | succ k => exact h1 b (List.mem_of_getElem? (by simpa using hk)) (.inl ha)
    | succ i =>
      cases k with
      | zero => simp at hk; subst hk; exact Ne.symm (h1 a (List.mem_of_getElem? (by simpa using hi)) (.inr ha))
      | succ k => exact arsNe_get h2 i k a b (by simpa using hi) (by simpa using hk) (by omega) ha

/-- Where the small memory's names lie. -/
def Ar.loc (ρ : Rho) : Ar → Option Loc
  | .o j _ => ρ j
  | .w j off _ => (ρ j).map fun L => ⟨L.b, L.o + off, L.z⟩
def rhoS (ρ : Rho) (l : List Ar) : Rho := fun j => if j < NG then ρ j else (l[j - NG]?).bind (Ar.loc ρ)

/-- All that is there, but for the things that are handed over. -/
def Rest (ρ : Rho) (w : World) (l : List Ar) : Nat → Prop := fun k => k < w.heap.size ∧ ∀ (i j : Nat) (x : Ob) (L : Loc) (F : List Nat), l[i]? = some (Ar.o j x) → ρ j = some L → Rep w x L F → k ∉ F

theorem rest_le {B : Nat → Prop} {ρ : Rho} {h : Heap} {w : World} (H : HR B ρ h w) {l : List Ar} (hok : ∀ a ∈ l, a.ok h) : ∀ k, B k → Rest ρ w l k := by
  intro k hk
  refine ⟨H.low k hk, fun i j x L F hi hL hR hin => ?_⟩
  obtain ⟨L', hL', F', hR', hB⟩ := H.blk j _ (hok _ (List.mem_of_getElem? hi) : h.get j = some (.obj x))
  rw [hL] at hL'; simp only [Option.some.injEq] at hL'; subst hL'
  rw [hR.det hR'] at hin
  exact hB k hin hk

theorem Ar.at_ {B : Nat → Prop} {ρ : Rho} {h : Heap} {w : World} (H : HR B ρ h w) (a : Ar) (ha : a.ok h) : ∃ L b F, ρ a.id = some L ∧ h.get a.id = some b ∧ b ≠ .dead ∧ (a.isO = true → b.rw = true) ∧ Foot w L b F ∧ L.b ∈ F ∧ (∀ j x, a = .o j x → b = .obj x) := by
  cases a with
  | o j x =>
    obtain ⟨L, hL, F, hR, _⟩ := H.blk j _ ha
    exact ⟨L, _, F, hL, ha, by simp, fun _ => rfl, hR, hR.head, fun i y hy => by simp only [Ar.o.injEq] at hy; rw [hy.2]⟩
  | w j off row =>
    obtain ⟨r, hr, _, _⟩ := ha
    have hg : ∃ b, h.get j = some b ∧ b ≠ .dead := by
      unfold rowOf at hr
      split at hr
      · rename_i hg; exact ⟨_, hg, by simp⟩
      · rename_i hg; exact ⟨_, hg, by simp⟩
      · cases hr
    obtain ⟨b, hb, hd⟩ := hg
    obtain ⟨L, hL, _⟩ := H.blk j b hb
    obtain ⟨F, hF, _, hm⟩ := H.foot hb hL
    exact ⟨L, b, F, hL, hb, hd, fun h => by simp [Ar.isO] at h, hF, hm, fun i x hx => by simp at hx⟩

theorem small_ok {B : Nat → Prop} {ρ : Rho} {h : Heap} {w : World} (H : HR B ρ h w) (hG : GR ρ) {l : List Ar} (hok : ∀ a ∈ l, a.ok h) (hne : arsNe l) : GR (rhoS ρ l) ∧ HR (Rest ρ w l) (rhoS ρ l) (smallH l) w := by
  have lo : ∀ j, j < NG → rhoS ρ l j = ρ j := fun j hj => by simp only [rhoS]; rw [if_pos hj]
  have hi' : ∀ j, ¬ j < NG → rhoS ρ l j = (l[j - NG]?).bind (Ar.loc ρ) := fun j hj => by simp only [rhoS]; rw [if_neg hj]
  refine ⟨fun g hg => by rw [lo g hg]; exact hG g hg, ?_⟩
  -- a block of it
  have blk : ∀ j b, (smallH l).get j = some b → (j < NG ∧ b = .dead) ∨ ∃ a, ¬ j < NG ∧ l[j - NG]? = some a ∧ b = a.blk ∧ a.ok h := by
    intro j b hj
    rw [smallH_get] at hj
    by_cases hlt : j < NG
    · rw [if_pos hlt] at hj; simp only [Option.some.injEq] at hj; exact .inl ⟨hlt, hj.symm⟩
    · rw [if_neg hlt, Option.map_eq_some_iff] at hj
      obtain ⟨a, ha, rfl⟩ := hj
      exact .inr ⟨a, hlt, ha, rfl, hok a (List.mem_of_getElem? ha)⟩
  have locb : ∀ (a : Ar) (L M : Loc), ρ a.id = some L → a.loc ρ = some M → M.b = L.b := by
    intro a L M hL hM
    cases a with
    | o j x => simp only [Ar.loc] at hM; simp only [Ar.id] at hL; rw [hL] at hM; simp only [Option.some.injEq] at hM; rw [hM]
    | w j off row => simp only [Ar.loc] at hM; simp only [Ar.id] at hL; rw [hL] at hM; simp only [Option.map_some, Option.some.injEq] at hM; rw [← hM]
  refine ⟨fun j b hj => ?_, fun j k b b' M N hj hk hn hbw hcd h1 h2 K K' hK hK' => ?_, fun j hj => ?_, fun j hj => ?_, fun j L hL => ?_, fun k hk => hk.1⟩
  · rcases blk j b hj with ⟨hlt, rfl⟩ | ⟨a, hlt, ha, rfl, hao⟩
    · obtain ⟨z, hz⟩ := hG j hlt
      exact ⟨_, by rw [lo j hlt]; exact hz, trivial⟩
    · cases a with
      | o i x =>
        obtain ⟨L, hL, F, hR, _⟩ := H.blk i _ hao
        refine ⟨L, by rw [hi' j hlt, ha]; exact hL, F, hR, fun z hz hk => ?_⟩
        exact hk.2 (j - NG) i x L F ha hL hR hz
      | w i off row =>
        obtain ⟨L, b, F, hL, hb, _⟩ := Ar.at_ H _ hao
        simp only [Ar.id] at hL hb
        obtain ⟨r, hr, htk, hle, hfl⟩ := hao
        obtain ⟨c, e, fz, h1, h2, h3, h4⟩ := H.row hr hL
        refine ⟨⟨L.b, L.o + off, L.z⟩, by rw [hi' j hlt, ha]; simp only [Option.bind_some, Ar.loc, hL, Option.map_some], c, e, fz, h1, h2, by simp only; omega, fun t v ht => ?_, fun h => by cases h⟩
        have htl : t < row.length := by
          obtain ⟨hh, _⟩ := List.getElem?_eq_some_iff.1 ht; exact hh
        have hflt : v.flat = true := by
          have : ∀ (r : List V) (t : Nat), V.flats r = true → r[t]? = some v → v.flat = true := by
            intro r
            induction r with
            | nil => intro t _ h; simp at h
            | cons u r ih =>
              intro t hf h
              simp only [V.flats, Bool.and_eq_true] at hf
              cases t with
              | zero => simp at h; subst h; exact hf.1
              | succ t => exact ih t hf.2 (by simpa using h)
          exact this row t hfl ht
        rw [← htk] at ht
        simp [htl] at ht
        obtain ⟨u, hu, hv⟩ := h4 (off + t) v ht
        exact ⟨u, by rw [← hu]; congr 1; simp only; omega, VR.flat v u hflt hv⟩
  · -- apart
    rcases blk j b hj with ⟨_, rfl⟩ | ⟨a, hlt, ha, rfl, hao⟩
    · simp [Blk.rw] at hbw
    rcases blk k b' hk with ⟨_, rfl⟩ | ⟨a', hlt', ha', rfl, hao'⟩
    · exact absurd rfl hcd
    cases a with
    | w i off row => simp [Ar.blk, Blk.rw] at hbw
    | o i x =>
      obtain ⟨L, c, F, g1, g2, g3, g4, g5, g6, g7⟩ := Ar.at_ H _ hao
      obtain ⟨L', c', F', k1, k2, k3, k4, k5, k6, k7⟩ := Ar.at_ H _ hao'
      have hid : (Ar.o i x).id ≠ a'.id := arsNe_get hne _ _ _ _ ha ha' (by omega) rfl
      have hdis := H.inj _ _ c c' L L' g2 k2 hid (g4 rfl) k3 g1 k1 F F' g5 k5
      have e1 : M = L := by
        rw [hi' j hlt, ha] at h1
        simp only [Option.bind_some, Ar.loc] at h1
        simp only [Ar.id] at g1
        rw [g1] at h1; simpa using h1.symm
      subst e1
      have hcx := g7 i x rfl
      subst hcx
      have eK : K = F := Rep.det hK g5
      subst eK
      rw [hi' k hlt', ha'] at h2
      simp only [Option.bind_some] at h2
      have e2 := locb a' L' N k1 h2
      cases a' with
      | o i' x' =>
        have hcx' := k7 i' x' rfl
        subst hcx'
        have : N = L' := by
          simp only [Ar.loc] at h2; simp only [Ar.id] at k1; rw [k1] at h2; simpa using h2.symm
        subst this
        have eK' : K' = F' := Rep.det hK' k5
        subst eK'
        exact hdis
      | w i' off row =>
        have : K' = [N.b] := hK'
        intro z hz hz'
        rw [this] at hz'; simp at hz'
        rw [hz', e2] at hz
        exact hdis _ hz k6
  · rw [smallH_get] at hj
    by_cases hlt : j < NG
    · rw [if_pos hlt] at hj; cases hj
    · rw [if_neg hlt, Option.map_eq_none_iff] at hj
      rw [hi' j hlt, hj]; rfl
  · rw [smallH_n] at hj
    rw [smallH_get, if_neg (by omega), List.getElem?_eq_none (by omega)]; rfl
  · by_cases hlt : j < NG
    · rw [lo j hlt] at hL; exact H.lt j L hL
    · rw [hi' j hlt] at hL
      rw [Option.bind_eq_some_iff] at hL
      obtain ⟨a, ha, hL⟩ := hL
      obtain ⟨L0, b, F, hL0, _⟩ := Ar.at_ H a (hok a (List.mem_of_getElem? ha))
      rw [locb a L0 L hL0 hL]
      exact H.lt _ L0 hL0

/-- The things that were handed over, as they are behind the call. -/
def putsA : Heap → List Ar → List Ob → Heap
  | h, .o j _ :: l, x :: xs => putsA (h.put j (some (.obj x))) l xs
  | h, .w _ _ _ :: l, _ :: xs => putsA h l xs
  | h, _, _ => h
/-- Memory behind a call: the things turned, new ones made. -/
def outH (h : Heap) (l : List Ar) (xs ys : List Ob) : Heap := putsO ((putsA h l xs).up ys.length) h.n ys

theorem putsA_n : ∀ (l : List Ar) (xs : List Ob) (h : Heap), (putsA h l xs).n = h.n
  | .o j _ :: l, x :: xs, h => by simp only [putsA]; rw [putsA_n l]; rfl
  | .w _ _ _ :: l, _ :: xs, h => by simp only [putsA]; rw [putsA_n l]
  | [], _, _ => by simp [putsA]
  | .o _ _ :: _, [], _ => by simp [putsA]
  | .w _ _ _ :: _, [], _ => by simp [putsA]
theorem putsA_off : ∀ (l : List Ar) (xs : List Ob) (h : Heap) (j : Nat), (∀ a ∈ l, a.isO = true → a.id ≠ j) → (putsA h l xs).get j = h.get j
  | .o i x0 :: l, x :: xs, h, j, hj => by
    simp only [putsA]
    have hne : i ≠ j := hj (.o i x0) (by simp) rfl
    rw [putsA_off l xs _ j fun a ha => hj a (by simp [ha]), Heap.get_put, if_neg (Ne.symm hne)]
  | .w _ _ _ :: l, _ :: xs, h, j, hj => by
    simp only [putsA]
    exact putsA_off l xs _ j fun a ha => hj a (by simp [ha])
  | [], _, _, _, _ => by simp [putsA]
  | .o _ _ :: _, [], _, _, _ => by simp [putsA]
  | .w _ _ _ :: _, [], _, _, _ => by simp [putsA]
theorem putsA_at : ∀ (l : List Ar) (xs : List Ob) (h : Heap) (i j : Nat) (x0 x : Ob), arsNe l → l[i]? = some (.o j x0) → xs[i]? = some x → (putsA h l xs).get j = some (.obj x)
  | .o k _ :: l, y :: xs, h, 0, j, x0, x, hn, hi, hx => by
    simp at hi hx
    simp only [putsA]
    rw [putsA_off l xs _ j fun a ha hao => by have := hn.1 a ha (.inl rfl); simp only [Ar.id] at this ⊢; rw [← hi.1]; exact Ne.symm this]
    rw [Heap.get_put, hi.1, if_pos rfl, hx]
  | .w _ _ _ :: l, y :: xs, h, 0, j, x0, x, hn, hi, hx => by simp at hi
  | .o k _ :: l, y :: xs, h, i + 1, j, x0, x, hn, hi, hx => by simp only [putsA]; exact putsA_at l xs _ i j x0 x hn.2 (by simpa using hi) (by simpa using hx)
  | .w _ _ _ :: l, y :: xs, h, i + 1, j, x0, x, hn, hi, hx => by simp only [putsA]; exact putsA_at l xs _ i j x0 x hn.2 (by simpa using hi) (by simpa using hx)
  | [], _, _, _, _, _, _, _, hi, _ => by simp at hi
  | _ :: _, [], _, _, _, _, _, _, _, hx => by simp at hx

theorem nodup_get : ∀ {l : List Nat} {m k q : Nat}, l.Nodup → l[m]? = some q → l[k]? = some q → m = k
  | [], m, _, _, _, h, _ => by simp at h
  | a :: l, m, k, q, hn, h1, h2 => by
    rw [List.nodup_cons] at hn
    cases m with
    | zero =>
      cases k with
      | zero => rfl
      | succ k => simp at h1 h2; subst h1; exact absurd (List.mem_of_getElem? h2) hn.1
    | succ m =>
      cases k with
      | zero => simp at h1 h2; subst h2; exact absurd (List.mem_of_getElem? h1) hn.1
      | succ k =>
        have : m = k := nodup_get hn.2 (q := q) (by simpa using h1) (by simpa using h2)
        rw [this]

/-- From the small memory back to the great one. -/
theorem back_ok {B : Nat → Prop} {ρ : Rho} {h : Heap} {w : World} (H : HR B ρ h w) {l : List Ar} (hok : ∀ a ∈ l, a.ok h) (hne : arsNe l)
    {ρ1 : Rho} {h1 : Heap} {w' : World} (hle : Le (rhoS ρ l) ρ1) (H1 : HR (Rest ρ w l) ρ1 h1 w') (hk : Keeps (Rest ρ w l) w w') {xs ys : List Ob} {frs : List Nat} (hx : xs.length = l.length)
    (hxs : ∀ (i j : Nat) (x0 x : Ob), l[i]? = some (.o j x0) → xs[i]? = some x → h1.get (NG + i) = some (.obj x)) (hfl : frs.length = ys.length)
    (hys : ∀ (m f : Nat) (y : Ob), frs[m]? = some f → ys[m]? = some y → h1.get f = some (.obj y)) (hnd : frs.Nodup) (hge : ∀ f ∈ frs, NG + l.length ≤ f) :
    ∃ ρ', Le ρ ρ' ∧ (∀ (m f : Nat), frs[m]? = some f → ρ' (h.n + m) = ρ1 f) ∧ HR B ρ' (outH h l xs ys) w' ∧ Keeps B w w' := by
  have hBR := rest_le H hok
  let ρ' : Rho := fun j => if j < h.n then ρ j else (frs[j - h.n]?).bind ρ1
  have lo : ∀ j, j < h.n → ρ' j = ρ j := fun j hj => by simp only [ρ']; rw [if_pos hj]
  have hi' : ∀ m, ρ' (h.n + m) = (frs[m]?).bind ρ1 := fun m => by simp only [ρ']; rw [if_neg (by omega), Nat.add_sub_cancel_left]
  have hinN : ∀ j b, h.get j = some b → j < h.n := by
    intro j b hb
    rcases Nat.lt_or_ge j h.n with h1 | h1
    · exact h1
    · rw [H.top j h1] at hb; cases hb
  have hle' : Le ρ ρ' := by
    intro j L hj
    have : j < h.n := by
      rcases Nat.lt_or_ge j h.n with h2 | h2
      · exact h2
      · rw [H.new j (H.top j h2)] at hj; cases hj
    rw [lo j this]; exact hj
  -- a block of the new memory
  have blk : ∀ j b, (outH h l xs ys).get j = some b →
      (∃ (m f : Nat) (y : Ob), j = h.n + m ∧ frs[m]? = some f ∧ ys[m]? = some y ∧ b = .obj y) ∨ (∃ (i : Nat) (x0 x : Ob), j < h.n ∧ l[i]? = some (Ar.o j x0) ∧ xs[i]? = some x ∧ b = .obj x) ∨ (j < h.n ∧ (∀ a ∈ l, a.isO = true → a.id ≠ j) ∧ h.get j = some b) := by
    intro j b hj
    simp only [outH] at hj
    rw [putsO_get, Heap.get_up] at hj
    by_cases hr : h.n ≤ j ∧ j < h.n + ys.length
    · rw [if_pos hr, Option.map_eq_some_iff] at hj
      obtain ⟨y, hy, rfl⟩ := hj
      have hlt : j - h.n < frs.length := by omega
      exact .inl ⟨j - h.n, frs[j - h.n]'hlt, y, by omega, by simp [hlt], hy, rfl⟩
    · rw [if_neg hr] at hj
      right
      by_cases ho : ∃ a, a ∈ l ∧ a.isO = true ∧ a.id = j
      · obtain ⟨a, ha, hao, haj⟩ := ho
        cases a with
        | w _ _ _ => simp [Ar.isO] at hao
        | o j' x0 =>
          simp only [Ar.id] at haj; subst haj
          obtain ⟨i, hilt, hi⟩ := List.getElem_of_mem ha
          have hil : l[i]? = some (.o j' x0) := by rw [List.getElem?_eq_getElem hilt, hi]
          have hxi : xs[i]? = some (xs[i]'(by omega)) := by rw [List.getElem?_eq_getElem (by omega)]
          left
          rw [putsA_at l xs h i j' x0 _ hne hil hxi] at hj
          exact ⟨i, x0, _, hinN _ _ (hok _ ha), hil, hxi, by simpa using hj.symm⟩
      · right
        have hno : ∀ a ∈ l, a.isO = true → a.id ≠ j := fun a ha hao haj => ho ⟨a, ha, hao, haj⟩
        rw [putsA_off l xs h j hno] at hj
        exact ⟨hinN j b hj, hno, hj⟩
  -- what was not handed over is as it was
  have rest : ∀ j b L F, (∀ a ∈ l, a.isO = true → a.id ≠ j) → h.get j = some b → ρ j = some L → b ≠ .dead → Foot w L b F → ∀ z ∈ F, Rest ρ w l z := by
    intro j b L F hno hj hL hd hF z hz
    obtain ⟨F', hF', hlt, _⟩ := H.foot hj hL
    have : F' = F := hF'.congr (fun _ _ => rfl) hF
    subst this
    refine ⟨hlt hd z hz, fun i j' x M G hi hM hR hin => ?_⟩
    have hmem := List.mem_of_getElem? hi
    exact H.inj j' j _ b M L (hok _ hmem : h.get j' = _) hj (hno _ hmem rfl) rfl hd hM hL G F' hR hF z hin hz
  -- where the things lie, and what is theirs
  have thing : ∀ (i j : Nat) (x0 x : Ob), l[i]? = some (Ar.o j x0) → xs[i]? = some x → ∃ L F, ρ j = some L ∧ ρ1 (NG + i) = some L ∧ Rep w' x L F ∧ ∀ z ∈ F, ¬ Rest ρ w l z := by
    intro i j x0 x hi hxi
    have hg1 := hxs i j x0 x hi hxi
    obtain ⟨L1, hL1, F, hR, hB⟩ := H1.blk _ _ hg1
    obtain ⟨L, hL, _⟩ := H.blk j _ (hok _ (List.mem_of_getElem? hi) : h.get j = some (.obj x0))
    have : rhoS ρ l (NG + i) = some L := by
      simp only [rhoS]; rw [if_neg (by omega), Nat.add_sub_cancel_left, hi]; exact hL
    have := hle _ _ this
    rw [hL1] at this; simp only [Option.some.injEq] at this; subst this
    exact ⟨L1, F, hL, hL1, hR, hB⟩
  have made : ∀ (m f : Nat) (y : Ob), frs[m]? = some f → ys[m]? = some y → ∃ L F, ρ1 f = some L ∧ ρ' (h.n + m) = some L ∧ Rep w' y L F ∧ ∀ z ∈ F, ¬ Rest ρ w l z := by
    intro m f y hf hy
    obtain ⟨L, hL, F, hR, hB⟩ := H1.blk _ _ (hys m f y hf hy)
    exact ⟨L, F, hL, by rw [hi', hf]; exact hL, hR, hB⟩
  -- each block: one of the small memory's, or one that is as it was
  have sort : ∀ j b M K, (outH h l xs ys).get j = some b → ρ' j = some M → Foot w' M b K → b ≠ .dead →
      (∃ q, q ≥ NG ∧ h1.get q = some b ∧ ρ1 q = some M ∧ b.rw = true ∧ (∀ z ∈ K, ¬ Rest ρ w l z) ∧ ((∃ (i : Nat) (x0 : Ob), l[i]? = some (Ar.o j x0) ∧ q = NG + i) ∨ ∃ m : Nat, frs[m]? = some q ∧ j = h.n + m)) ∨ (h.get j = some b ∧ ρ j = some M ∧ Foot w M b K ∧ (∀ z ∈ K, Rest ρ w l z)) := by
    intro j b M K hj hM hK hd
    rcases blk j b hj with ⟨m, f, y, rfl, hf, hy, rfl⟩ | ⟨i, x0, x, hjn, hi, hxi, rfl⟩ | ⟨hjn, hno, hj'⟩
    · left
      obtain ⟨L, F, hL, hL', hR, hB⟩ := made m f y hf hy
      rw [hL'] at hM; simp only [Option.some.injEq] at hM; subst hM
      have : K = F := Rep.det hK hR
      subst this
      have := hge f (List.mem_of_getElem? hf)
      exact ⟨f, by omega, hys m f y hf hy, hL, rfl, hB, .inr ⟨m, hf, rfl⟩⟩
    · left
      obtain ⟨L, F, hL, hL', hR, hB⟩ := thing i j x0 x hi hxi
      rw [lo j hjn, hL] at hM; simp only [Option.some.injEq] at hM; subst hM
      have : K = F := Rep.det hK hR
      subst this
      exact ⟨NG + i, by omega, hxs i j x0 x hi hxi, hL', rfl, hB, .inl ⟨i, x0, hi, rfl⟩⟩
    · right
      rw [lo j hjn] at hM
      obtain ⟨F, hF, _⟩ := H.foot hj' hM
      have hr := rest j b M F hno hj' hM hd hF
      have : F = K := hF.congr (fun z hz => hk.block z (hr z hz)) hK
      subst this
      exact ⟨hj', hM, hF, hr⟩
  refine ⟨ρ', hle', fun m f hf => by rw [hi', hf]; rfl, ⟨fun j b hj => ?_, fun j k b b' M N hj hk' hn hbw hcd h1' h2' K K' hK hK' => ?_, fun j hj => ?_, fun j hj => ?_, fun j L hL => ?_, fun z hz => Nat.lt_of_lt_of_le (H.low z hz) hk.size⟩, hk.mono hBR⟩
  · rcases blk j b hj with ⟨m, f, y, rfl, hf, hy, rfl⟩ | ⟨i, x0, x, hjn, hi, hxi, rfl⟩ | ⟨hjn, hno, hj'⟩
    · obtain ⟨L, F, _, hL', hR, hB⟩ := made m f y hf hy
      exact ⟨L, hL', F, hR, fun z hz hBz => hB z hz (hBR z hBz)⟩
    · obtain ⟨L, F, hL, _, hR, hB⟩ := thing i j x0 x hi hxi
      exact ⟨L, by rw [lo j hjn]; exact hL, F, hR, fun z hz hBz => hB z hz (hBR z hBz)⟩
    · obtain ⟨L, hL, hb⟩ := H.blk j b hj'
      refine ⟨L, by rw [lo j hjn]; exact hL, ?_⟩
      by_cases hd : b = .dead
      · subst hd; trivial
      · obtain ⟨F, hF, _⟩ := H.foot hj' hL
        exact (hb.mono hle').kept hF fun z hz => hk.block z (rest j b L F hno hj' hL hd hF z hz)
  · have hbd : b ≠ .dead := by intro e; subst e; simp [Blk.rw] at hbw
    rcases sort j b M K hj h1' hK hbd with ⟨q, _, q1, q2, q3, q4, q5⟩ | ⟨a1, a2, a3, a4⟩ <;> rcases sort k b' N K' hk' h2' hK' hcd with ⟨p, _, p1, p2, p3, p4, p5⟩ | ⟨b1, b2, b3, b4⟩
    · have hqp : q ≠ p := by
        intro e; subst e
        rcases q5 with ⟨i, x0, q6, q7⟩ | ⟨m, q6, q7⟩ <;> rcases p5 with ⟨i', x0', p6, p7⟩ | ⟨m', p6, p7⟩
        · have : i = i' := by omega
          subst this; rw [q6] at p6; simp only [Option.some.injEq, Ar.o.injEq] at p6; exact hn p6.1
        · have := hge q (List.mem_of_getElem? p6)
          have : i < l.length := (List.getElem?_eq_some_iff.1 q6).1
          omega
        · have := hge q (List.mem_of_getElem? q6)
          have : i' < l.length := (List.getElem?_eq_some_iff.1 p6).1
          omega
        · have hm : m = m' := nodup_get hnd q6 p6
          subst hm; exact hn (by rw [q7, p7])
      exact H1.inj q p b b' M N q1 p1 hqp hbw hcd q2 p2 K K' hK hK'
    · exact fun z hz hz' => q4 z hz (b4 z hz')
    · exact fun z hz hz' => p4 z hz' (a4 z hz)
    · exact H.inj j k b b' M N a1 b1 hn hbw hcd a2 b2 K K' a3 b3
  · rcases Nat.lt_or_ge j h.n with hjn | hjn
    · rw [lo j hjn]
      apply H.new
      by_cases ho : ∃ a, a ∈ l ∧ a.isO = true ∧ a.id = j
      · exfalso
        obtain ⟨a, ha, hao, haj⟩ := ho
        cases a with
        | w _ _ _ => simp [Ar.isO] at hao
        | o j' x0 =>
          simp only [Ar.id] at haj; subst haj
          obtain ⟨i, hilt, hi⟩ := List.getElem_of_mem ha
          have hil : l[i]? = some (.o j' x0) := by rw [List.getElem?_eq_getElem hilt, hi]
          have hxi : xs[i]? = some (xs[i]'(by omega)) := by rw [List.getElem?_eq_getElem (by omega)]
          simp only [outH] at hj
          rw [putsO_get, if_neg (by omega), Heap.get_up, putsA_at l xs h i j' x0 _ hne hil hxi] at hj
          cases hj
      · simp only [outH] at hj
        rw [putsO_get, if_neg (by omega), Heap.get_up, putsA_off l xs h j fun a ha hao haj => ho ⟨a, ha, hao, haj⟩] at hj
        exact hj
    · obtain ⟨m, rfl⟩ := Nat.exists_eq_add_of_le hjn
      rw [hi']
      simp only [outH] at hj
      rw [putsO_get] at hj
      by_cases hm : m < ys.length
      · rw [if_pos (by omega), Nat.add_sub_cancel_left, Option.map_eq_none_iff] at hj
        rw [List.getElem?_eq_none_iff] at hj; omega
      · rw [List.getElem?_eq_none (by omega)]; rfl
  · simp only [outH, putsO_n, Heap.up_n, putsA_n] at hj
    simp only [outH]
    rw [putsO_get, if_neg (by omega), Heap.get_up, putsA_off l xs h j fun a ha hao haj => ?_]
    · exact H.top j (by omega)
    · cases a with
      | w _ _ _ => simp [Ar.isO] at hao
      | o j' x0 => simp only [Ar.id] at haj; subst haj; have := hinN _ _ (hok _ ha); omega
  · rcases Nat.lt_or_ge j h.n with hjn | hjn
    · rw [lo j hjn] at hL
      exact Nat.lt_of_lt_of_le (H.lt j L hL) hk.size
    · obtain ⟨m, rfl⟩ := Nat.exists_eq_add_of_le hjn
      rw [hi', Option.bind_eq_some_iff] at hL
      obtain ⟨f, _, hL⟩ := hL
      exact H1.lt f L hL

end Gw
