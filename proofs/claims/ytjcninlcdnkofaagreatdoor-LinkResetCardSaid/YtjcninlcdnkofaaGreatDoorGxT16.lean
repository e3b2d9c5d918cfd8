/- A call that makes rows of cells; pointers among them. -/
import Derived.Test.YtjcninlcdnkofaaGreatDoorGxT8
import Derived.Test.YtjcninlcdnkofaaGreatDoorGxB4
noncomputable section
namespace Gw
open Go Go.RowKit

def putsC : Heap → Nat → List (List V) → Heap
  | h, _, [] => h
  | h, n, r :: l => putsC (h.put n (some (.cells false r))) (n + 1) l
theorem putsC_n : ∀ (l : List (List V)) (h : Heap) (n : Nat), (putsC h n l).n = h.n
  | [], _, _ => rfl
  | _ :: l, h, n => by simp only [putsC]; rw [putsC_n l]; rfl
theorem putsC_get : ∀ (l : List (List V)) (h : Heap) (n j : Nat), (putsC h n l).get j = if n ≤ j ∧ j < n + l.length then (l[j - n]?).map (Blk.cells false) else h.get j
  | [], h, n, j => by simp only [putsC, List.length_nil]; rw [if_neg (by omega)]
  | y :: ys, h, n, j => by
    simp only [putsC]
    rw [putsC_get ys, Heap.get_put]
    by_cases h1 : n + 1 ≤ j ∧ j < n + 1 + ys.length
    · rw [if_pos h1, if_pos (by simp only [List.length_cons]; omega)]
      rw [show j - n = (j - (n + 1)) + 1 by omega]; simp
    · rw [if_neg h1]
      by_cases h2 : j = n
      · subst h2; rw [if_pos rfl, if_pos (by simp)]; simp
      · rw [if_neg h2, if_neg (by simp only [List.length_cons]; omega)]
theorem putsC_put : ∀ (l : List (List V)) (h : Heap) (n i : Nat) (b : Option Blk), i < n → putsC (h.put i b) n l = (putsC h n l).put i b
  | [], _, _, _, _, _ => rfl
  | r :: l, h, n, i, b, hi => by
    simp only [putsC]
    rw [Heap.put_comm _ _ _ _ _ (show i ≠ n by omega), putsC_put l _ (n + 1) i b (by omega)]
theorem putsC_free : ∀ (l : List (List V)) (h : Heap) (n i : Nat), i < n → Free h i → Free (putsC h n l) i
  | [], _, _, _, _, hf => hf
  | r :: l, h, n, i, hi, hf => putsC_free l _ (n + 1) i (by omega) (hf.put (show i ≠ n by omega))

/-- Names turned. -/
def reV (frs : List Nat) (n : Nat) : V → V
  | .ptr f o => .ptr (n + frs.idxOf f) o
  | .slice f a b c d => .slice (n + frs.idxOf f) a b c d
  | v => v
def okV (frs : List Nat) : V → Bool
  | .ptr f _ => frs.contains f
  | .slice f _ _ _ _ => frs.contains f
  | v => v.flat
theorem reV_ok {ρ1 ρ' : Rho} {frs : List Nat} {n : Nat} (hρ : ∀ f ∈ frs, ρ' (n + frs.idxOf f) = ρ1 f) {v : V} {x : Value} (hv : okV frs v = true) (h : VR ρ1 v x) : VR ρ' (reV frs n v) x := by
  cases v with
  | ptr f o =>
    have hm : f ∈ frs := by simpa [okV] using hv
    simp only [reV, VR] at h ⊢
    obtain ⟨L, h1, h2⟩ := h
    exact ⟨L, by rw [hρ f hm]; exact h1, h2⟩
  | slice f a b c d =>
    have hm : f ∈ frs := by simpa [okV] using hv
    simp only [reV, VR] at h ⊢
    obtain ⟨a', k, h1, h2, h3, L, h5, h6⟩ := h
    exact ⟨a', k, h1, h2, h3, L, by rw [hρ f hm]; exact h5, h6⟩
  | bool _ => exact VR.flat _ x hv h
  | int _ _ => exact VR.flat _ x hv h
  | str _ => exact VR.flat _ x hv h
  | nilp => exact VR.flat _ x hv h
  | nils => exact VR.flat _ x hv h
  | map _ => exact VR.flat _ x hv h
  | nilm => exact VR.flat _ x hv h
  | func _ _ => exact VR.flat _ x hv h
  | nilf => exact VR.flat _ x hv h
  | iface _ _ => exact VR.flat _ x hv h
  | nili => exact VR.flat _ x hv h
  | agg _ => exact VR.flat _ x hv h
  | tup _ => exact VR.flat _ x hv h
theorem reVs_ok {ρ1 ρ' : Rho} {frs : List Nat} {n : Nat} (hρ : ∀ f ∈ frs, ρ' (n + frs.idxOf f) = ρ1 f) : ∀ {l : List V} {xs : List Value}, l.all (okV frs) = true → VRs ρ1 l xs → VRs ρ' (l.map (reV frs n)) xs
  | [], _, _, h => h
  | v :: l, xs, hl, h => by
    simp only [List.all_cons, Bool.and_eq_true] at hl
    obtain ⟨y, ys, rfl, h1, h2⟩ := h
    exact VRs.cons (reV_ok hρ hl.1 h1) (reVs_ok hρ hl.2 h2)
def gotC (frs : List Nat) (h : Heap) : List (Option Blk) := frs.map h.get
def cellsC (rows : List (List V)) : List (Option Blk) := rows.map fun r => some (.cells false r)
theorem gotC_at {frs : List Nat} {rows : List (List V)} {h : Heap} (e : gotC frs h = cellsC rows) : frs.length = rows.length ∧ ∀ (m f : Nat) (r : List V), frs[m]? = some f → rows[m]? = some r → h.get f = some (.cells false r) := by
  have hl := congrArg List.length e
  simp only [gotC, cellsC, List.length_map] at hl
  refine ⟨hl, fun m f r h1 h2 => ?_⟩
  have := congrArg (fun l => l[m]?) e
  simp only [gotC, cellsC, List.getElem?_map, h1, h2, Option.map_some, Option.some.injEq] at this
  exact this

section
variable {P : Program}
theorem con_cells {f : Nat} {args : List V} {k0 k1 k2 : List Int} {frs : List Nat} {rows : List (List V)} {rs : List V} (ha : V.flats args = true)
    (hrun : Run P f args (tabH k0 k1 k2 3) fun r1 h1 => r1 = .tup rs ∧ gotC frs h1 = cellsC rows) (hnd : frs.Nodup)
    (hok : rows.all (fun r => r.all (okV frs)) = true) (hrs : rs.all (okV frs) = true) (hany : isAnyL rs = false) {h : Heap} (ht : tabIn k0 k1 k2 h = some ()) :
    Con P f args h (.tup (rs.map (reV frs h.n))) (putsC (h.up rows.length) h.n (rows.map (List.map (reV frs h.n)))) := by
  refine ⟨hrun.1, fun B ρ xs w hG hv H => ?_⟩
  simp only [tabIn, Option.bind_eq_some_iff] at ht
  obtain ⟨_, t0, _, t1, t2⟩ := ht
  obtain ⟨ρ0, g0, _, H0, _⟩ := HR.tabsP (TabP.of_pre H hG (by decide) t0) (TabP.of_pre H hG (by decide) t1) (TabP.of_pre H hG (by decide) t2) (fun k => k < w.heap.size) (fun _ h => h) 3 (Nat.le_refl _)
  refine (hrun.2 (fun k => k < w.heap.size) ρ0 xs w g0 (VRs.flat _ _ ha hv) H0).mono fun e w' ⟨x, r1, h1, ρ2, e1, ⟨e2, hgot⟩, _, v2, H2, k2⟩ => ?_
  subst e2
  obtain ⟨hlen, hat⟩ := gotC_at hgot
  have H' : HR B ρ h w' := H.below k2.below
  let ρ' : Rho := fun j => if j < h.n then ρ j else (frs[j - h.n]?).bind ρ2
  have lo : ∀ j, j < h.n → ρ' j = ρ j := fun j hj => by simp only [ρ']; rw [if_pos hj]
  have hi' : ∀ m, ρ' (h.n + m) = (frs[m]?).bind ρ2 := fun m => by simp only [ρ']; rw [if_neg (by omega), Nat.add_sub_cancel_left]
  have hρ : ∀ f ∈ frs, ρ' (h.n + frs.idxOf f) = ρ2 f := by
    intro f hf
    have h1 : frs.idxOf f < frs.length := List.idxOf_lt_length_iff.2 hf
    have h2 : frs[frs.idxOf f]? = some f := by
      rw [List.getElem?_eq_getElem h1]
      exact congrArg some (List.getElem_idxOf h1)
    rw [hi', h2]; rfl
  have hinN : ∀ j b, h.get j = some b → j < h.n := by
    intro j b hb
    rcases Nat.lt_or_ge j h.n with h1 | h1
    · exact h1
    · rw [H.top j h1] at hb; cases hb
  have hle' : Le ρ ρ' := by
    intro j L hj
    have : j < h.n := by
      rcases Nat.lt_or_ge j h.n with h2 | h2
      · exact h2
      · rw [H.new j (H.top j h2)] at hj; cases hj
    rw [lo j this]; exact hj
  have get : ∀ j b, (putsC (h.up rows.length) h.n (rows.map (List.map (reV frs h.n)))).get j = some b →
      (∃ (m f : Nat) (r : List V), j = h.n + m ∧ frs[m]? = some f ∧ rows[m]? = some r ∧ b = .cells false (r.map (reV frs h.n))) ∨ (j < h.n ∧ h.get j = some b) := by
    intro j b hj
    rw [putsC_get, Heap.get_up, List.length_map] at hj
    by_cases hr : h.n ≤ j ∧ j < h.n + rows.length
    · rw [if_pos hr, List.getElem?_map, Option.map_map, Option.map_eq_some_iff] at hj
      obtain ⟨r, hr', rfl⟩ := hj
      have hlt : j - h.n < frs.length := by omega
      exact .inl ⟨j - h.n, frs[j - h.n]'hlt, r, by omega, by simp [hlt], hr', rfl⟩
    · rw [if_neg hr] at hj
      exact .inr ⟨hinN j b hj, hj⟩
  have made : ∀ (m f : Nat) (r : List V), frs[m]? = some f → rows[m]? = some r → ∃ L, ρ2 f = some L ∧ ρ' (h.n + m) = some L ∧ BR (fun k => k < w.heap.size) ρ2 L w' (.cells false r) := by
    intro m f r hf hr
    obtain ⟨L, hL, hb⟩ := H2.blk _ _ (hat m f r hf hr)
    exact ⟨L, hL, by rw [hi', hf]; exact hL, hb⟩
  have old : ∀ j b L F, h.get j = some b → ρ j = some L → b ≠ .dead → Foot w' L b F → ∀ z ∈ F, z < w.heap.size := by
    intro j b L F hj hL hd hF z hz
    obtain ⟨F', hF', hlt, _⟩ := H.foot hj hL
    have : F' = F := hF'.congr (fun z hz => k2.block z (hlt hd z hz)) hF
    subst this
    exact hlt hd z hz
  have okr : ∀ (m : Nat) (r : List V), rows[m]? = some r → r.all (okV frs) = true := fun m r hr => List.all_eq_true.1 hok r (List.mem_of_getElem? hr)
  refine ⟨x, ρ', e1, hle', ?_, ⟨fun j b hj => ?_, fun j k b c L M hj hk hn hbw hcd hL hM F G hF hG' => ?_, fun j hj => ?_, fun j hj => ?_, fun j L hL => ?_, fun z hz => Nat.lt_of_lt_of_le (H.low z hz) k2.size⟩, k2.mono fun k hk => H.low k hk⟩
  · simp only [VR] at v2 ⊢
    rcases v2 with hv2 | ⟨a, ha2, hv2⟩
    · rw [hany] at hv2; cases hv2
    · exact .inr ⟨a, ha2, reVs_ok hρ hrs hv2⟩
  · rcases get j b hj with ⟨m, f, r, rfl, hf, hr, rfl⟩ | ⟨hjn, hj'⟩
    · obtain ⟨L, hL, hL', c, e, fz, b1, b2, b3, b4, b5⟩ := made m f r hf hr
      refine ⟨L, hL', c, e, fz, b1, b2, by rw [List.length_map]; exact b3, fun t v ht => ?_, fun _ => ⟨fun hB => (b5 rfl).1 (H.low _ hB), (b5 rfl).2⟩⟩
      rw [List.getElem?_map, Option.map_eq_some_iff] at ht
      obtain ⟨u, hu, rfl⟩ := ht
      obtain ⟨y, hy, hv⟩ := b4 t u hu
      exact ⟨y, hy, reV_ok hρ (List.all_eq_true.1 (okr m r hr) u (List.mem_of_getElem? hu)) hv⟩
    · obtain ⟨L, hL, hb⟩ := H'.blk j b hj'
      exact ⟨L, by rw [lo j hjn]; exact hL, hb.mono hle'⟩
  · rcases get j b hj with ⟨m, f, r, rfl, hf, hr, rfl⟩ | ⟨hjn, hj'⟩ <;> rcases get k c hk with ⟨m', f', r', rfl, hf', hr', rfl⟩ | ⟨hkn, hk'⟩
    · obtain ⟨L1, l1, l2, _⟩ := made m f r hf hr
      obtain ⟨M1, m1, m2, _⟩ := made m' f' r' hf' hr'
      rw [l2] at hL; rw [m2] at hM
      simp only [Option.some.injEq] at hL hM
      subst hL hM
      have hne : f ≠ f' := by
        intro e; subst e
        have := nodup_get hnd hf hf'
        omega
      exact H2.inj f f' _ _ _ _ (hat m f r hf hr) (hat m' f' r' hf' hr') hne rfl (by simp) l1 m1 F G hF hG'
    · obtain ⟨L1, l1, l2, c', e, fz, b1, b2, b3, b4, b5⟩ := made m f r hf hr
      rw [l2] at hL; simp only [Option.some.injEq] at hL; subst hL
      have hF' : F = [L1.b] := hF
      rw [lo k hkn] at hM
      intro z hz hz'
      rw [hF'] at hz; simp at hz; subst hz
      exact (b5 rfl).1 (old k c M G hk' hM hcd hG' _ hz')
    · obtain ⟨M1, m1, m2, c', e, fz, b1, b2, b3, b4, b5⟩ := made m' f' r' hf' hr'
      rw [m2] at hM; simp only [Option.some.injEq] at hM; subst hM
      have hG2 : G = [M1.b] := hG'
      rw [lo j hjn] at hL
      intro z hz hz'
      rw [hG2] at hz'; simp at hz'; subst hz'
      exact (b5 rfl).1 (old j b L F hj' hL (by intro e; subst e; simp [Blk.rw] at hbw) hF _ hz)
    · rw [lo j hjn] at hL; rw [lo k hkn] at hM
      exact H'.inj j k b c L M hj' hk' hn hbw hcd hL hM F G hF hG'
  · rw [putsC_get, Heap.get_up, List.length_map] at hj
    rcases Nat.lt_or_ge j h.n with hjn | hjn
    · rw [if_neg (by omega)] at hj
      rw [lo j hjn]; exact H.new j hj
    · obtain ⟨m, rfl⟩ := Nat.exists_eq_add_of_le hjn
      rw [hi']
      by_cases hm : m < rows.length
      · rw [if_pos (by omega), Nat.add_sub_cancel_left, List.getElem?_map] at hj
        rw [List.getElem?_eq_getElem hm] at hj
        simp at hj
      · rw [List.getElem?_eq_none (by omega)]; rfl
  · rw [putsC_n, Heap.up_n] at hj
    rw [putsC_get, Heap.get_up, List.length_map, if_neg (by omega)]
    exact H.top j (by omega)
  · rcases Nat.lt_or_ge j h.n with hjn | hjn
    · rw [lo j hjn] at hL
      exact Nat.lt_of_lt_of_le (H.lt j L hL) k2.size
    · obtain ⟨m, rfl⟩ := Nat.exists_eq_add_of_le hjn
      rw [hi', Option.bind_eq_some_iff] at hL
      obtain ⟨f, _, hL⟩ := hL
      exact H2.lt f L hL

theorem fr_tabIn' (k0 k1 k2 : List Int) : FrR (tabIn k0 k1 k2) :=
  (fr_preAt 0 k0).bindR (g := fun _ h => (preAt h 1 k1).bind fun _ => preAt h 2 k2) fun _ => (fr_preAt 1 k1).bindR (g := fun _ h => preAt h 2 k2) fun _ => fr_preAt 2 k2
/-- A function of plain values that makes rows; what they come to is given by the place, and asked for. -/
def gNew (k0 k1 k2 : List Int) (dom : List V → Prop) (p : List V → Nat → List (List V)) (rs : Nat → List V) (orc : Nat → Option (List (List V))) (args : List V) (h : Heap) : DT (V × Heap) :=
  match tabIn k0 k1 k2 h with
  | some _ => (match orc h.n with
    | some l => .ob (dom args ∧ p args h.n = l) (.leaf (.tup (rs h.n), putsC (h.up l.length) h.n l))
    | none => .fail)
  | none => .fail
theorem gNew_iff {k0 k1 k2 : List Int} {dom : List V → Prop} {p : List V → Nat → List (List V)} {rs : Nat → List V} {orc : Nat → Option (List (List V))} {args : List V} {h : Heap} {r : V} {h' : Heap} :
    (gNew k0 k1 k2 dom p rs orc args h).run = some (r, h') ↔ tabIn k0 k1 k2 h = some () ∧ orc h.n = some (p args h.n) ∧ dom args ∧ r = .tup (rs h.n) ∧ h' = putsC (h.up (p args h.n).length) h.n (p args h.n) := by
  classical
  unfold gNew
  cases tabIn k0 k1 k2 h with
  | none => simp [DT.run]
  | some u =>
    cases ho : orc h.n with
    | none => simp [DT.run]
    | some l =>
      by_cases hd : dom args
      · by_cases hl : p args h.n = l
        · subst hl
          simp only [DT.run, hd, and_self, if_true, Option.some.injEq, Prod.mk.injEq, true_and]
          exact and_congr eq_comm eq_comm
        · have hl' : ¬ l = p args h.n := fun e => hl e.symm
          simp [DT.run, hl, hl']
      · simp [DT.run, hd]
theorem ansNew {f : Nat} {k0 k1 k2 : List Int} {dom : List V → Prop} {p : List V → Nat → List (List V)} {rs : Nat → List V} (orc : Nat → Option (List (List V)))
    (hp : ∀ args, dom args → V.flats args = true ∧ ∃ (frs : List Nat) (rows : List (List V)) (rs0 : List V), (Run P f args (tabH k0 k1 k2 3) fun r1 h1 => r1 = .tup rs0 ∧ gotC frs h1 = cellsC rows) ∧ frs.Nodup ∧
      rows.all (fun r => r.all (okV frs)) = true ∧ rs0.all (okV frs) = true ∧ isAnyL rs0 = false ∧ (∀ n, p args n = rows.map (List.map (reV frs n))) ∧ ∀ n, rs n = rs0.map (reV frs n)) :
    AnsO P f (fun args h => (gNew k0 k1 k2 dom p rs orc args h).run) := by
  refine ⟨fun args h r h' hr i b hf => ?_, fun args h r h' hr => ?_⟩
  · obtain ⟨h1, h2, h3, rfl, rfl⟩ := gNew_iff.1 hr
    have hi : i < h.n := hf.2
    refine ⟨gNew_iff.2 ⟨fr_tabIn' k0 k1 k2 _ _ h1 i b hf, h2, h3, rfl, ?_⟩, putsC_free _ _ _ _ hi (Free.up hf)⟩
    show (putsC (h.up _) h.n _).put i b = putsC ((h.put i b).up _) h.n _
    rw [← putsC_put _ _ _ _ _ hi]
    rfl
  · obtain ⟨h1, h2, h3, rfl, rfl⟩ := gNew_iff.1 hr
    obtain ⟨ha, frs, rows, rs0, hrun, c1, c2, c3, c4, c5, c6⟩ := hp args h3
    rw [c5, c6, List.length_map]
    exact con_cells ha hrun c1 c2 c3 c4 h1
end
end Gw
