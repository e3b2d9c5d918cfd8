/- Operations that ask nothing of memory: parts, indexes, and all of them together. -/
import Derived.Test.YtkehghjhbfoooaaGreatDoorGxA7
noncomputable section
namespace Gw
open Go

theorem foldSet : ∀ (vs : List Value) (n off : Nat) (cells : Array Value), off + n + vs.length ≤ cells.size →
    ((vs.zipIdx n).foldl (fun cs (p : Value × Nat) => cs.setIfInBounds (off + p.2) p.1) cells).size = cells.size ∧
    ∀ k, ((vs.zipIdx n).foldl (fun cs (p : Value × Nat) => cs.setIfInBounds (off + p.2) p.1) cells)[k]? = if off + n ≤ k ∧ k < off + n + vs.length then vs[k - (off + n)]? else cells[k]?
  | [], n, off, cells, h => ⟨rfl, fun k => by rw [if_neg (by simp)]; rfl⟩
  | v :: vs, n, off, cells, h => by
    simp only [List.zipIdx_cons, List.foldl_cons]
    simp only [List.length_cons] at h
    obtain ⟨h1, h2⟩ := foldSet vs (n + 1) off (cells.setIfInBounds (off + n) v) (by simp; omega)
    refine ⟨by rw [h1]; simp, fun k => ?_⟩
    rw [h2 k]
    by_cases hk : off + (n + 1) ≤ k ∧ k < off + (n + 1) + vs.length
    · rw [if_pos hk, if_pos (by simp; omega)]
      have : k - (off + n) = (k - (off + (n + 1))) + 1 := by omega
      rw [this, List.getElem?_cons_succ]
    · rw [if_neg hk]
      by_cases hk2 : k = off + n
      · subst hk2
        rw [if_pos (by simp), Array.getElem?_setIfInBounds_self_of_lt (by omega)]
        simp
      · rw [if_neg (by simp; omega)]
        rw [Array.getElem?_setIfInBounds_ne (by omega)]

theorem foldSet_VRs {ρ : Rho} {l vs r : List V} {off : Nat} {cells : Array Value} {xs : Array Value} (hl : VRs ρ l cells.toList) (hv : VRs ρ vs xs.toList) (hp : putAt l off vs = some r) :
    VRs ρ r (xs.zipIdx.foldl (fun cs (p : Value × Nat) => cs.setIfInBounds (off + p.2) p.1) cells).toList := by
  obtain ⟨h1, h2, h3⟩ := putAt_some l off vs r hp
  have e : xs.zipIdx.foldl (fun cs (p : Value × Nat) => cs.setIfInBounds (off + p.2) p.1) cells = (xs.toList.zipIdx 0).foldl (fun cs (p : Value × Nat) => cs.setIfInBounds (off + p.2) p.1) cells := by
    rw [← Array.foldl_toList, Array.toList_zipIdx]
  rw [e]
  have l1 := VRs.length hl
  have l2 := VRs.length hv
  simp only [Array.length_toList] at l1 l2
  obtain ⟨g1, g2⟩ := foldSet xs.toList 0 off cells (by simp; omega)
  refine VRs.of ?_ fun i v hi => ?_
  · rw [Array.length_toList, g1, h1, l1]
  · rw [Array.getElem?_toList, g2 i]
    rw [h3 i] at hi
    by_cases hk : off ≤ i ∧ i < off + vs.length
    · rw [if_pos hk] at hi
      rw [if_pos (by simp; omega)]
      exact hv.get hi
    · rw [if_neg hk] at hi
      rw [if_neg (by simp; omega)]
      have := hl.get hi
      rw [Array.getElem?_toList] at this
      exact this

/-- Parts that are laid into a row, in the model's way and in the machine's. -/
def PR (ρ : Rho) (place : Nat → Option (Nat × Nat)) : List (Nat × Nat × V) → List (Nat × Value) → Prop
  | [], ys => ys = []
  | (o, s, v) :: l, ys => ∃ i y ys', ys = (i, y) :: ys' ∧ place i = some (o, s) ∧ VR ρ v y ∧ PR ρ place l ys'

theorem fill_ok {ρ : Rho} {place : Nat → Option (Nat × Nat)} : ∀ {ps : List (Nat × Nat × V)} {ys : List (Nat × Value)} {l r : List V} {cells : Array Value},
    PR ρ place ps ys → VRs ρ l cells.toList → fillV l ps = some r → ∃ R, Instr.fill place cells ys = some R ∧ VRs ρ r R.toList
  | [], ys, l, r, cells, hp, hl, h => by
    simp only [PR] at hp; subst hp
    simp only [fillV, Option.some.injEq] at h; subst h
    exact ⟨cells, rfl, hl⟩
  | (o, s, v) :: ps, ys, l, r, cells, hp, hl, h => by
    obtain ⟨i, y, ys', rfl, hpl, hv, hps⟩ := hp
    simp only [fillV] at h
    split at h
    case isFalse => cases h
    rename_i hlen0
    obtain ⟨hnt, hlen⟩ := hlen0
    cases hq : putAt l o v.cells with
    | none => simp [hq] at h
    | some l' =>
      simp only [hq, Option.bind_some] at h
      have hc := VR.cells hv hnt
      have l1 := VRs.length hl
      have l2 := VRs.length hc
      simp only [Array.length_toList] at l1 l2
      obtain ⟨h1, h2, h3⟩ := putAt_some l o v.cells l' hq
      have hcond : ¬ ((decide (y.cells.size ≠ s) || decide (o + y.cells.size > cells.size)) = true) := by simp; omega
      obtain ⟨R, hR, hr⟩ := fill_ok (cells := y.cells.zipIdx.foldl (fun cs (p : Value × Nat) => cs.setIfInBounds (o + p.2) p.1) cells) hps (foldSet_VRs hl hc hq) h
      refine ⟨R, ?_, hr⟩
      simp only [Instr.fill, hpl]
      rw [if_neg hcond]
      exact hR

section
variable {P : Program} {ρ : Rho}

theorem placesOf_get : ∀ {fs : List Field} {pl : List (Nat × Nat)}, placesOf P fs = some pl → ∀ w, ((fs.mapM fun f => (do pure (f.offset, ← Go.sizeOf f.type) : Sem (Nat × Nat))).run P w = .ok pl w)
  | [], pl, h, w => by simp only [placesOf, Option.some.injEq] at h; subst h; rfl
  | f :: fs, pl, h, w => by
    simp only [placesOf] at h
    cases hs : szOf P f.type with
    | none => simp [hs] at h
    | some n =>
      simp only [hs, Option.bind_some] at h
      cases hp : placesOf P fs with
      | none => simp [hp] at h
      | some pl' =>
        simp only [hp, Option.map_some, Option.some.injEq] at h; subst h
        have := placesOf_get hp w
        simp only [bind_pure_comp] at this
        simp [List.mapM_cons, run_szOf hs, this]

theorem partsAt_PR (hg : GR ρ) {t : List V} {a : Act} (ht : TR ρ t a.tmps) {pl : List (Nat × Nat)} : ∀ {ps : List (Nat × Operand)} {qs : List (Nat × Nat × Opd)}, partsAt pl ps = some qs →
    PR ρ (pl[·]?) (evP t qs) (ps.map fun (i, x) => (i, a.eval x))
  | [], qs, h => by simp only [partsAt, Option.some.injEq] at h; subst h; simp [evP, PR]
  | (i, x) :: ps, qs, h => by
    simp only [partsAt] at h
    cases hp : pl[i]? with
    | none => simp [hp] at h
    | some p =>
      simp only [hp, Option.bind_some] at h
      cases hx : cOpd x with
      | none => simp [hx] at h
      | some y =>
        simp only [hx, Option.bind_some] at h
        cases hq : partsAt pl ps with
        | none => simp [hq] at h
        | some qs' =>
          simp only [hq, Option.map_some, Option.some.injEq] at h; subst h
          exact ⟨i, _, _, rfl, hp, sd_opd hg ht hx, partsAt_PR hg ht hq⟩

theorem partsBy_PR (hg : GR ρ) {t : List V} {a : Act} (ht : TR ρ t a.tmps) {n : Nat} : ∀ {ps : List (Nat × Operand)} {qs : List (Nat × Nat × Opd)}, partsBy n ps = some qs →
    PR ρ (fun i => some (i * n, n)) (evP t qs) (ps.map fun (i, x) => (i, a.eval x))
  | [], qs, h => by simp only [partsBy, Option.some.injEq] at h; subst h; simp [evP, PR]
  | (i, x) :: ps, qs, h => by
    simp only [partsBy] at h
    cases hx : cOpd x with
    | none => simp [hx] at h
    | some y =>
      simp only [hx, Option.bind_some] at h
      cases hq : partsBy n ps with
      | none => simp [hq] at h
      | some qs' =>
        simp only [hq, Option.map_some, Option.some.injEq] at h; subst h
        exact ⟨i, _, _, rfl, rfl, sd_opd hg ht hx, partsBy_PR hg ht hq⟩

/-- The cells of a zero value. -/
theorem run_zeroCs {t : TypeId} {z : List V} (h : zeroCs P t = some z) : ∃ x, VRs ρ z x.cells.toList ∧ szOf P t = some z.length ∧ ∀ w, (zeroValue t).run P w = .ok x w := by
  simp only [zeroCs] at h
  cases hz : zeroV P t with
  | none => simp [hz] at h
  | some v =>
    simp only [hz, Option.bind_some] at h
    cases hs : szOf P t with
    | none => simp [hs] at h
    | some n =>
      simp only [hs, Option.bind_some] at h
      split at h
      case isFalse => cases h
      rename_i hl
      simp only [Option.some.injEq] at h; subst h
      obtain ⟨x, hx, hr⟩ := run_zeroV (ρ := ρ) hz
      exact ⟨x, VR.cells hx hl.1, by rw [hl.2], hr⟩

theorem gives_idxS {t e : TypeId} {n : Nat} {x i v : V} {a b : Value} (hu : P.underlying t = some (.slice e)) (hn : szOf P e = some n) (h : idxS n x i = some v) (ha : VR ρ x a) (hb : VR ρ i b) :
    Gives P ρ v (Instr.indexAt t a b) := by
  cases x <;> cases i <;> simp only [idxS, reduceCtorEq] at h
  rename_i id off len e' cap k q
  split at h
  case isFalse => cases h
  rename_i hc
  obtain ⟨rfl, h0, h1⟩ := hc
  simp only [Option.some.injEq] at h; subst h
  simp only [VR] at ha hb; subst hb
  obtain ⟨A, c, rfl, hs⟩ := ha
  obtain ⟨L, hL, hA, _⟩ := hs.at (by have := hs.1; omega)
  · refine ⟨.pointer (some (A.add (q.toNat * e'))), ?_, fun w => ?_⟩
    · simp only [VR]; refine ⟨L, hL, ?_⟩; rw [hA, add_at]
    · simp [Instr.indexAt, asIntOf, run_underlying hu, run_szOf hn, h0, h1]

theorem gives_idxA {t e : TypeId} {n len : Nat} {x i v : V} {a b : Value} (hu : P.underlying t = some (.array len e)) (hn : szOf P e = some n) (h : idxA len n x i = some v) (ha : VR ρ x a) (hb : VR ρ i b) :
    Gives P ρ v (Instr.indexAt t a b) := by
  cases x <;> cases i <;> simp only [idxA, reduceCtorEq] at h
  rename_i id off k q
  split at h
  case isFalse => cases h
  rename_i hc
  obtain ⟨h0, h1⟩ := hc
  simp only [Option.some.injEq] at h; subst h
  simp only [VR] at ha hb; subst hb
  obtain ⟨L, hL, rfl⟩ := ha
  refine ⟨.pointer (some ((⟨L.b, L.o + off, none⟩ : Addr).add (q.toNat * n))), ?_, fun w => ?_⟩
  · simp only [VR]; refine ⟨L, hL, ?_⟩; rw [add_at]
  · simp [Instr.indexAt, Instr.sureAddr, asIntOf, run_underlying hu, run_szOf hn, h0, h1]

theorem gives_idxStr {t : TypeId} {x i v : V} {a b : Value} (hu : P.underlying t = some .string) (h : idxStr x i = some v) (ha : VR ρ x a) (hb : VR ρ i b) : Gives P ρ v (Instr.index t a b) := by
  cases x <;> cases i <;> simp only [idxStr, reduceCtorEq] at h
  rename_i s k q
  split at h
  case isFalse => cases h
  rename_i h0
  cases hs : s[q.toNat]? with
  | none => simp [hs] at h
  | some c =>
    simp only [hs, Option.map_some, Option.some.injEq] at h; subst h
    simp only [VR] at ha hb; subst ha hb
    refine ⟨.int .u8 c.toNat, by simp only [VR], fun w => ?_⟩
    have hs' : (⟨⟨s⟩⟩ : ByteArray)[q.toNat]? = some c := by
      obtain ⟨hlt, he⟩ := List.getElem?_eq_some_iff.1 hs
      have hlt' : q.toNat < (⟨⟨s⟩⟩ : ByteArray).size := hlt
      rw [getElem?_pos (⟨⟨s⟩⟩ : ByteArray) q.toNat hlt']
      congr 1
    simp [Instr.index, asIntOf, run_underlying hu, h0, hs']

theorem gives_idxArr {t e : TypeId} {n len : Nat} {g : Bool} {x i v : V} {a b : Value} (hu : P.underlying t = some (.array len e)) (hn : szOf P e = some n) (hg : aggOf P e = some g) (h : idxArr len n g x i = some v) (ha : VR ρ x a) (hb : VR ρ i b) :
    Gives P ρ v (Instr.index t a b) := by
  cases x <;> cases i <;> simp only [idxArr, reduceCtorEq] at h
  rename_i k q l
  split at h
  case isFalse => cases h
  rename_i hc
  obtain ⟨h0, h1⟩ := hc
  simp only [VR] at ha hb; subst hb
  obtain ⟨A, rfl, hA⟩ := ha
  obtain ⟨y, hy, hr⟩ := gives_part (P := P) hn hg hA h
  refine ⟨y, hy, fun w => ?_⟩
  simp [Instr.index, asIntOf, run_underlying hu, run_szOf hn, h0, h1, hr]

theorem gives_field {t : TypeId} {f off n : Nat} {g : Bool} {x v : V} {a : Value} (hf : fieldOf P t f = some (off, n, g)) (h : fieldV off n g x = some v) (ha : VR ρ x a) : Gives P ρ v (Instr.field t a f) := by
  unfold fieldOf at hf
  split at hf
  case h_2 => cases hf
  rename_i fs hu
  cases hff : fs[f]? with
  | none => simp [hff] at hf
  | some fd =>
    simp only [hff, Option.bind_some] at hf
    cases hs : szOf P fd.type with
    | none => simp [hs] at hf
    | some n' =>
      simp only [hs, Option.bind_some] at hf
      cases hga : aggOf P fd.type with
      | none => simp [hga] at hf
      | some g' =>
        simp only [hga, Option.map_some, Option.some.injEq, Prod.mk.injEq] at hf
        obtain ⟨rfl, rfl, rfl⟩ := hf
        cases x <;> simp only [fieldV, reduceCtorEq] at h
        simp only [VR] at ha
        obtain ⟨A, rfl, hA⟩ := ha
        obtain ⟨y, hy, hr⟩ := gives_part (P := P) hs hga hA h
        exact ⟨y, hy, fun w => by simp [Instr.field, run_underlying hu, hff, asAgg, hr]⟩

theorem gives_fieldA {t : TypeId} {f off n : Nat} {g : Bool} {id o : Nat} {a : Value} (hf : fieldOf P t f = some (off, n, g)) (hn : n ≠ 0) (ha : VR ρ (.ptr id o) a) : Gives P ρ (.ptr id (o + off)) (Instr.fieldAt t a f) := by
  unfold fieldOf at hf
  split at hf
  case h_2 => cases hf
  rename_i fs hu
  cases hff : fs[f]? with
  | none => simp [hff] at hf
  | some fd =>
    simp only [hff, Option.bind_some] at hf
    cases hs : szOf P fd.type with
    | none => simp [hs] at hf
    | some n' =>
      simp only [hs, Option.bind_some] at hf
      cases hga : aggOf P fd.type with
      | none => simp [hga] at hf
      | some g' =>
        simp only [hga, Option.map_some, Option.some.injEq, Prod.mk.injEq] at hf
        obtain ⟨rfl, rfl, rfl⟩ := hf
        simp only [VR] at ha
        obtain ⟨L, hL, rfl⟩ := ha
        refine ⟨.pointer (some ((⟨L.b, L.o + o, none⟩ : Addr).add fd.offset)), ?_, fun w => ?_⟩
        · simp only [VR]; exact ⟨L, hL, by rw [add_at]⟩
        · simp [Instr.fieldAt, Instr.sureAddr, fieldPlace, run_underlying hu, hff, run_szOf hs, hn]

theorem gives_tassert {xt t : TypeId} {z x v : V} {ok : Bool} {a : Value} (hz : zeroV P t = some z) (hu : ∃ d, P.underlying t = some d ∧ ∀ ms, d ≠ .interface ms) (h : tassertV t z ok x = some v) (ha : VR ρ x a) :
    Gives P ρ v (Instr.typeAssert a xt t ok) := by
  obtain ⟨zv, hzv, hrz⟩ := run_zeroV (ρ := ρ) hz
  obtain ⟨d, hd, hni⟩ := hu
  have nomatch_ : ∀ (a : Value) w, (Instr.typeAssert a xt t ok).run P w = (match a with
      | .nilIface => (if ok then (do pure (.tuple #[← zeroValue t, .bool false])) else runtimePanic (.typeAssertion (some xt) none t "") : Sem Value).run P w
      | .iface t' v => if t' = t then (pure (if ok then .tuple #[v, .bool true] else v) : Sem Value).run P w else (if ok then (do pure (.tuple #[← zeroValue t, .bool false])) else runtimePanic (.typeAssertion (some xt) (some t') t "") : Sem Value).run P w
      | _ => (stuck "TypeAssert: interface value expected" : Sem Value).run P w) := by
    intro a w
    simp only [Instr.typeAssert, Sem.run_bind, run_underlying hd, Result.andThen_ok]
    cases d <;> first | (exact absurd rfl (hni _)) | (cases a <;> first | rfl | (simp only []; split <;> rfl))
  cases x <;> simp only [tassertV, reduceCtorEq] at h
  · split at h
    case isFalse => cases h
    rename_i hok
    simp only [Option.some.injEq] at h; subst h
    simp only [VR] at ha; subst ha
    refine ⟨.tuple #[zv, .bool false], ?_, fun w => ?_⟩
    · simp only [VR]; exact .inr ⟨_, rfl, VRs.cons hzv (VRs.cons (by simp only [VR]) (by simp [VRs]))⟩
    · rw [nomatch_]; simp [hok, hrz]
  · rename_i t' u
    simp only [VR] at ha
    obtain ⟨y, rfl, hy⟩ := ha
    by_cases ht : t' = t
    · rw [if_pos ht] at h
      simp only [Option.some.injEq] at h; subst h
      refine ⟨if ok then .tuple #[y, .bool true] else y, ?_, fun w => ?_⟩
      · cases ok
        · exact hy
        · simp only [if_true, VR]; exact .inr ⟨_, rfl, VRs.cons hy (VRs.cons (by simp only [VR]) (by simp [VRs]))⟩
      · rw [nomatch_]; simp [ht]
    · rw [if_neg ht] at h
      split at h
      case isFalse => cases h
      rename_i hok
      simp only [Option.some.injEq] at h; subst h
      refine ⟨.tuple #[zv, .bool false], ?_, fun w => ?_⟩
      · simp only [VR]; exact .inr ⟨_, rfl, VRs.cons hzv (VRs.cons (by simp only [VR]) (by simp [VRs]))⟩
      · rw [nomatch_]; simp [ht, hok, hrz]

theorem gives_min : ∀ {xs : List V} {x v : V} {a : Value} {as : List Value}, minV x xs = some v → VR ρ x a → VRs ρ xs as → Gives P ρ v (as.foldlM Builtin.min2 a)
  | [], x, v, a, as, h, ha, hs => by
    simp only [minV, Option.some.injEq] at h; subst h
    rw [VRs.nil_iff] at hs; subst hs
    exact ⟨a, ha, fun _ => rfl⟩
  | y :: xs, x, v, a, as, h, ha, hs => by
    obtain ⟨b, bs, rfl, hb, hbs⟩ := hs
    cases x <;> cases y <;> simp only [minV, reduceCtorEq] at h
    rename_i k n k' m
    simp only [VR] at ha hb; subst ha hb
    obtain ⟨z, hz, hr⟩ := gives_min h (a := .int k (if m < n then m else n)) (by simp only [VR]) hbs
    exact ⟨z, hz, fun w => by simp [List.foldlM_cons, Builtin.min2, hr]⟩

theorem gives_max : ∀ {xs : List V} {x v : V} {a : Value} {as : List Value}, maxV x xs = some v → VR ρ x a → VRs ρ xs as → Gives P ρ v (as.foldlM Builtin.max2 a)
  | [], x, v, a, as, h, ha, hs => by
    simp only [maxV, Option.some.injEq] at h; subst h
    rw [VRs.nil_iff] at hs; subst hs
    exact ⟨a, ha, fun _ => rfl⟩
  | y :: xs, x, v, a, as, h, ha, hs => by
    obtain ⟨b, bs, rfl, hb, hbs⟩ := hs
    cases x <;> cases y <;> simp only [maxV, reduceCtorEq] at h
    rename_i k n k' m
    simp only [VR] at ha hb; subst ha hb
    obtain ⟨z, hz, hr⟩ := gives_max h (a := .int k (if m > n then m else n)) (by simp only [VR]) hbs
    exact ⟨z, hz, fun w => by simp [List.foldlM_cons, Builtin.max2, hr]⟩

end

end Gw
