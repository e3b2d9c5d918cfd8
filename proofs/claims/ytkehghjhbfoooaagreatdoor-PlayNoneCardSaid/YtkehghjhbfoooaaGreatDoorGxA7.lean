/- Operations that ask nothing of memory, the rest: equality, slices, indexes, parts; and all of them together. -/
import Derived.Test.YtkehghjhbfoooaaGreatDoorGxA6
import Derived.Laws.Slices
noncomputable section
namespace Gw
open Go

section
variable {P : Program} {ρ : Rho}

theorem eqrun {t : TypeId} {a b : Value} {r : Bool} (h : ∀ d w, (Op.equalIn (d + 1) t a b).run P w = .ok r w)
    (h1 : binOp .eql t a b = (do pure (.bool (← Op.equal t a b)))) (h2 : binOp .neq t a b = (do pure (.bool (!(← Op.equal t a b))))) :
    (∀ w, (binOp .eql t a b).run P w = .ok (.bool r) w) ∧ (∀ w, (binOp .neq t a b).run P w = .ok (.bool !r) w) := by
  have he : ∀ w, (Op.equal t a b).run P w = .ok r w := fun w => h 9999 w
  refine ⟨fun w => ?_, fun w => ?_⟩
  · rw [h1, Sem.run_bind, he]; rfl
  · rw [h2, Sem.run_bind, he]; rfl

theorem eqguard {t : TypeId} {a b : Value} (X Y : Operand) (op : BinOp) (h : match a, b with | .nilIface, .nilIface => False | .agg _, .agg _ => False | _, _ => True) (w : World) : (eqGuard op t X Y a b).run P w = .ok () w := by
  cases op <;> first | rfl | (cases a <;> first | rfl | (cases b <;> first | rfl | exact h.elim))

theorem gives_eqV {t : TypeId} {c : EqC} {x y : V} {a b : Value} {r : Bool} (hc : cEqC P t = some c) (h : eqV c x y = some r) (ha : VR ρ x a) (hb : VR ρ y b) (X Y : Operand) (op : BinOp) :
    (∀ w, (eqGuard op t X Y a b).run P w = .ok () w) ∧ (∀ w, (binOp .eql t a b).run P w = .ok (.bool r) w) ∧ (∀ w, (binOp .neq t a b).run P w = .ok (.bool !r) w) := by
  unfold cEqC at hc
  split at hc
  · rename_i hu
    simp only [Option.some.injEq] at hc; subst hc
    cases x <;> cases y <;> simp only [eqV, reduceCtorEq, Option.some.injEq] at h
    subst h
    simp only [VR] at ha hb; subst ha hb
    exact ⟨eqguard X Y op trivial, eqrun (fun d w => run_equalIn_bool' w d t _ _ hu) rfl rfl⟩
  · rename_i hu
    simp only [Option.some.injEq] at hc; subst hc
    cases x <;> cases y <;> simp only [eqV, reduceCtorEq, Option.some.injEq] at h <;> subst h <;> simp only [VR] at ha hb
    · subst ha hb; exact ⟨eqguard X Y op trivial, eqrun (fun d w => by simp [Op.equalIn, run_underlying hu]) rfl rfl⟩
    · obtain ⟨L, _, rfl⟩ := hb; subst ha; exact ⟨eqguard X Y op trivial, eqrun (fun d w => by simp [Op.equalIn, run_underlying hu]) rfl rfl⟩
    · obtain ⟨L, _, rfl⟩ := ha; subst hb; exact ⟨eqguard X Y op trivial, eqrun (fun d w => by simp [Op.equalIn, run_underlying hu]) rfl rfl⟩
  · rename_i hu
    simp only [Option.some.injEq] at hc; subst hc
    cases x <;> cases y <;> simp only [eqV, reduceCtorEq, Option.some.injEq] at h <;> subst h <;> simp only [VR] at ha hb
    · subst ha hb; exact ⟨eqguard X Y op trivial, eqrun (fun d w => by simp [Op.equalIn, run_underlying hu]) rfl rfl⟩
    · obtain ⟨L, k, rfl, _⟩ := hb; subst ha; exact ⟨eqguard X Y op trivial, eqrun (fun d w => by simp [Op.equalIn, run_underlying hu]) rfl rfl⟩
    · obtain ⟨L, k, rfl, _⟩ := ha; subst hb; exact ⟨eqguard X Y op trivial, eqrun (fun d w => by simp [Op.equalIn, run_underlying hu]) rfl rfl⟩
  · rename_i ms hu
    split at hc
    case isFalse => cases hc
    rename_i hms
    simp only [Option.some.injEq] at hc; subst hc
    cases x <;> cases y <;> simp only [eqV, reduceCtorEq, Option.some.injEq] at h <;> subst h <;> simp only [VR] at ha hb
    · subst ha hb
      refine ⟨fun w => ?_, eqrun (fun d w => by simp [Op.equalIn, run_underlying hu]) rfl rfl⟩
      have hin : ∀ d, (Op.eqGuardIn (d + 1) t .nilIface .nilIface).run P w = .ok false w := fun d => by simp [Op.eqGuardIn, run_underlying hu, hms]
      have hw : ∀ (c : Bool), (if c = true then (pure () : Sem Unit) else do
          if ← Op.eqGuardIn Op.maxDepth t .nilIface .nilIface then unsupported (.noEntry "binop/eql: two nil values of an interface type with methods, neither of them the literal nil")).run P w = .ok () w := by
        intro c
        cases c
        · simp only [Bool.false_eq_true, if_false, Sem.run_bind]
          rw [show Op.maxDepth = 9999 + 1 from rfl, hin]
          rfl
        · rfl
      cases op <;> first | rfl | exact hw _
    · obtain ⟨z, rfl, _⟩ := hb; subst ha; exact ⟨eqguard X Y op trivial, eqrun (fun d w => by simp [Op.equalIn, run_underlying hu]) rfl rfl⟩
    · obtain ⟨z, rfl, _⟩ := ha; subst hb; exact ⟨eqguard X Y op trivial, eqrun (fun d w => by simp [Op.equalIn, run_underlying hu]) rfl rfl⟩
  · rename_i hu
    simp only [Option.some.injEq] at hc; subst hc
    cases x <;> cases y <;> simp only [eqV, reduceCtorEq, Option.some.injEq] at h <;> subst h <;> simp only [VR] at ha hb
    · subst ha hb; exact ⟨eqguard X Y op trivial, eqrun (fun d w => by simp [Op.equalIn, run_underlying hu]) rfl rfl⟩
    · obtain ⟨L, _, rfl⟩ := hb; subst ha; exact ⟨eqguard X Y op trivial, eqrun (fun d w => by simp [Op.equalIn, run_underlying hu]) rfl rfl⟩
    · obtain ⟨L, _, rfl⟩ := ha; subst hb; exact ⟨eqguard X Y op trivial, eqrun (fun d w => by simp [Op.equalIn, run_underlying hu]) rfl rfl⟩
  · rename_i hu
    simp only [Option.some.injEq] at hc; subst hc
    cases x <;> cases y <;> simp only [eqV, reduceCtorEq, Option.some.injEq] at h <;> subst h <;> simp only [VR] at ha hb
    · subst ha hb; exact ⟨eqguard X Y op trivial, eqrun (fun d w => by simp [Op.equalIn, run_underlying hu]) rfl rfl⟩
    · obtain ⟨L, rfl, _⟩ := hb; subst ha; exact ⟨eqguard X Y op trivial, eqrun (fun d w => by simp [Op.equalIn, run_underlying hu]) rfl rfl⟩
    · obtain ⟨L, rfl, _⟩ := ha; subst hb; exact ⟨eqguard X Y op trivial, eqrun (fun d w => by simp [Op.equalIn, run_underlying hu]) rfl rfl⟩
  · rename_i fs hu
    split at hc
    case isFalse => cases hc
    rename_i hst
    cases hk : plainKinds P 40 0 fs.toList with
    | none => simp [hk] at hc
    | some ks =>
      simp only [hk, Option.map_some, Option.some.injEq] at hc; subst hc
      cases x <;> cases y <;> simp only [eqV, reduceCtorEq] at h
      simp only [VR] at ha hb
      obtain ⟨A, rfl, hA⟩ := ha
      obtain ⟨B, rfl, hB⟩ := hb
      have hfo : P.fieldsOf t = fs := by simp [Program.fieldsOf, hu]
      have run : ∀ w, (Op.equalIn 10000 t (.agg ⟨A⟩) (.agg ⟨B⟩)).run P w = .ok r w := fun w => by
        rw [run_equalIn_agg w 9999 t _ _ (by rw [hfo]; exact hu) hst.1, hfo]
        exact eqFields_ok 40 fs.toList 0 ks hk 9999 (by omega) _ _ _ _ r hA hB (by simpa using h) w
      exact ⟨fun w => run_eqGuard_agg w op t X Y _ _ hst.2, fun w => by rw [run_eql_struct, run]; rfl, fun w => by rw [run_neq_struct, run]; rfl⟩
  · cases hc

def VO (ρ : Rho) : Option V → Option Value → Prop
  | none, y => y = none
  | some v, y => ∃ x, y = some x ∧ VR ρ v x

theorem sd_opt (hg : GR ρ) {t : List V} {a : Act} (ht : TR ρ t a.tmps) {x : Option Operand} {y : Option Opd} (h : cOpt x = some y) : VO ρ (evO t y) (x.map a.eval) := by
  cases x with
  | none => simp only [cOpt, Option.some.injEq] at h; subst h; simp [evO, VO]
  | some x =>
    simp only [cOpt] at h
    cases hx : cOpd x with
    | none => simp [hx] at h
    | some z =>
      simp only [hx, Option.map_some, Option.some.injEq] at h; subst h
      exact ⟨_, rfl, sd_opd hg ht hx⟩

theorem bnd_some {m : Nat} {v : V} {x : Value} {h : Nat} (hv : VR ρ v x) (hb : (match asI v with | some i => if 0 ≤ i ∧ i ≤ (m : Int) then some i.toNat else none | none => none) = some h) (code : BoundsCode) (m' : Nat) (hm : m ≤ m') :
    h ≤ m ∧ ∀ w, (Instr.sliceBound x m' code).run P w = .ok h w := by
  cases v <;> simp only [asI, reduceCtorEq] at hb
  rename_i k i
  split at hb
  case isFalse => cases hb
  rename_i hi
  simp only [Option.some.injEq] at hb
  simp only [VR] at hv; subst hv
  subst hb
  exact ⟨by omega, fun w => run_sliceBound w k i m' code hi.1 (by omega)⟩

theorem lo_ok {h l : Nat} {lo : Option V} {x : Option Value} (hx : VO ρ lo x) (hb : bndLo h lo = some l) (code : BoundsCode) :
    l ≤ h ∧ ∀ w, (match x with | some v => Instr.sliceBound v h code | none => pure 0).run P w = .ok l w := by
  cases lo with
  | none => simp only [VO] at hx; subst hx; simp only [bndLo, Option.some.injEq] at hb; subst hb; exact ⟨by omega, fun _ => rfl⟩
  | some v =>
    obtain ⟨y, rfl, hv⟩ := hx
    exact bnd_some hv hb code h (Nat.le_refl _)

theorem bounds_ok (b : Bool) {len cap most h l : Nat} {lo hi : Option V} {xl xh : Option Value} (hl : VO ρ lo xl) (hh : VO ρ hi xh) (hm : most ≤ cap)
    (h1 : bndHi len most hi = some h) (h2 : bndLo h lo = some l) (w : World) : (Instr.sliceBounds b len cap xl xh none).run P w = .ok (l, h, cap) w := by
  obtain ⟨_, g2⟩ := lo_ok (P := P) (ρ := ρ) hl h2 .sliceB
  cases hi with
  | none =>
    simp only [VO] at hh; subst hh
    simp only [bndHi, Option.some.injEq] at h1; subst h1
    cases lo with
    | none => simp only [VO] at hl; subst hl; have := g2 w; simp at this; subst this; simp [Instr.sliceBounds]
    | some v => obtain ⟨y, rfl, hv⟩ := hl; have := g2 w; simp [Instr.sliceBounds, this]
  | some v =>
    obtain ⟨y, rfl, hv⟩ := hh
    obtain ⟨_, g4⟩ := bnd_some (P := P) hv h1 (if b then .sliceAcap else .sliceAlen) cap hm
    cases lo with
    | none => simp only [VO] at hl; subst hl; have := g2 w; simp at this; subst this; simp [Instr.sliceBounds, g4]
    | some v => obtain ⟨y, rfl, hv⟩ := hl; have := g2 w; simp only at this; simp [Instr.sliceBounds, this, g4]

theorem gives_sliceS {t : TypeId} {x v : V} {a : Value} {lo hi : Option V} {xl xh : Option Value} (hu : P.underlying t = some .string) (h : sliceS x lo hi = some v) (ha : VR ρ x a) (hl : VO ρ lo xl) (hh : VO ρ hi xh) :
    Gives P ρ v (Instr.sliceAt t a xl xh none) := by
  cases x <;> simp only [sliceS, reduceCtorEq] at h
  rename_i s
  simp only [VR] at ha; subst ha
  cases h1 : bndHi s.length s.length hi with
  | none => simp [h1] at h
  | some hh' =>
    simp only [h1, Option.bind_some] at h
    cases h2 : bndLo hh' lo with
    | none => simp [h2] at h
    | some l' =>
      simp only [h2, Option.bind_some, Option.some.injEq] at h
      subst h
      have hsz : (⟨⟨s⟩⟩ : ByteArray).size = s.length := rfl
      have e : (⟨⟨s⟩⟩ : ByteArray).extract l' hh' = ⟨⟨extractL s l' hh'⟩⟩ := by
        apply ByteArray.ext
        simp only [ByteArray.data_extract, extractL]
        apply Array.ext'
        simp
      obtain ⟨g1, g2⟩ := lo_ok (P := P) (ρ := ρ) hl h2 .sliceB
      refine ⟨.string ⟨⟨extractL s l' hh'⟩⟩, by simp only [VR], fun w => ?_⟩
      have key := bounds_ok (P := P) false (len := s.length) (cap := s.length) (most := s.length) hl hh (Nat.le_refl _) h1 h2
      simp only [Instr.sliceAt, Instr.slice, Sem.run_bind, run_underlying hu, Result.andThen_ok, Option.isSome_none, Bool.false_eq_true, if_false, hsz, key, Result.andThen_ok, Sem.run_pure, e]

theorem add_at (L : Loc) (o n : Nat) : (⟨L.b, L.o + o, none⟩ : Addr).add n = ⟨L.b, L.o + (o + n), none⟩ := by
  unfold Addr.add; split
  · rename_i h; subst h; rfl
  · simp [Nat.add_assoc]

/-- A slice of a slice: what is handed on stands for the machine's. -/
theorem SR.sub {i o l e : Nat} {c : Option Nat} {a : Addr} {k : Nat} (h : SR ρ i o l e c a k) {lo hi m : Nat} (h1 : lo ≤ hi) (h2 : hi ≤ m) (h3 : m ≤ k) (c' : Option Nat) (hc : ∀ x, c' = some x → m - lo = x) :
    SR ρ i (o + lo * e) (hi - lo) e c' (if m = lo then a else a.add (lo * e)) (m - lo) := by
  obtain ⟨L, hL, hb, h0⟩ := h.2.2
  refine ⟨by omega, hc, L, hL, ?_, ?_⟩
  · split
    · exact hb
    · rw [← hb]; unfold Addr.add; split <;> rfl
  by_cases hm : m = lo
  · left; omega
  · rw [if_neg hm]
    rcases h0 with h0 | ⟨ha, hz⟩
    · omega
    · right
      refine ⟨by rw [ha, add_at], ?_⟩
      have : lo * e + (m - lo) * e = m * e := by rw [← Nat.add_mul]; congr 1; omega
      have : m * e ≤ k * e := Nat.mul_le_mul_right e h3
      omega

theorem hi_ok {len most h : Nat} {hi : Option V} (h1 : bndHi len most hi = some h) (hlen : len ≤ most) : h ≤ most := by
  cases hi with
  | none => simp only [bndHi, Option.some.injEq] at h1; omega
  | some v =>
    simp only [bndHi] at h1
    cases hv : asI v with
    | none => simp [hv] at h1
    | some i => simp only [hv] at h1; split at h1 <;> simp at h1; omega
theorem lo_le {h l : Nat} {lo : Option V} (h1 : bndLo h lo = some l) : l ≤ h := by
  cases lo with
  | none => simp only [bndLo, Option.some.injEq] at h1; omega
  | some v =>
    simp only [bndLo] at h1
    cases hv : asI v with
    | none => simp [hv] at h1
    | some i => simp only [hv] at h1; split at h1 <;> simp at h1; omega

/-- The bounds of x[lo:hi:mx]. -/
theorem bounds3_ok (b : Bool) {len cap most m h l : Nat} {lo hi : Option V} {mv : V} {xl xh : Option Value} {xm : Value} (hl : VO ρ lo xl) (hh : VO ρ hi xh) (hm : VR ρ mv xm) (hmost : most ≤ cap)
    (hs : hi.isSome = true) (h0 : bndHi len most (some mv) = some m) (h1 : bndHi len m hi = some h) (h2 : bndLo h lo = some l) (w : World) : (Instr.sliceBounds b len cap xl xh (some xm)).run P w = .ok (l, h, m) w := by
  obtain ⟨_, g0⟩ := bnd_some (P := P) hm h0 (if b then .slice3Acap else .slice3Alen) cap hmost
  cases hi with
  | none => simp at hs
  | some v =>
    obtain ⟨y, rfl, hv⟩ := hh
    obtain ⟨_, g1⟩ := bnd_some (P := P) hv h1 .slice3B m (Nat.le_refl _)
    obtain ⟨_, g2⟩ := lo_ok (P := P) (ρ := ρ) hl h2 .slice3C
    cases lo with
    | none => simp only [VO] at hl; subst hl; have := g2 w; simp at this; subst this; simp [Instr.sliceBounds, g0, g1]
    | some v => obtain ⟨y, rfl, hv⟩ := hl; have := g2 w; simp only at this; simp [Instr.sliceBounds, this, g0, g1]

theorem gives_sliceV {t e : TypeId} {n : Nat} {x v : V} {a : Value} {lo hi mx : Option V} {xl xh xm : Option Value} (hu : P.underlying t = some (.slice e)) (hn : szOf P e = some n)
    (h : sliceV n x lo hi mx = some v) (ha : VR ρ x a) (hl : VO ρ lo xl) (hh : VO ρ hi xh) (hm : VO ρ mx xm) : Gives P ρ v (Instr.sliceAt t a xl xh xm) := by
  have hrun : ∀ (A : Option Addr) (len cap l h m : Nat), (∀ w, (Instr.sliceBounds true len cap xl xh xm).run P w = .ok (l, h, m) w) →
      ∀ w, (Instr.sliceAt t (.slice A len cap) xl xh xm).run P w = .ok (.slice (if m = l then A else A.map (·.add (l * n))) (h - l) (m - l)) w := by
    intro A len cap l h m hb w
    simp only [Instr.sliceAt, Instr.slice, Sem.run_bind, run_underlying hu, Result.andThen_ok, hb, run_szOf hn, Sem.run_pure]
  cases x <;> simp only [sliceV, reduceCtorEq] at h
  · -- the nil slice
    simp only [VR] at ha; subst ha
    cases mx with
    | none =>
      simp only [VO] at hm; subst hm
      simp only at h
      cases h1 : bndHi 0 0 hi with
      | none => simp [h1] at h
      | some hh' =>
        simp only [h1, Option.bind_some] at h
        cases h2 : bndLo hh' lo with
        | none => simp [h2] at h
        | some l' =>
          simp only [h2, Option.bind_some, Option.some.injEq] at h; subst h
          have e1 := hi_ok h1 (Nat.le_refl _)
          have e2 := lo_le h2
          refine ⟨.slice none 0 0, by simp only [VR], fun w => ?_⟩
          rw [hrun none 0 0 l' hh' 0 (bounds_ok true hl hh (Nat.le_refl _) h1 h2)]
          have : l' = 0 := by omega
          subst this
          have : hh' = 0 := by omega
          subst this; rfl
    | some mv => simp at h
  · rename_i id off len e' cap
    split at h
    case isFalse => cases h
    rename_i he; subst he
    simp only [VR] at ha
    obtain ⟨A, k, rfl, hs⟩ := ha
    have hmost : cap.getD len ≤ k := by
      cases cap with
      | none => exact hs.1
      | some c => simp only [Option.getD_some]; have := hs.2.1 c rfl; omega
    cases mx with
    | none =>
      simp only [VO] at hm; subst hm
      simp only at h
      cases h1 : bndHi len (cap.getD len) hi with
      | none => simp [h1] at h
      | some hh' =>
        simp only [h1, Option.bind_some] at h
        cases h2 : bndLo hh' lo with
        | none => simp [h2] at h
        | some l' =>
          simp only [h2, Option.bind_some, Option.some.injEq] at h; subst h
          have e2 := lo_le h2
          have e1 : hh' ≤ k := by
            cases hi with
            | none => simp only [bndHi, Option.some.injEq] at h1; have := hs.1; omega
            | some hv =>
              simp only [bndHi] at h1
              cases hv' : asI hv with
              | none => simp [hv'] at h1
              | some i => simp only [hv'] at h1; split at h1 <;> simp at h1; omega
          have hsub := hs.sub (lo := l') (hi := hh') (m := k) e2 e1 (Nat.le_refl _) (cap.map (· - l')) (fun x hx => by
            cases cap with
            | none => simp at hx
            | some c => simp only [Option.map_some, Option.some.injEq] at hx; have := hs.2.1 c rfl; omega)
          refine ⟨.slice (some (if k = l' then A else A.add (l' * e'))) (hh' - l') (k - l'), ?_, fun w => ?_⟩
          · simp only [VR]; exact ⟨_, _, rfl, hsub⟩
          · rw [hrun (some A) len k l' hh' k (bounds_ok true hl hh hmost h1 h2)]
            split <;> rfl
    | some mv =>
      obtain ⟨y, rfl, hv⟩ := hm
      simp only at h
      cases h0 : bndHi len (cap.getD len) (some mv) with
      | none => rw [h0] at h; simp at h
      | some m =>
        rw [h0] at h
        simp only [Option.bind_some] at h
        split at h
        case isFalse => cases h
        rename_i hsome
        cases h1 : bndHi len m hi with
        | none => simp [h1] at h
        | some hh' =>
          simp only [h1, Option.bind_some] at h
          cases h2 : bndLo hh' lo with
          | none => simp [h2] at h
          | some l' =>
            simp only [h2, Option.bind_some, Option.some.injEq] at h; subst h
            have e2 := lo_le h2
            have em : m ≤ k := by
              simp only [bndHi] at h0
              cases hv' : asI mv with
              | none => simp [hv'] at h0
              | some i => simp only [hv'] at h0; split at h0 <;> simp at h0; omega
            have e1 : hh' ≤ m := by
              cases hi with
              | none => simp at hsome
              | some hv =>
                simp only [bndHi] at h1
                cases hv' : asI hv with
                | none => simp [hv'] at h1
                | some i => simp only [hv'] at h1; split at h1 <;> simp at h1; omega
            have hsub := hs.sub (lo := l') (hi := hh') (m := m) e2 e1 em (some (m - l')) (fun x hx => by simpa using hx)
            refine ⟨.slice (some (if m = l' then A else A.add (l' * e'))) (hh' - l') (m - l'), ?_, fun w => ?_⟩
            · simp only [VR]; exact ⟨_, _, rfl, hsub⟩
            · rw [hrun (some A) len k l' hh' m (bounds3_ok true hl hh hv hmost hsome h0 h1 h2)]
              split <;> rfl

end

end Gw
