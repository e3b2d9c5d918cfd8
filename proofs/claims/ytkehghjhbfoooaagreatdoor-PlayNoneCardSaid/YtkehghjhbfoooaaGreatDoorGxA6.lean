/- Operations that ask nothing of memory: what the machine answers the model answers. -/
import Derived.Test.YtkehghjhbfoooaaGreatDoorGxA5
import Derived.Laws.Strings
noncomputable section
namespace Gw
open Go

theorem wrapK_eq (k : IntKind) (n : Int) : wrapK k n = k.wrap n := by
  cases k <;> simp [wrapK, IntKind.wrap, IntKind.bits, IntKind.signed]

theorem bitsK_eq (k : IntKind) (n : Int) : (BitVec.ofInt k.bits n).toNat = bitsK k n := by
  rw [BitVec.toNat_ofInt]
  cases k <;> rfl

theorem bitsOf_eq (k : IntKind) : bitsOf k = k.bits := by cases k <;> rfl
theorem modK_eq (k : IntKind) : modK k = 2 ^ k.bits := by cases k <;> rfl

/-- The model's operation comes to a value that the machine's stands for, in every world, and turns none. -/
def Gives (P : Program) (ρ : Rho) (v : V) (s : Sem Value) : Prop := ∃ x, VR ρ v x ∧ ∀ w, s.run P w = .ok x w

theorem gives_pure {P : Program} {ρ : Rho} {v : V} {x : Value} (h : VR ρ v x) : Gives P ρ v (pure x) := ⟨x, h, fun _ => rfl⟩

theorem gives_binI {P : Program} {ρ : Rho} {op : BinOp} {k : IntKind} {a b : Int} {v : V} (xt : TypeId) (h : binI op k a b = some v) :
    Gives P ρ v (binOp op xt (.int k a) (.int k b)) := by
  cases op <;> simp only [binI, Option.some.injEq, reduceCtorEq] at h
  case add => subst h; exact ⟨_, by simp only [VR]; rfl, fun w => by simp [binOp, Op.intArith, wrapK_eq]⟩
  case sub => subst h; exact ⟨_, by simp only [VR]; rfl, fun w => by simp [binOp, Op.intArith, wrapK_eq]⟩
  case mul => subst h; exact ⟨_, by simp only [VR]; rfl, fun w => by simp [binOp, Op.intArith, wrapK_eq]⟩
  case quo =>
    split at h
    · cases h
    · rename_i hb
      simp only [Option.some.injEq] at h
      subst h; exact ⟨_, by simp only [VR]; rfl, fun w => by simp [binOp, Op.intDiv, hb, wrapK_eq]⟩
  case rem =>
    split at h
    · cases h
    · rename_i hb
      simp only [Option.some.injEq] at h
      subst h; exact ⟨_, by simp only [VR]; rfl, fun w => by simp [binOp, Op.intDiv, hb]⟩
  case and => subst h; exact ⟨_, by simp only [VR]; rfl, fun w => by simp only [binOp, ne_eq, not_true, if_false, Op.intBits, Sem.run_pure, BitVec.toNat_and, bitsK_eq, wrapK_eq]; rfl⟩
  case or => subst h; exact ⟨_, by simp only [VR]; rfl, fun w => by simp only [binOp, ne_eq, not_true, if_false, Op.intBits, Sem.run_pure, BitVec.toNat_or, bitsK_eq, wrapK_eq]; rfl⟩
  case xor => subst h; exact ⟨_, by simp only [VR]; rfl, fun w => by simp only [binOp, ne_eq, not_true, if_false, Op.intBits, Sem.run_pure, BitVec.toNat_xor, bitsK_eq, wrapK_eq]; rfl⟩
  case andNot => subst h; exact ⟨_, by simp only [VR]; rfl, fun w => by simp only [binOp, ne_eq, not_true, if_false, Op.intBits, Sem.run_pure, BitVec.toNat_and, BitVec.toNat_not, bitsK_eq, wrapK_eq, modK_eq]; rfl⟩
  case eql => subst h; exact ⟨_, by simp only [VR]; rfl, fun w => by simp [binOp, Op.intCmp]⟩
  case neq => subst h; exact ⟨_, by simp only [VR]; rfl, fun w => by simp [binOp, Op.intCmp]⟩
  case lss => subst h; exact ⟨_, by simp only [VR]; rfl, fun w => by simp [binOp, Op.intCmp]⟩
  case leq => subst h; exact ⟨_, by simp only [VR]; rfl, fun w => by simp [binOp, Op.intCmp]⟩
  case gtr => subst h; exact ⟨_, by simp only [VR]; rfl, fun w => by simp [binOp, Op.intCmp]⟩
  case geq => subst h; exact ⟨_, by simp only [VR]; rfl, fun w => by simp [binOp, Op.intCmp]⟩

theorem bytes_toList (s : List UInt8) : (⟨⟨s⟩⟩ : ByteArray).toList = s := by
  rw [ByteArray.toList_eq]

theorem gives_shift {P : Program} {ρ : Rho} {k k' : IntKind} {a b : Int} {v : V} (xt : TypeId) :
    (shlI k a b = some v → Gives P ρ v (binOp .shl xt (.int k a) (.int k' b))) ∧ (shrI k a b = some v → Gives P ρ v (binOp .shr xt (.int k a) (.int k' b))) := by
  refine ⟨fun h => ?_, fun h => ?_⟩
  · simp only [shlI] at h
    split at h
    · cases h
    · rename_i hb
      simp only [Option.some.injEq] at h
      subst h
      exact ⟨_, by simp only [VR]; rfl, fun w => by simp [binOp, Op.shift, hb, wrapK_eq, bitsOf_eq]⟩
  · simp only [shrI] at h
    split at h
    · cases h
    · rename_i hb
      simp only [Option.some.injEq] at h
      subst h
      exact ⟨_, by simp only [VR]; rfl, fun w => by simp [binOp, Op.shift, hb, bitsOf_eq]⟩

theorem gives_bin {P : Program} {ρ : Rho} {op : BinOp} {x y v : V} {a b : Value} (xt : TypeId) (h : binV op x y = some v) (ha : VR ρ x a) (hb : VR ρ y b) :
    Gives P ρ v (binOp op xt a b) := by
  unfold binV at h
  split at h
  · rename_i k n k' m
    simp only [VR] at ha hb; subst ha hb
    split at h
    · exact (gives_shift xt).1 h
    · exact (gives_shift xt).2 h
    · split at h
      · rename_i hk; subst hk; exact gives_binI xt h
      · cases h
  · rename_i s u
    simp only [VR] at ha hb; subst ha hb
    split at h
    · split at h
      · rename_i hlt
        simp only [Option.some.injEq] at h; subst h
        refine ⟨.string (⟨⟨s⟩⟩ ++ ⟨⟨u⟩⟩), ?_, fun w => ?_⟩
        · simp only [VR]
          congr 1
        · simp only [binOp, Op.stringOp]
          have : ¬ (((⟨⟨s⟩⟩ : ByteArray).size + (⟨⟨u⟩⟩ : ByteArray).size : Nat) : Int) > IntKind.i64.max := by
            have e1 : (⟨⟨s⟩⟩ : ByteArray).size = s.length := rfl
            have e2 : (⟨⟨u⟩⟩ : ByteArray).size = u.length := rfl
            have e3 : IntKind.i64.max = 9223372036854775807 := by decide
            rw [e1, e2, e3]; unfold bound at hlt; omega
          rw [if_neg this]; rfl
      · cases h
    · simp only [Option.some.injEq] at h; subst h
      exact ⟨_, by simp only [VR]; rfl, fun w => by simp [binOp, Op.stringOp]⟩
    · simp only [Option.some.injEq] at h; subst h
      exact ⟨_, by simp only [VR]; rfl, fun w => by simp [binOp, Op.stringOp]⟩
    · cases h
  · cases h

section
variable {P : Program}

theorem run_szOf {t : TypeId} {n : Nat} (h : szOf P t = some n) (w : World) : (Go.sizeOf t).run P w = .ok n w := by
  simp only [szOf] at h
  cases hi : P.info? t with
  | none => simp [hi] at h
  | some i => simp only [hi, Option.map_some, Option.some.injEq] at h; simp [Go.sizeOf, typeInfo, hi, h]

theorem run_aggOf {t : TypeId} {g : Bool} (h : aggOf P t = some g) (w : World) : (isAgg t).run P w = .ok g w := by
  simp only [aggOf] at h
  cases hu : P.underlying t with
  | none => simp [hu] at h
  | some d =>
    simp only [hu, Option.map_some, Option.some.injEq] at h
    simp only [isAgg, Sem.run_bind, run_underlying hu, Result.andThen_ok]
    cases d <;> simp only at h <;> subst h <;> rfl

theorem run_zeroV {ρ : Rho} {t : TypeId} {v : V} (h : zeroV P t = some v) : ∃ x, VR ρ v x ∧ ∀ w, (zeroValue t).run P w = .ok x w := by
  simp only [zeroV] at h
  cases hi : P.info? t with
  | none => simp [hi] at h
  | some i =>
    simp only [hi, Option.bind_some] at h
    cases hz : i.zero with
    | none => simp [hz] at h
    | some z =>
      simp only [hz, Option.bind_some] at h
      exact ⟨z, cV_sound ρ z v h, fun w => by simp [zeroValue, typeInfo, hi, hz]⟩

theorem VR.cells {ρ : Rho} {v : V} {x : Value} (h : VR ρ v x) (hn : v.nt = true) : VRs ρ v.cells x.cells.toList := by
  cases v <;> simp only [VR] at h
  case agg l => obtain ⟨a, rfl, h2⟩ := h; exact h2
  case ptr i o => obtain ⟨L, h1, rfl⟩ := h; simp only [V.cells, Value.cells]; exact VRs.cons (by simp only [VR]; exact ⟨L, h1, rfl⟩) (by simp [VRs])
  case slice i o l e c => obtain ⟨a, k, rfl, h2⟩ := h; simp only [V.cells, Value.cells]; exact VRs.cons (by simp only [VR]; exact ⟨a, k, rfl, h2⟩) (by simp [VRs])
  case map i => obtain ⟨L, h1, rfl⟩ := h; simp only [V.cells, Value.cells]; exact VRs.cons (by simp only [VR]; exact ⟨L, h1, rfl⟩) (by simp [VRs])
  case func f c => obtain ⟨a, rfl, h2⟩ := h; simp only [V.cells, Value.cells]; exact VRs.cons (by simp only [VR]; exact ⟨a, rfl, h2⟩) (by simp [VRs])
  case iface t u => obtain ⟨a, rfl, h2⟩ := h; simp only [V.cells, Value.cells]; exact VRs.cons (by simp only [VR]; exact ⟨a, rfl, h2⟩) (by simp [VRs])
  case tup l => cases hn
  all_goals (subst h; simp only [V.cells, Value.cells]; exact VRs.cons (by simp only [VR]) (by simp [VRs]))

theorem VRs.drop {ρ : Rho} {l : List V} {x : List Value} (h : VRs ρ l x) (n : Nat) : VRs ρ (l.drop n) (x.drop n) := by
  induction n generalizing l x with
  | zero => simpa using h
  | succ n ih =>
    cases l with
    | nil => rw [VRs.nil_iff] at h; subst h; simp [VRs]
    | cons v l => obtain ⟨y, ys, rfl, _, h3⟩ := h; simpa using ih h3
theorem VRs.take {ρ : Rho} {l : List V} {x : List Value} (h : VRs ρ l x) (n : Nat) : VRs ρ (l.take n) (x.take n) := by
  induction n generalizing l x with
  | zero => simp [VRs]
  | succ n ih =>
    cases l with
    | nil => rw [VRs.nil_iff] at h; subst h; simp [VRs]
    | cons v l => obtain ⟨y, ys, rfl, h2, h3⟩ := h; simpa using VRs.cons h2 (ih h3)

/-- A part by value. -/
theorem gives_part {ρ : Rho} {t : TypeId} {off n : Nat} {g : Bool} {l : List V} {a : Array Value} {v : V} (hn : szOf P t = some n) (hg : aggOf P t = some g)
    (hl : VRs ρ l a.toList) (h : partV l off n g = some v) : Gives P ρ v (part t a off) := by
  unfold partV at h
  cases g with
  | true =>
    simp only [if_true] at h
    cases hc : cellsAt l off n with
    | none => simp [hc] at h
    | some r =>
      simp only [hc, Option.map_some, Option.some.injEq] at h
      subst h
      obtain ⟨h1, _, _⟩ := cellsAt_some l off n r hc
      refine ⟨.agg (a.extract off (off + n)), ?_, fun w => by simp [part, run_aggOf hg, run_szOf hn]⟩
      simp only [VR]
      refine ⟨(a.extract off (off + n)).toList, rfl, ?_⟩
      subst h1
      have e : (a.extract off (off + n)).toList = (a.toList.drop off).take n := by simp [List.take_drop]
      rw [e]
      exact (hl.drop off).take n
  | false =>
    simp only [Bool.false_eq_true, if_false, cellAt_eq] at h
    obtain ⟨y, hy, hr⟩ := hl.get h
    have hy' : a[off]? = some y := by rw [← Array.getElem?_toList]; exact hy
    exact ⟨y, hr, fun w => by simp [part, run_aggOf hg, hy']⟩

theorem eqCells_append : ∀ (k1 k2 : List FK) (xs ys : List V) (r : Bool), eqCells (k1 ++ k2) xs ys = some r →
    ∃ r1, eqCells k1 (xs.take k1.length) (ys.take k1.length) = some r1 ∧ (r1 = false → r = false) ∧ (r1 = true → eqCells k2 (xs.drop k1.length) (ys.drop k1.length) = some r)
  | [], k2, xs, ys, r, h => by simp at h; exact ⟨true, by simp [eqCells], by simp, fun _ => by simpa using h⟩
  | k :: k1, k2, xs, ys, r, h => by
    cases k <;> cases xs with
    | nil => simp [eqCells] at h
    | cons x xs =>
      cases ys with
      | nil => cases x <;> simp [eqCells] at h
      | cons y ys =>
        cases x <;> cases y <;> simp only [List.cons_append, eqCells, reduceCtorEq] at h
        all_goals (
          simp only [List.length_cons, List.take_succ_cons, List.drop_succ_cons, eqCells]
          repeat' split at h
          all_goals first
            | (cases h; done)
            | (rename_i h0 h1; simp only [if_pos h0, if_pos h1]; exact eqCells_append k1 k2 xs ys r h)
            | (rename_i h0 h1; simp only [Option.some.injEq] at h; simp only [if_pos h0, if_neg h1]; exact ⟨false, rfl, fun _ => h.symm, by simp⟩)
            | (rename_i h1; simp only [if_pos h1]; exact eqCells_append k1 k2 xs ys r h)
            | (rename_i h1; simp only [Option.some.injEq] at h; simp only [if_neg h1]; exact ⟨false, rfl, fun _ => h.symm, by simp⟩))

theorem aggOf_struct {t : TypeId} {fs : Array Field} (h : P.underlying t = some (.struct fs)) : aggOf P t = some true := by simp [aggOf, h]

theorem part_cell {ρ : Rho} {t : TypeId} {off : Nat} {l : List V} {a : Array Value} {v : V} (hg : aggOf P t = some false) (hl : VRs ρ l a.toList) (h : l[off]? = some v) :
    ∃ y, VR ρ v y ∧ ∀ w, (part t a off).run P w = .ok y w := by
  obtain ⟨y, hy, hr⟩ := hl.get h
  have hy' : a[off]? = some y := by rw [← Array.getElem?_toList]; exact hy
  exact ⟨y, hr, fun w => by simp [part, run_aggOf hg, hy']⟩

theorem drop_cons {l : List V} {o : Nat} {v : V} {r : List V} (h : l.drop o = v :: r) : l[o]? = some v ∧ l.drop (o + 1) = r := by
  refine ⟨?_, ?_⟩
  · have := congrArg (fun x => x[0]?) h
    simpa using this
  · rw [← List.drop_drop, h]; rfl

theorem eqFields_ok {ρ : Rho} : ∀ (n : Nat) (fs : List Field) (off : Nat) (ks : List FK), plainKinds P n off fs = some ks →
    ∀ (d : Nat), n ≤ d → ∀ (xs ys : List V) (X Y : Array Value) (r : Bool), VRs ρ xs X.toList → VRs ρ ys Y.toList →
    eqCells ks (xs.drop off) (ys.drop off) = some r → ∀ w, (Op.eqFields d X Y fs).run P w = .ok r w := by
  intro n
  induction n with
  | zero => intro fs off ks h; simp [plainKinds] at h
  | succ n ih =>
    intro fs off ks h d hd xs ys X Y r hx hy he w
    cases fs with
    | nil =>
      simp only [plainKinds, Option.some.injEq] at h
      subst h
      cases hxd : xs.drop off <;> cases hyd : ys.drop off <;> rw [hxd, hyd] at he <;> simp [eqCells] at he
      subst he; simp [Op.eqFields]
    | cons f l =>
      simp only [plainKinds] at h
      split at h
      case isFalse => cases h
      rename_i hf
      obtain ⟨hname, hoff⟩ := hf
      obtain ⟨d, rfl⟩ : ∃ m, d = m + 1 := ⟨d - 1, by omega⟩
      simp only [Op.eqFields, if_pos hname, hoff]
      split at h
      · -- bool
        rename_i hu hs
        cases hp : plainKinds P n (off + 1) l with
        | none => simp [hp] at h
        | some k2 =>
          simp only [hp, Option.map_some, Option.some.injEq] at h
          subst h
          have hag : aggOf P f.type = some false := by simp [aggOf, hu]
          cases hxd : xs.drop off with
          | nil => rw [hxd] at he; simp [eqCells] at he
          | cons x xs' =>
            cases hyd : ys.drop off with
            | nil => rw [hxd, hyd] at he; cases x <;> simp [eqCells] at he
            | cons y ys' =>
              rw [hxd, hyd] at he
              obtain ⟨hx0, hx1⟩ := drop_cons hxd
              obtain ⟨hy0, hy1⟩ := drop_cons hyd
              obtain ⟨X0, rX, runX⟩ := part_cell hag hx hx0
              obtain ⟨Y0, rY, runY⟩ := part_cell hag hy hy0
              cases x <;> cases y <;> simp only [eqCells, reduceCtorEq] at he
              rename_i a b
              simp only [VR] at rX rY; subst rX rY
              simp only [Sem.run_bind, runX, runY, Result.andThen_ok, run_equalIn_bool' w d f.type a b hu]
              cases hab : (a == b) with
              | true =>
                simp only [hab, if_true] at he
                simp only [Bool.not_true, Bool.false_eq_true, if_false]
                exact ih l (off + 1) k2 hp (d + 1) (by omega) xs ys X Y r hx hy (by rw [hx1, hy1]; exact he) w
              | false =>
                simp only [hab, Bool.false_eq_true, if_false, Option.some.injEq] at he
                subst he; simp
      · -- number
        rename_i hu hs
        cases hp : plainKinds P n (off + 1) l with
        | none => simp [hp] at h
        | some k2 =>
          simp only [hp, Option.map_some, Option.some.injEq] at h
          subst h
          have hag : aggOf P f.type = some false := by simp [aggOf, hu]
          cases hxd : xs.drop off with
          | nil => rw [hxd] at he; simp [eqCells] at he
          | cons x xs' =>
            cases hyd : ys.drop off with
            | nil => rw [hxd, hyd] at he; cases x <;> simp [eqCells] at he
            | cons y ys' =>
              rw [hxd, hyd] at he
              obtain ⟨hx0, hx1⟩ := drop_cons hxd
              obtain ⟨hy0, hy1⟩ := drop_cons hyd
              obtain ⟨X0, rX, runX⟩ := part_cell hag hx hx0
              obtain ⟨Y0, rY, runY⟩ := part_cell hag hy hy0
              cases x <;> cases y <;> simp only [eqCells, reduceCtorEq] at he
              rename_i k a k' b
              simp only [VR] at rX rY; subst rX rY
              split at he
              case isFalse => cases he
              rename_i hk; subst hk
              simp only [Sem.run_bind, runX, runY, Result.andThen_ok, run_equalIn_int w d f.type k _ a b hu]
              cases hab : (a == b) with
              | true =>
                simp only [hab, if_true] at he
                simp only [Bool.not_true, Bool.false_eq_true, if_false]
                exact ih l (off + 1) k2 hp (d + 1) (by omega) xs ys X Y r hx hy (by rw [hx1, hy1]; exact he) w
              | false =>
                simp only [hab, Bool.false_eq_true, if_false, Option.some.injEq] at he
                subst he; simp
      · -- text
        rename_i hu hs
        cases hp : plainKinds P n (off + 1) l with
        | none => simp [hp] at h
        | some k2 =>
          simp only [hp, Option.map_some, Option.some.injEq] at h
          subst h
          have hag : aggOf P f.type = some false := by simp [aggOf, hu]
          cases hxd : xs.drop off with
          | nil => rw [hxd] at he; simp [eqCells] at he
          | cons x xs' =>
            cases hyd : ys.drop off with
            | nil => rw [hxd, hyd] at he; cases x <;> simp [eqCells] at he
            | cons y ys' =>
              rw [hxd, hyd] at he
              obtain ⟨hx0, hx1⟩ := drop_cons hxd
              obtain ⟨hy0, hy1⟩ := drop_cons hyd
              obtain ⟨X0, rX, runX⟩ := part_cell hag hx hx0
              obtain ⟨Y0, rY, runY⟩ := part_cell hag hy hy0
              cases x <;> cases y <;> simp only [eqCells, reduceCtorEq] at he
              rename_i a b
              simp only [VR] at rX rY; subst rX rY
              simp only [Sem.run_bind, runX, runY, Result.andThen_ok, run_equalIn_string w d f.type _ _ hu, bytes_toList]
              cases hab : (a == b) with
              | true =>
                simp only [hab, if_true] at he
                simp only [Bool.not_true, Bool.false_eq_true, if_false]
                exact ih l (off + 1) k2 hp (d + 1) (by omega) xs ys X Y r hx hy (by rw [hx1, hy1]; exact he) w
              | false =>
                simp only [hab, Bool.false_eq_true, if_false, Option.some.injEq] at he
                subst he; simp
      · -- struct
        rename_i fs sz hu hs
        split at h
        case isFalse => cases h
        rename_i hst
        cases hp : plainKinds P n 0 fs.toList with
        | none => simp [hp] at h
        | some k1 =>
          simp only [hp, Option.bind_some] at h
          split at h
          case isFalse => cases h
          rename_i hlen
          cases hq : plainKinds P n (off + sz) l with
          | none => simp [hq] at h
          | some k2 =>
            simp only [hq, Option.map_some, Option.some.injEq] at h
            subst h
            obtain ⟨r1, e1, e2, e3⟩ := eqCells_append k1 k2 _ _ r he
            rw [hlen] at e1 e3
            have hag : aggOf P f.type = some true := aggOf_struct hu
            have hfo : P.fieldsOf f.type = fs := by simp [Program.fieldsOf, hu]
            have runX : ∀ w, (part f.type X off).run P w = .ok (.agg (X.extract off (off + sz))) w := fun w => by simp [part, run_aggOf hag, run_szOf hs]
            have runY : ∀ w, (part f.type Y off).run P w = .ok (.agg (Y.extract off (off + sz))) w := fun w => by simp [part, run_aggOf hag, run_szOf hs]
            have ex : ∀ Z : Array Value, (Z.extract off (off + sz)).toList = (Z.toList.drop off).take sz := fun Z => by simp [List.take_drop]
            have sub : (Op.equalIn (d + 1) f.type (.agg (X.extract off (off + sz))) (.agg (Y.extract off (off + sz)))).run P w = .ok r1 w := by
              rw [run_equalIn_agg w d f.type _ _ (by rw [hfo]; exact hu) hst, hfo]
              exact ih fs.toList 0 k1 hp d (by omega) _ _ _ _ r1 (by rw [ex]; exact (hx.drop off).take sz) (by rw [ex]; exact (hy.drop off).take sz) (by simpa using e1) w
            simp only [Sem.run_bind, runX, runY, Result.andThen_ok, sub]
            cases r1 with
            | true =>
              simp only [Bool.not_true, Bool.false_eq_true, if_false]
              have e4 := e3 rfl
              rw [List.drop_drop, List.drop_drop] at e4
              exact ih l (off + sz) k2 hq (d + 1) (by omega) xs ys X Y r hx hy e4 w
            | false =>
              have := e2 rfl
              subst this; simp
      · cases h

end

end Gw
