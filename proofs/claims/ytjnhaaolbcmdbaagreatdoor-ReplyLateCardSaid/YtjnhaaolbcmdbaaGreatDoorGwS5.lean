/- Pure operations on symbolic values. -/
import Derived.Test.YtjnhaaolbcmdbaaGreatDoorGwS4
namespace Gw
open Go

def ltB (pc : PC) (a b : IT) : Bool := match dLt pc a b with | some v => v | none => false
theorem ltB_ok {σ : Val} {pc : PC} (h : σ.ok pc) {a b : IT} (hl : ltB pc a b = true) : a.ev σ < b.ev σ := by
  unfold ltB at hl
  split at hl
  · rename_i v hd
    have := dLt_ok h hd
    subst hl
    simpa using this
  · cases hl

theorem binN_sub (k : IntKind) (a b : Int) : binN .sub k a b = wrapK k (a - b) := rfl
def mkSubI (pc : PC) (k : IntKind) (a : IT) : IT → Option IT
  | .c n => some (fold pc (if inK k (addR (rg pc a) (some (-n), some (-n))) then mkAddC a (-n) else .bin .sub k a (.c n)))
  | b => match diff a b with
    | some d => if inK k (some d, some d) then some (.c d) else none
    | none => some (fold pc (.bin .sub k a b))
theorem mkSubI_ok {σ : Val} {pc : PC} (h : σ.ok pc) {k : IntKind} {a b t : IT} (hm : mkSubI pc k a b = some t) : t.ev σ = binN .sub k (a.ev σ) (b.ev σ) := by
  unfold mkSubI at hm
  split at hm
  · rename_i n
    cases hm
    rw [fold_ok h]
    split
    · rename_i hk
      rw [mkAddC_ok, binN_sub]
      simp only [IT.ev]
      rw [show a.ev σ - n = a.ev σ + -n by omega]
      exact (inK_id hk ((rg_ok h a).add (okR.one _))).symm
    · rfl
  · split at hm
    · rename_i d hd
      have := diff_ok σ hd
      split at hm
      · rename_i hk
        cases hm
        rw [binN_sub, this]
        simp only [IT.ev]
        exact (inK_id hk (okR.one _)).symm
      · cases hm
    · cases hm; rw [fold_ok h]; rfl

/-- An operation on two numbers. -/
def mkArith (pc : PC) (op : BinOp) (k : IntKind) (a b : IT) : Option IT :=
  match a, b with
  | .c x, .c y => match binW op k x y with
    | some (.int _ n) => some (.c n)
    | _ => none
  | a, b => match op with
    | .add => some (fold pc (let s := mkAdd a b; if inK k (addR (rg pc a) (rg pc b)) then s else .bin .add k a b))
    | .sub => mkSubI pc k a b
    | .mul => some (fold pc (.bin .mul k a b))
    | .rem => if geO (rg pc b).1 1 then (if geO (rg pc a).1 0 && ltB pc a b then some a else some (fold pc (.bin .rem k a b))) else none
    | .quo => if geO (rg pc b).1 1 then some (fold pc (.bin .quo k a b)) else none
    | .and => some (fold pc (.bin .and k a b))
    | .or => some (fold pc (.bin .or k a b))
    | .xor => some (fold pc (.bin .xor k a b))
    | .andNot => some (fold pc (.bin .andNot k a b))
    | .shl => if geO (rg pc b).1 0 then some (fold pc (.bin .shl k a b)) else none
    | .shr => if geO (rg pc b).1 0 then some (fold pc (.bin .shr k a b)) else none
    | _ => none

def arithOp : BinOp → Bool
  | .add | .sub | .mul | .rem | .quo | .and | .or | .xor | .andNot | .shl | .shr => true
  | _ => false

theorem binW_of {op : BinOp} {k : IntKind} {a b n : Int} (ho : arithOp op = true) (h : binN op k a b = n) (h0 : op = .quo ∨ op = .rem → b ≠ 0) (h1 : op = .shl ∨ op = .shr → 0 ≤ b) : binW op k a b = some (.int k n) := by
  cases op <;> simp only [arithOp, Bool.false_eq_true] at ho <;> simp only [binN, binW, binI, shlI, shrI] at h ⊢
  case quo => rw [if_neg (h0 (.inl rfl))] at *; rw [← h]
  case rem => rw [if_neg (h0 (.inr rfl))] at *; rw [← h]
  case shl => have := h1 (.inl rfl); rw [if_neg (show ¬ b < 0 by omega)] at *; rw [← h]
  case shr => have := h1 (.inr rfl); rw [if_neg (show ¬ b < 0 by omega)] at *; rw [← h]
  all_goals rw [← h]

theorem mkArith_ok {σ : Val} {pc : PC} (h : σ.ok pc) {op : BinOp} {k : IntKind} {a b t : IT} (ho : arithOp op = true) (hm : mkArith pc op k a b = some t) : binW op k (a.ev σ) (b.ev σ) = some (.int k (t.ev σ)) := by
  have bf : ∀ {s : IT}, s = fold pc (.bin op k a b) → s.ev σ = binN op k (a.ev σ) (b.ev σ) := by
    intro s hs; rw [hs, fold_ok h]; rfl
  unfold mkArith at hm
  split at hm
  · rename_i x y
    split at hm
    · rename_i k' n he
      cases hm
      have : k' = k := by
        cases op <;> simp only [arithOp, Bool.false_eq_true] at ho <;> simp only [binW, binI, shlI, shrI] at he <;> (try split at he) <;> simp at he <;> exact he.1.symm
      subst this
      simpa [IT.ev] using he
    · cases hm
  · cases op <;> simp only [arithOp, Bool.false_eq_true] at ho <;> simp only at hm
    case add =>
      cases hm
      refine binW_of rfl ?_ (by simp) (by simp)
      rw [fold_ok h]
      split
      · rename_i hk
        rw [mkAdd_ok]
        simp only [binN, binW, binI]
        exact inK_id hk ((rg_ok h a).add (rg_ok h b))
      · rfl
    case sub => exact binW_of rfl (mkSubI_ok h hm).symm (by simp) (by simp)
    case mul => cases hm; exact binW_of rfl (bf rfl).symm (by simp) (by simp)
    case rem =>
      split at hm
      · rename_i hb
        have hb' := geO_lo hb (rg_ok h b).1
        split at hm
        · rename_i hc
          cases hm
          simp only [Bool.and_eq_true] at hc
          have ha := geO_lo hc.1 (rg_ok h a).1
          have hl := ltB_ok h hc.2
          refine binW_of rfl ?_ (fun _ => by omega) (by simp)
          simp only [binN, binW, binI, if_neg (show ¬ b.ev σ = 0 by omega)]
          exact Int.tmod_eq_of_lt ha hl
        · cases hm
          exact binW_of rfl (bf rfl).symm (fun _ => by omega) (by simp)
      · cases hm
    case quo =>
      split at hm
      · rename_i hb
        have hb' := geO_lo hb (rg_ok h b).1
        cases hm
        exact binW_of rfl (bf rfl).symm (fun _ => by omega) (by simp)
      · cases hm
    case and => cases hm; exact binW_of rfl (bf rfl).symm (by simp) (by simp)
    case or => cases hm; exact binW_of rfl (bf rfl).symm (by simp) (by simp)
    case xor => cases hm; exact binW_of rfl (bf rfl).symm (by simp) (by simp)
    case andNot => cases hm; exact binW_of rfl (bf rfl).symm (by simp) (by simp)
    case shl =>
      split at hm
      · rename_i hb
        have hb' := geO_lo hb (rg_ok h b).1
        cases hm
        exact binW_of rfl (bf rfl).symm (by simp) (fun _ => by omega)
      · cases hm
    case shr =>
      split at hm
      · rename_i hb
        have hb' := geO_lo hb (rg_ok h b).1
        cases hm
        exact binW_of rfl (bf rfl).symm (by simp) (fun _ => by omega)
      · cases hm

/-- A truth, plain where it is known. -/
def plainB (pc : PC) (b : BT) : BT := match dB pc b with | some v => .c v | none => b
theorem plainB_ok {σ : Val} {pc : PC} (h : σ.ok pc) (b : BT) : (plainB pc b).ev σ = b.ev σ := by
  unfold plainB
  split
  · rename_i v hv; rw [dB_ok h b hv]; rfl
  · rfl

def mkConv (pc : PC) (k : IntKind) (a : IT) : IT :=
  match a with
  | .c n => .c (wrapK k n)
  | a => if inK k (rg pc a) then a else fold pc (.conv k a)
theorem mkConv_ok {σ : Val} {pc : PC} (h : σ.ok pc) (k : IntKind) (a : IT) : (mkConv pc k a).ev σ = wrapK k (a.ev σ) := by
  unfold mkConv
  split
  · rfl
  · split
    · rename_i hk; exact (inK_id hk (rg_ok h a)).symm
    · rw [fold_ok h]; rfl

def mkMin (pc : PC) (a b : IT) : IT := match dLt pc b a with | some true => b | some false => a | none => .min a b
def mkMax (pc : PC) (a b : IT) : IT := match dLt pc a b with | some true => b | some false => a | none => .max a b
theorem mkMin_ok {σ : Val} {pc : PC} (h : σ.ok pc) (a b : IT) : (mkMin pc a b).ev σ = if b.ev σ < a.ev σ then b.ev σ else a.ev σ := by
  unfold mkMin
  split
  · rename_i hd; have := dLt_ok h hd; simp at this; rw [if_pos this]
  · rename_i hd; have := dLt_ok h hd; simp at this; rw [if_neg (by omega)]
  · rfl
theorem mkMax_ok {σ : Val} {pc : PC} (h : σ.ok pc) (a b : IT) : (mkMax pc a b).ev σ = if b.ev σ > a.ev σ then b.ev σ else a.ev σ := by
  unfold mkMax
  split
  · rename_i hd; have := dLt_ok h hd; simp at this; rw [if_pos this]
  · rename_i hd; have := dLt_ok h hd; simp at this; rw [if_neg (by omega)]
  · rfl

/-- Two values, one operation. -/
def ofV : V → Option SV
  | .int k n => some (.int k (.c n))
  | .bool b => some (.bool (.c b))
  | _ => none
theorem ofV_ok (m : Mn) {v : V} {x : SV} (h : ofV v = some x) : x.cc m = v := by
  cases v <;> simp [ofV] at h <;> subst h <;> rfl
def sbinT (pc : PC) (op : BinOp) (k k' : IntKind) (a b : IT) : Option SV :=
  match op with
  | .shl => (mkArith pc .shl k a b).map (.int k)
  | .shr => (mkArith pc .shr k a b).map (.int k)
  | .eql => if k = k' then some (.bool (plainB pc (.eq a b))) else none
  | .neq => if k = k' then some (.bool (plainB pc (.not (.eq a b)))) else none
  | .lss => if k = k' then some (.bool (plainB pc (.lt a b))) else none
  | .leq => if k = k' then some (.bool (plainB pc (.le a b))) else none
  | .gtr => if k = k' then some (.bool (plainB pc (.lt b a))) else none
  | .geq => if k = k' then some (.bool (plainB pc (.le b a))) else none
  | op => if k = k' then (if arithOp op then (mkArith pc op k a b).map (.int k) else none) else none
def sbinI (pc : PC) (op : BinOp) (k k' : IntKind) (a b : IT) : Option SV :=
  match a, b with
  | .c x, .c y => (binV op (.int k x) (.int k' y)).bind ofV
  | a, b => sbinT pc op k k' a b
def sbinS (pc : PC) (op : BinOp) (a b : ST) : Option SV :=
  match op with
  | .add => if leB pc (mkAdd (mkLen pc a) (mkLen pc b)) (.c bound) then (match a, b with | .c u, .c v => some (.str (.c (u ++ v))) | a, b => some (.str (.cat a b))) else none
  | .eql => some (.bool (plainB pc (.eqS a b)))
  | .neq => some (.bool (plainB pc (.not (.eqS a b))))
  | _ => none
def sbin (pc : PC) (op : BinOp) (x y : SV) : Option SV :=
  match x, y with
  | .int k a, .int k' b => sbinI pc op k k' a b
  | .str a, .str b => sbinS pc op a b
  | _, _ => none

theorem binV_int (op : BinOp) (k k' : IntKind) (a b : Int) (h : op ≠ .shl) (h' : op ≠ .shr) : binV op (.int k a) (.int k' b) = if k = k' then binI op k a b else none := by
  cases op <;> first | rfl | exact absurd rfl h | exact absurd rfl h'

theorem sbinT_ok {m : Mn} {pc : PC} (h : m.σ.ok pc) {op : BinOp} {k k' : IntKind} {a b : IT} {v : SV} (hm : sbinT pc op k k' a b = some v) : binV op (.int k (a.ev m.σ)) (.int k' (b.ev m.σ)) = some (v.cc m) := by
  have ar : ∀ {op : BinOp}, arithOp op = true → op ≠ .shl → op ≠ .shr → (if k = k' then (if arithOp op then (mkArith pc op k a b).map (.int k) else none) else none) = some v → binV op (.int k (a.ev m.σ)) (.int k' (b.ev m.σ)) = some (v.cc m) := by
    intro op ho h1 h2 hh
    rw [binV_int op _ _ _ _ h1 h2]
    by_cases hk : k = k'
    · rw [if_pos hk]
      rw [if_pos hk, if_pos ho] at hh
      simp only [Option.map_eq_some_iff] at hh
      obtain ⟨t, ht, rfl⟩ := hh
      have := mkArith_ok h ho ht
      simp only [SV.cc]
      rw [← this]
      cases op <;> first | rfl | exact absurd rfl h1 | exact absurd rfl h2
    · rw [if_neg hk] at hh; cases hh
  have cm : ∀ {op : BinOp} {bt : BT}, op ≠ .shl → op ≠ .shr → (if k = k' then some (SV.bool (plainB pc bt)) else none) = some v → (∀ k, binI op k (a.ev m.σ) (b.ev m.σ) = some (.bool (bt.ev m.σ))) → binV op (.int k (a.ev m.σ)) (.int k' (b.ev m.σ)) = some (v.cc m) := by
    intro op bt h1 h2 hh hb
    rw [binV_int op _ _ _ _ h1 h2]
    split at hh
    · rename_i hk
      cases hh
      rw [if_pos hk, hb]; simp only [SV.cc, plainB_ok h]
    · cases hh
  unfold sbinT at hm
  split at hm
  · simp only [Option.map_eq_some_iff] at hm
    obtain ⟨t, ht, rfl⟩ := hm
    have := mkArith_ok h rfl ht
    simpa [SV.cc, binV, binW] using this
  · simp only [Option.map_eq_some_iff] at hm
    obtain ⟨t, ht, rfl⟩ := hm
    have := mkArith_ok h rfl ht
    simpa [SV.cc, binV, binW] using this
  · exact cm (by simp) (by simp) hm fun k => rfl
  · exact cm (by simp) (by simp) hm fun k => rfl
  · exact cm (by simp) (by simp) hm fun k => rfl
  · exact cm (by simp) (by simp) hm fun k => rfl
  · exact cm (by simp) (by simp) hm fun k => rfl
  · exact cm (by simp) (by simp) hm fun k => rfl
  · rename_i h1 h2 _ _ _ _ _ _
    by_cases ho : arithOp op = true
    · exact ar ho (fun e => h1 e) (fun e => h2 e) hm
    · rw [if_neg ho] at hm
      split at hm <;> cases hm
theorem sbin_ok {m : Mn} {pc : PC} (h : m.σ.ok pc) {op : BinOp} {x y v : SV} (hm : sbin pc op x y = some v) : binV op (x.cc m) (y.cc m) = some (v.cc m) := by
  unfold sbin at hm
  split at hm
  · rename_i k a k' b
    unfold sbinI at hm
    split at hm
    · simp only [Option.bind_eq_some_iff] at hm
      obtain ⟨u, hu, hv⟩ := hm
      simp only [SV.cc, IT.ev, hu, ofV_ok m hv]
    · exact sbinT_ok h hm
  · rename_i a b
    unfold sbinS at hm
    split at hm
    · split at hm
      · rename_i hl
        have hl' := leB_ok h hl
        rw [mkAdd_ok, mkLen_ok h, mkLen_ok h] at hl'
        simp only [IT.ev] at hl'
        simp only [SV.cc, binV]
        rw [if_pos (by omega)]
        split at hm <;> cases hm <;> rfl
      · cases hm
    · cases hm; simp only [SV.cc, binV, plainB_ok h, BT.ev]
    · cases hm; simp only [SV.cc, binV, plainB_ok h, BT.ev]
    · cases hm
  · cases hm

/-- Equal truths. -/
def eqBB (a b : BT) : Option BT :=
  match a, b with
  | .c true, b => some b
  | .c false, b => some (.not b)
  | a, .c true => some a
  | a, .c false => some (.not a)
  | a, b => if BT.beq a b then some (.c true) else none
theorem eqBB_ok {σ : Val} {a b c : BT} (h : eqBB a b = some c) : c.ev σ = (a.ev σ == b.ev σ) := by
  unfold eqBB at h
  split at h
  · cases h; simp [BT.ev]
  · cases h; simp [BT.ev]
  · cases h; simp [BT.ev]
  · cases h; simp [BT.ev]
  · split at h
    · rename_i he; cases h; rw [BT.beq_sound σ _ _ he]; simp [BT.ev]
    · cases h

/-- Two truths: the first is split if nothing else helps. -/
def rEqB (pc : PC) (a b : BT) : R BT :=
  match eqBB (plainB pc a) (plainB pc b) with
  | some c => rOne pc c
  | none => rB (rSplit pc a) fun pc v => rOne pc (if v then b else .not b)
theorem rEqB_ok {σ : Val} {pc : PC} (h : σ.ok pc) (a b : BT) : Snd σ (rEqB pc a b) fun c => c.ev σ = (a.ev σ == b.ev σ) := by
  unfold rEqB
  split
  · rename_i c hc
    refine Snd.one h ?_
    rw [eqBB_ok hc, plainB_ok h, plainB_ok h]
  · refine Snd.bind (rSplit_ok h a) fun pc v h v' => Snd.one h ?_
    subst v'
    cases hv : a.ev σ <;> simp [BT.ev]

def sEqCells (pc : PC) : List FK → List SV → List SV → R Bool
  | [], [], [] => rOne pc true
  | .b :: ks, .bool a :: xs, .bool b :: ys => rB (rEqB pc a b) fun pc c => rB (rSplit pc c) fun pc v => if v then sEqCells pc ks xs ys else rOne pc false
  | .i :: ks, .int k a :: xs, .int k' b :: ys => if k = k' then rB (rSplit pc (.eq a b)) fun pc v => if v then sEqCells pc ks xs ys else rOne pc false else rNo
  | .s :: ks, .str a :: xs, .str b :: ys => rB (rSplit pc (.eqS a b)) fun pc v => if v then sEqCells pc ks xs ys else rOne pc false
  | _, _, _ => rNo

theorem sEqCells_ok {m : Mn} : ∀ (ks : List FK) (xs ys : List SV) {pc : PC}, m.σ.ok pc → Snd m.σ (sEqCells pc ks xs ys) fun v => eqCells ks (SV.ccs m xs) (SV.ccs m ys) = some v := by
  intro ks
  induction ks with
  | nil =>
    intro xs ys pc h
    cases xs with
    | nil => cases ys with
      | nil => exact Snd.one h rfl
      | cons => exact Snd.none
    | cons => exact Snd.none
  | cons k ks ih =>
    intro xs ys pc h
    cases k with
    | b =>
      cases xs with
      | nil => exact Snd.none
      | cons x xs => cases ys with
        | nil => cases x <;> exact Snd.none
        | cons y ys =>
          cases x <;> (try exact Snd.none)
          cases y <;> (try exact Snd.none)
          rename_i a b
          refine Snd.bind (rEqB_ok h a b) fun pc c h hc => Snd.bind (rSplit_ok h c) fun pc v h hv => ?_
          have e : (a.ev m.σ == b.ev m.σ) = v := by rw [← hc, hv]
          cases v with
          | true => exact (ih xs ys h).mono fun w hw => by simp only [SV.ccs, SV.cc, eqCells]; rw [if_pos e]; exact hw
          | false => exact Snd.one h (by simp only [SV.ccs, SV.cc, eqCells]; rw [if_neg (by simpa using e)])
    | i =>
      cases xs with
      | nil => exact Snd.none
      | cons x xs => cases ys with
        | nil => cases x <;> exact Snd.none
        | cons y ys =>
          cases x <;> (try exact Snd.none)
          cases y <;> (try exact Snd.none)
          rename_i k a k' b
          simp only [sEqCells]
          split
          · rename_i hk
            refine Snd.bind (rSplit_ok h _) fun pc v h hv => ?_
            simp only [BT.ev] at hv
            cases v with
            | true => exact (ih xs ys h).mono fun w hw => by simp only [SV.ccs, SV.cc, eqCells]; rw [if_pos hk, if_pos hv]; exact hw
            | false => exact Snd.one h (by simp only [SV.ccs, SV.cc, eqCells]; rw [if_pos hk, if_neg (by simpa using hv)])
          · exact Snd.none
    | s =>
      cases xs with
      | nil => exact Snd.none
      | cons x xs => cases ys with
        | nil => cases x <;> exact Snd.none
        | cons y ys =>
          cases x <;> (try exact Snd.none)
          cases y <;> (try exact Snd.none)
          rename_i a b
          refine Snd.bind (rSplit_ok h _) fun pc v h hv => ?_
          simp only [BT.ev] at hv
          cases v with
          | true => exact (ih xs ys h).mono fun w hw => by simp only [SV.ccs, SV.cc, eqCells]; rw [if_pos hv]; exact hw
          | false => exact Snd.one h (by simp only [SV.ccs, SV.cc, eqCells]; rw [if_neg (by simpa using hv)])

def sEq (pc : PC) (c : EqC) (x y : SV) : R BT :=
  match c, x, y with
  | .bool, .bool a, .bool b => rEqB pc a b
  | .ptr, .nilp, .nilp => rOne pc (.c true)
  | .ptr, .nilp, .ptr _ _ => rOne pc (.c false)
  | .ptr, .ptr _ _, .nilp => rOne pc (.c false)
  | .slice, .nils, .nils => rOne pc (.c true)
  | .slice, .nils, .slice _ _ _ _ _ => rOne pc (.c false)
  | .slice, .slice _ _ _ _ _, .nils => rOne pc (.c false)
  | .iface, .nili, .nili => rOne pc (.c true)
  | .iface, .nili, .iface _ _ => rOne pc (.c false)
  | .iface, .iface _ _, .nili => rOne pc (.c false)
  | .map, .nilm, .nilm => rOne pc (.c true)
  | .map, .nilm, .map _ => rOne pc (.c false)
  | .map, .map _, .nilm => rOne pc (.c false)
  | .fn, .nilf, .nilf => rOne pc (.c true)
  | .fn, .nilf, .func _ _ => rOne pc (.c false)
  | .fn, .func _ _, .nilf => rOne pc (.c false)
  | .agg ks, .agg a, .agg b => rB (sEqCells pc ks a b) fun pc v => rOne pc (.c v)
  | _, _, _ => rNo

theorem sEq_ok {m : Mn} {pc : PC} (h : m.σ.ok pc) (c : EqC) (x y : SV) : Snd m.σ (sEq pc c x y) fun b => eqV c (x.cc m) (y.cc m) = some (b.ev m.σ) := by
  unfold sEq
  split
  · rename_i a b
    exact (rEqB_ok h a b).mono fun c hc => by simp only [SV.cc, eqV, hc]
  all_goals first
    | exact Snd.one h rfl
    | exact Snd.none
    | skip
  rename_i ks a b
  exact Snd.bind (sEqCells_ok ks a b h) fun pc v h hv => Snd.one h (by simp only [SV.cc, eqV, hv, BT.ev])

end Gw
