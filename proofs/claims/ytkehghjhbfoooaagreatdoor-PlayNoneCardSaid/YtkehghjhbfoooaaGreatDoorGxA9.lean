/- Operations that ask nothing of memory: all of them. -/
import Derived.Test.YtkehghjhbfoooaaGreatDoorGxA8
noncomputable section
namespace Gw
open Go

section
variable {P : Program} {ρ : Rho}

/-- An operation comes to a value that the machine's stands for, in every world. -/
def Yld (P : Program) (ρ : Rho) (v : V) (a : Act) (o : Oper) : Prop := ∃ x, VR ρ v x ∧ ∀ w, (execOp a.eval o).run P w = .ok (.value x) w

theorem Yld.of {v : V} {a : Act} {o : Oper} {s : Sem Value} (h : Gives P ρ v s) (e : execOp a.eval o = (do pure (.value (← s)))) : Yld P ρ v a o := by
  obtain ⟨x, hx, hr⟩ := h
  exact ⟨x, hx, fun w => by rw [e]; simp [hr]⟩

theorem eqguard_int {t : TypeId} (X Y : Operand) (op : BinOp) {x y : V} {op' : BinOp} {v : V} {a b : Value} (h : binV op' x y = some v) (ha : VR ρ x a) (hb : VR ρ y b) (w : World) : (eqGuard op t X Y a b).run P w = .ok () w := by
  unfold binV at h
  split at h
  · simp only [VR] at ha hb; subst ha hb; exact eqguard X Y op trivial w
  · simp only [VR] at ha hb; subst ha hb; exact eqguard X Y op trivial w
  · cases h

theorem eqguard_none (X Y : Operand) {op : BinOp} (h1 : op ≠ .eql) (h2 : op ≠ .neq) (t : TypeId) (a b : Value) (w : World) : (eqGuard op t X Y a b).run P w = .ok () w := by
  cases op <;> first | rfl | exact absurd rfl h1 | exact absurd rfl h2

theorem gives_build (hg : GR ρ) {t : TypeId} {tt : List V} {a : Act} (ht : TR ρ tt a.tmps) {ps : Array (Nat × Operand)} {z : List V} {qs : List (Nat × Nat × Opd)} {v : V} (hz : zeroCs P t = some z)
    (hp : (∃ fs pl, P.underlying t = some (.struct fs) ∧ placesOf P fs.toList = some pl ∧ partsAt pl ps.toList = some qs) ∨ (∃ n e sz, P.underlying t = some (.array n e) ∧ szOf P e = some sz ∧ partsBy sz ps.toList = some qs))
    (h : (fillV z (evP tt qs)).map V.agg = some v) : Gives P ρ v (Instr.build t (ps.map fun (i, x) => (i, a.eval x))) := by
  obtain ⟨x, hx, _, hr⟩ := run_zeroCs (ρ := ρ) hz
  simp only [Option.map_eq_some_iff] at h
  obtain ⟨r, hf, rfl⟩ := h
  rcases hp with ⟨fs, pl, hu, hpl, hq⟩ | ⟨n, e, sz, hu, hs, hq⟩
  · obtain ⟨R, hR, hRR⟩ := fill_ok (partsAt_PR hg ht hq) hx hf
    refine ⟨.agg R, by simp only [VR]; exact ⟨R.toList, rfl, hRR⟩, fun w => ?_⟩
    have hm : (fs.mapM fun f => (do pure (f.offset, ← Go.sizeOf f.type) : Sem (Nat × Nat))).run P w = .ok pl.toArray w := by
      rw [Array.mapM_eq_mapM_toList]
      have := placesOf_get hpl w
      simp only [bind_pure_comp] at this
      simp [this]
    simp only [bind_pure_comp] at hm
    have hR' : Instr.fill (fun x => pl[x]?) x.cells (List.map (fun x => (x.fst, a.eval x.snd)) ps.toList) = some R := hR
    simp [Instr.build, run_underlying hu, hr, hm, hR']
  · obtain ⟨R, hR, hRR⟩ := fill_ok (partsBy_PR hg ht hq) hx hf
    refine ⟨.agg R, by simp only [VR]; exact ⟨R.toList, rfl, hRR⟩, fun w => ?_⟩
    have hR' : Instr.fill (fun i => some (i * sz, sz)) x.cells (List.map (fun x => (x.fst, a.eval x.snd)) ps.toList) = some R := hR
    simp [Instr.build, run_underlying hu, hr, run_szOf hs, hR']

theorem gives_extract {l : List V} {i : Nat} {v : V} {a : Value} (hl : isAnyL l = false) (ha : VR ρ (.tup l) a) (h : cellAt l i = some v) : Gives P ρ v (Instr.extract a i) := by
  simp only [VR] at ha
  rcases ha with ha | ⟨A, rfl, hA⟩
  · rw [hl] at ha; cases ha
  rw [cellAt_eq] at h
  obtain ⟨y, hy, hr⟩ := hA.get h
  exact ⟨y, hr, fun w => by simp [Instr.extract, hy]⟩

theorem gives_lenStr {t : TypeId} {ats : Array TypeId} {ty : TypeId} {x v : V} {a : Value} (h0 : ats[0]? = some t) (hu : P.underlying t = some .string) (h : lenStr x = some v) (ha : VR ρ x a) :
    Gives P ρ v (Builtin.len_ ats ty #[a]) := by
  cases x <;> simp only [lenStr, reduceCtorEq, Option.some.injEq] at h
  subst h
  rename_i s
  simp only [VR] at ha; subst ha
  refine ⟨.int .i64 s.length, by simp only [VR], fun w => ?_⟩
  simp only [Builtin.len_, h0]
  simp [run_underlying hu, goInt]; rfl

theorem gives_len {t e : TypeId} {ats : Array TypeId} {ty : TypeId} {x v : V} {a : Value} (h0 : ats[0]? = some t) (hu : P.underlying t = some (.slice e)) (h : lenV x = some v) (ha : VR ρ x a) :
    Gives P ρ v (Builtin.len_ ats ty #[a]) := by
  cases x <;> simp only [lenV, reduceCtorEq, Option.some.injEq] at h <;> subst h
  · simp only [VR] at ha; subst ha
    refine ⟨.int .i64 0, by simp only [VR], fun w => ?_⟩
    simp only [Builtin.len_, h0]
    simp [run_underlying hu, goInt]
  · rename_i i o l e' c
    simp only [VR] at ha
    obtain ⟨A, k, rfl, _⟩ := ha
    refine ⟨.int .i64 l, by simp only [VR], fun w => ?_⟩
    simp only [Builtin.len_, h0]
    simp [run_underlying hu, goInt]

theorem gives_lenA {t e : TypeId} {n : Nat} {ats : Array TypeId} {ty : TypeId} {a : Value} (h0 : ats[0]? = some t) (hu : P.underlying t = some (.array n e)) :
    Gives P ρ (.int .i64 n) (Builtin.len_ ats ty #[a]) := by
  refine ⟨.int .i64 n, by simp only [VR], fun w => ?_⟩
  simp only [Builtin.len_, h0]
  simp [run_underlying hu, goInt]

theorem gives_cap {t e : TypeId} {ats : Array TypeId} {ty : TypeId} {x v : V} {a : Value} (h0 : ats[0]? = some t) (hu : P.underlying t = some (.slice e)) (h : capV x = some v) (ha : VR ρ x a) :
    Gives P ρ v (Builtin.cap_ ats ty #[a]) := by
  cases x <;> simp only [capV, reduceCtorEq, Option.some.injEq] at h
  · subst h
    simp only [VR] at ha; subst ha
    refine ⟨.int .i64 0, by simp only [VR], fun w => ?_⟩
    simp only [Builtin.cap_, h0]
    simp [run_underlying hu, goInt]
  · rename_i i o l e' c
    cases c with
    | none => simp at h
    | some c =>
      simp only [Option.some.injEq] at h; subst h
      simp only [VR] at ha
      obtain ⟨A, k, rfl, hs⟩ := ha
      have := hs.2.1 c rfl
      subst this
      refine ⟨.int .i64 k, by simp only [VR], fun w => ?_⟩
      simp only [Builtin.cap_, h0]
      simp [run_underlying hu, goInt]

/-- Operations that ask nothing of memory. -/
theorem sd_p {t : List V} {a : Act} {o : Oper} {k : PK} {v : V} (hg : GR ρ) (ht : TR ρ t a.tmps) (hc : cOp P o = some (.p k)) (hv : k.ev t = some v) : Yld P ρ v a o := by
  unfold cOp at hc
  split at hc <;> (try simp only [Option.map_eq_some_iff, Option.bind_eq_some_iff, reduceCtorEq, and_false, exists_false, Kc.p.injEq] at hc)
  · -- move
    rename_i hop
    obtain ⟨x, hx, rfl⟩ := hc
    simp only [PK.ev, Option.some.injEq] at hv; subst hv
    exact ⟨_, sd_opd hg ht hx, fun w => by simp only [execOp, hop]; rfl⟩
  · -- assign
    rename_i hop
    obtain ⟨x, hx, rfl⟩ := hc
    simp only [PK.ev, Option.some.injEq] at hv; subst hv
    exact ⟨_, sd_opd hg ht hx, fun w => by simp only [execOp, hop]; rfl⟩
  · -- pick
    rename_i hop
    obtain ⟨c, hc', x, hx, y, hy, rfl⟩ := hc
    have rc := sd_opd hg ht hc'
    have rx := sd_opd hg ht hx
    have ry := sd_opd hg ht hy
    simp only [PK.ev] at hv
    split at hv
    · rename_i he; rw [he] at rc; simp only [VR] at rc
      simp only [Option.some.injEq] at hv; subst hv
      exact ⟨_, rx, fun w => by simp only [execOp, hop]; simp [rc, asBool]⟩
    · rename_i he; rw [he] at rc; simp only [VR] at rc
      simp only [Option.some.injEq] at hv; subst hv
      exact ⟨_, ry, fun w => by simp only [execOp, hop]; simp [rc, asBool]⟩
    · cases hv
  · -- build
    rename_i ty ps hop
    obtain ⟨z, hz, hc⟩ := hc
    refine Yld.of (s := Instr.build ty (ps.map fun (i, x) => (i, a.eval x))) ?_ (by simp only [execOp, hop])
    split at hc
    · rename_i fs hu
      simp only [Option.map_eq_some_iff, Option.bind_eq_some_iff, Kc.p.injEq] at hc
      obtain ⟨pl, hpl, qs, hq, rfl⟩ := hc
      exact gives_build hg ht hz (.inl ⟨fs, pl, hu, hpl, hq⟩) hv
    · rename_i n e hu
      simp only [Option.map_eq_some_iff, Option.bind_eq_some_iff, Kc.p.injEq] at hc
      obtain ⟨sz, hsz, qs, hq, rfl⟩ := hc
      exact gives_build hg ht hz (.inr ⟨n, e, sz, hu, hsz, hq⟩) hv
    · cases hc
  · -- buildSlice
    split at hc
    · simp only [Option.bind_eq_some_iff] at hc
      obtain ⟨_, _, hc⟩ := hc
      split at hc
      · cases hc
      · simp only [Option.map_eq_some_iff, Option.bind_eq_some_iff, reduceCtorEq, and_false, exists_false] at hc
    · cases hc
  · -- load
    obtain ⟨_, _, _, _, hc⟩ := hc
    split at hc
    · simp only [Option.map_eq_some_iff, reduceCtorEq, and_false, exists_false] at hc
    · cases hc
  · -- nilCheck
    rename_i hop
    obtain ⟨x, hx, rfl⟩ := hc
    have rx := sd_opd hg ht hx
    simp only [PK.ev] at hv
    split at hv
    · rename_i i off he
      simp only [Option.some.injEq] at hv; subst hv
      rw [he] at rx
      have rx' := rx
      simp only [VR] at rx
      obtain ⟨L, hL, hxe⟩ := rx
      rw [hxe] at rx'
      exact ⟨_, rx', fun w => by simp only [execOp, hop, hxe]; rfl⟩
    · rename_i f c he
      simp only [Option.some.injEq] at hv; subst hv
      rw [he] at rx
      have rx' := rx
      simp only [VR] at rx
      obtain ⟨A, hxe, _⟩ := rx
      rw [hxe] at rx'
      exact ⟨_, rx', fun w => by simp only [execOp, hop, hxe]; rfl⟩
    · cases hv
  · -- binOp
    rename_i op xt X Y yt hop
    obtain ⟨x, hx, y, hy, hc⟩ := hc
    have rx := sd_opd hg ht hx
    have ry := sd_opd hg ht hy
    refine Yld.of (s := do eqGuard op xt X Y (a.eval X) (a.eval Y); binOp op xt (a.eval X) (a.eval Y)) ?_ (by simp only [execOp, hop])
    have viaBin : ∀ op' k', op' = op → k' = PK.bin op' x y → k = k' → Gives P ρ v (do eqGuard op xt X Y (a.eval X) (a.eval Y); binOp op xt (a.eval X) (a.eval Y)) := by
      intro op' k' h1 h2 h3
      subst h1; subst h3; subst h2
      simp only [PK.ev] at hv
      obtain ⟨z, hz, hr⟩ := gives_bin (P := P) xt hv rx ry
      exact ⟨z, hz, fun w => by simp [eqguard_int X Y op' hv rx ry, hr]⟩
    unfold cBin at hc
    split at hc
    · split at hc
      · simp only [Option.some.injEq, Kc.p.injEq] at hc; exact viaBin _ _ rfl rfl hc.symm
      · simp only [Option.some.injEq, Kc.p.injEq] at hc; exact viaBin _ _ rfl rfl hc.symm
      · simp only [Option.map_eq_some_iff, Kc.p.injEq] at hc
        obtain ⟨c, hcc, rfl⟩ := hc
        simp only [PK.ev, Option.map_eq_some_iff, Bool.false_eq_true, if_false] at hv
        obtain ⟨r, hr, rfl⟩ := hv
        obtain ⟨g1, g2, _⟩ := gives_eqV hcc hr rx ry X Y .eql
        exact ⟨.bool r, by simp only [VR], fun w => by simp [g1, g2]⟩
    · split at hc
      · simp only [Option.some.injEq, Kc.p.injEq] at hc; exact viaBin _ _ rfl rfl hc.symm
      · simp only [Option.some.injEq, Kc.p.injEq] at hc; exact viaBin _ _ rfl rfl hc.symm
      · simp only [Option.map_eq_some_iff, Kc.p.injEq] at hc
        obtain ⟨c, hcc, rfl⟩ := hc
        simp only [PK.ev, Option.map_eq_some_iff, if_true] at hv
        obtain ⟨r, hr, rfl⟩ := hv
        obtain ⟨g1, _, g2⟩ := gives_eqV hcc hr rx ry X Y .neq
        exact ⟨.bool !r, by simp only [VR], fun w => by simp [g1, g2]⟩
    · rename_i h1 h2
      simp only [Option.some.injEq, Kc.p.injEq] at hc
      exact viaBin _ _ rfl rfl hc.symm
  · -- unOp
    rename_i op xt X hop
    obtain ⟨x, hx, hc⟩ := hc
    have rx := sd_opd hg ht hx
    refine Yld.of (s := Op.unary op (a.eval X)) ?_ (by simp only [execOp, hop])
    cases op <;> simp only [Option.some.injEq, Kc.p.injEq, reduceCtorEq] at hc <;> subst hc <;> simp only [PK.ev] at hv
    · split at hv
      · rename_i kk n he; rw [he] at rx; simp only [VR] at rx
        simp only [Option.some.injEq] at hv; subst hv
        rw [rx]
        exact ⟨_, by simp only [VR]; rfl, fun w => by simp [Op.unary, Op.intArith, wrapK_eq]⟩
      · cases hv
    · split at hv
      · rename_i kk n he; rw [he] at rx; simp only [VR] at rx
        simp only [Option.some.injEq] at hv; subst hv
        rw [rx]
        refine ⟨_, by simp only [VR]; rfl, fun w => ?_⟩
        have hm : (BitVec.ofInt kk.bits (if kk.signed = true then -1 else kk.max)).toNat = modK kk - 1 := by cases kk <;> rfl
        simp only [Op.unary, Op.intBits, Sem.run_pure, BitVec.toNat_xor, hm, bitsK_eq, wrapK_eq]
        rfl
      · cases hv
    · split at hv
      · rename_i b he; rw [he] at rx; simp only [VR] at rx
        simp only [Option.some.injEq] at hv; subst hv
        rw [rx]
        exact ⟨_, by simp only [VR]; rfl, fun w => by simp [Op.unary]⟩
      · cases hv
  · -- convert
    rename_i s d X hop
    obtain ⟨x, hx, hc⟩ := hc
    have rx := sd_opd hg ht hx
    refine Yld.of (s := convert s d (a.eval X)) ?_ (by simp only [execOp, hop])
    unfold cConv at hc
    split at hc
    · rename_i ks kd hs hd
      simp only [Option.some.injEq, Kc.p.injEq] at hc; subst hc
      simp only [PK.ev] at hv
      split at hv
      · rename_i kk n he; rw [he] at rx; simp only [VR] at rx
        simp only [Option.some.injEq] at hv; subst hv
        rw [rx]
        exact ⟨_, by simp only [VR]; rfl, fun w => by simp [convert, run_underlying hs, run_underlying hd, Conv.intToInt, wrapK_eq]⟩
      · cases hv
    · rename_i hs hd
      simp only [Option.some.injEq, Kc.p.injEq] at hc; subst hc
      simp only [PK.ev] at hv
      split at hv
      · rename_i b he; rw [he] at rx; simp only [VR] at rx
        simp only [Option.some.injEq] at hv; subst hv
        rw [rx]
        exact ⟨_, by simp only [VR]; rfl, fun w => by simp [convert, run_underlying hs, run_underlying hd]⟩
      · cases hv
    · split at hc <;> simp only [reduceCtorEq, Option.some.injEq] at hc
    · split at hc <;> simp only [reduceCtorEq, Option.some.injEq] at hc
    · split at hc
      · split at hc <;> simp only [reduceCtorEq, Option.some.injEq] at hc
      · cases hc
    · cases hc
  · -- makeInterface
    rename_i ty X hop
    obtain ⟨x, hx, hc⟩ := hc
    have rx := sd_opd hg ht hx
    split at hc
    · cases hc
    · rename_i d hni hu
      simp only [Option.some.injEq, Kc.p.injEq] at hc; subst hc
      simp only [PK.ev, Option.some.injEq] at hv; subst hv
      refine Yld.of (s := Instr.makeInterface ty (a.eval X)) ⟨.iface ty (a.eval X), by simp only [VR]; exact ⟨_, rfl, rx⟩, fun w => ?_⟩ (by simp only [execOp, hop])
      simp only [Instr.makeInterface, Sem.run_bind, run_underlying hu, Result.andThen_ok]
      cases d <;> first | rfl | exact absurd hu (hni _)
    · cases hc
  · -- makeFunc
    rename_i f fst cs hop
    split at hc
    case isFalse => cases hc
    rename_i hemp
    simp only [Option.map_eq_some_iff, Kc.p.injEq] at hc
    obtain ⟨cs', hcs, rfl⟩ := hc
    simp only [PK.ev, Option.some.injEq] at hv; subst hv
    have hf : fst = #[] := by simpa using hemp
    subst hf
    refine Yld.of (s := Instr.makeFunc (.func f) ((#[] : Array Operand).map a.eval) (cs.map a.eval)) ⟨.func (.func f) #[] (cs.map a.eval), ?_, fun w => by simp [Instr.makeFunc]⟩ (by simp only [execOp, hop])
    simp only [VR]
    refine ⟨(cs.map a.eval).toList, rfl, ?_⟩
    rw [Array.toList_map]
    exact sd_opds hg ht hcs
  · -- makeMap
    split at hc <;> simp only [reduceCtorEq, Option.some.injEq] at hc
  · -- makeSlice
    obtain ⟨_, _, _, _, hc⟩ := hc
    split at hc
    · simp only [Option.bind_eq_some_iff] at hc
      obtain ⟨_, _, _, _, hc⟩ := hc
      split at hc
      · cases hc
      · simp only [Option.map_eq_some_iff, reduceCtorEq, and_false, exists_false] at hc
    · cases hc
  · -- slice
    rename_i ty X lo hi mx hop
    obtain ⟨x, hx, lo', hlo, hi', hhi, mx', hmx, hc⟩ := hc
    have rx := sd_opd hg ht hx
    have rl := sd_opt hg ht hlo
    have rh := sd_opt hg ht hhi
    have rm := sd_opt hg ht hmx
    refine Yld.of (s := Instr.sliceAt ty (a.eval X) (lo.map a.eval) (hi.map a.eval) (mx.map a.eval)) ?_ (by simp only [execOp, hop])
    unfold cSlice at hc
    split at hc
    · rename_i hu
      split at hc
      · simp only [Option.some.injEq, Kc.p.injEq] at hc; subst hc
        simp only [PK.ev] at hv
        simp only [evO, VO] at rm
        rw [rm]
        exact gives_sliceS hu hv rx rl rh
      · cases hc
    · rename_i e hu
      simp only [Option.bind_eq_some_iff] at hc
      obtain ⟨n, hn, hc⟩ := hc
      split at hc
      · cases hc
      · simp only [Option.some.injEq, Kc.p.injEq] at hc; subst hc
        simp only [PK.ev] at hv
        exact gives_sliceV hu hn hv rx rl rh rm
    · cases hc
  · -- fieldAddr
    rename_i ty X f hop
    obtain ⟨x, hx, p, hp, hc⟩ := hc
    have rx := sd_opd hg ht hx
    split at hc
    · cases hc
    · rename_i hn
      simp only [Option.some.injEq, Kc.p.injEq] at hc; subst hc
      obtain ⟨off, n, g⟩ := p
      simp only [PK.ev] at hv
      split at hv
      · rename_i id oo he; rw [he] at rx
        simp only [Option.some.injEq] at hv; subst hv
        exact Yld.of (s := Instr.fieldAt ty (a.eval X) f) (gives_fieldA hp hn rx) (by simp only [execOp, hop])
      · cases hv
  · -- field
    rename_i ty X f hop
    obtain ⟨x, hx, p, hp, rfl⟩ := hc
    obtain ⟨off, n, g⟩ := p
    simp only [PK.ev] at hv
    exact Yld.of (s := Instr.field ty (a.eval X) f) (gives_field hp hv (sd_opd hg ht hx)) (by simp only [execOp, hop])
  · -- indexAddr
    rename_i ty X I hop
    obtain ⟨x, hx, i, hi, hc⟩ := hc
    refine Yld.of (s := Instr.indexAt ty (a.eval X) (a.eval I)) ?_ (by simp only [execOp, hop])
    split at hc
    · rename_i e hu
      simp only [Option.bind_eq_some_iff] at hc
      obtain ⟨n, hn, hc⟩ := hc
      split at hc
      · cases hc
      · simp only [Option.some.injEq, Kc.p.injEq] at hc; subst hc
        simp only [PK.ev] at hv
        exact gives_idxS hu hn hv (sd_opd hg ht hx) (sd_opd hg ht hi)
    · rename_i len e hu
      simp only [Option.bind_eq_some_iff] at hc
      obtain ⟨n, hn, hc⟩ := hc
      split at hc
      · cases hc
      · simp only [Option.some.injEq, Kc.p.injEq] at hc; subst hc
        simp only [PK.ev] at hv
        exact gives_idxA hu hn hv (sd_opd hg ht hx) (sd_opd hg ht hi)
    · cases hc
  · -- index
    rename_i ty X I hop
    obtain ⟨x, hx, i, hi, hc⟩ := hc
    refine Yld.of (s := Instr.index ty (a.eval X) (a.eval I)) ?_ (by simp only [execOp, hop])
    split at hc
    · rename_i hu
      simp only [Option.some.injEq, Kc.p.injEq] at hc; subst hc
      simp only [PK.ev] at hv
      exact gives_idxStr hu hv (sd_opd hg ht hx) (sd_opd hg ht hi)
    · rename_i len e hu
      simp only [Option.bind_eq_some_iff, Option.map_eq_some_iff, Kc.p.injEq] at hc
      obtain ⟨n, hn, g, hg', rfl⟩ := hc
      simp only [PK.ev] at hv
      exact gives_idxArr hu hn hg' hv (sd_opd hg ht hx) (sd_opd hg ht hi)
    · cases hc
  · -- lookup
    obtain ⟨_, _, _, _, hc⟩ := hc
    split at hc
    · split at hc
      · simp only [Option.map_eq_some_iff, reduceCtorEq, and_false, exists_false] at hc
      · cases hc
    · cases hc
  · -- insert
    obtain ⟨_, _, _, _, _, _, hc⟩ := hc
    split at hc
    · split at hc <;> simp only [reduceCtorEq, Option.some.injEq] at hc
    · cases hc
  · -- range
    obtain ⟨_, _, hc⟩ := hc
    split at hc <;> simp only [reduceCtorEq, Option.some.injEq] at hc
  · -- typeAssert
    rename_i X xt ty ok hop
    obtain ⟨x, hx, hc⟩ := hc
    refine Yld.of (s := Instr.typeAssert (a.eval X) xt ty ok) ?_ (by simp only [execOp, hop])
    split at hc
    · cases hc
    · rename_i d hni hu
      simp only [Option.map_eq_some_iff, Kc.p.injEq] at hc
      obtain ⟨z, hz, rfl⟩ := hc
      simp only [PK.ev] at hv
      exact gives_tassert hz ⟨d, hu, fun ms h => hni ms h⟩ hv (sd_opd hg ht hx)
    · cases hc
  · -- extract
    rename_i X i hop
    obtain ⟨x, hx, rfl⟩ := hc
    have rx := sd_opd hg ht hx
    simp only [PK.ev] at hv
    split at hv
    · rename_i l he; rw [he] at rx
      cases hl : isAnyL l with
      | true => rw [hl] at hv; cases hv
      | false =>
      rw [hl] at hv
      simp only [cond_false] at hv
      exact Yld.of (s := Instr.extract (a.eval X) i) (gives_extract hl rx hv) (by simp only [execOp, hop])
    · cases hv
  · -- panic
    simp only [Option.some.injEq, Kc.p.injEq] at hc; subst hc
    simp only [PK.ev, reduceCtorEq] at hv
  · -- call
    rename_i c hop
    obtain ⟨args, hargs, hc⟩ := hc
    split at hc
    · simp only [Option.map_eq_some_iff, reduceCtorEq, and_false, exists_false] at hc
    · rename_i b hb
      have rargs := sd_opds hg ht hargs
      have hex : execOp a.eval o = builtin b c.argTypes o.type (c.args.map fun | .const _ => true | _ => false) (c.args.map a.eval) := by
        simp only [execOp, hop, resolve, hb]; rfl
      have hal : (c.args.map a.eval) = ⟨c.args.toList.map a.eval⟩ := by
        apply Array.ext'; simp
      unfold cBuiltin at hc
      split at hc
      · -- len
        rename_i x
        simp only [Option.bind_eq_some_iff] at hc
        obtain ⟨ty, hty, hc⟩ := hc
        simp only [evs, VRs] at rargs
        obtain ⟨y, ys, hy, ry, rfl⟩ := rargs
        rw [hy] at hal
        refine Yld.of (s := Builtin.len_ c.argTypes o.type #[y]) ?_ (by rw [hex, hal]; rfl)
        split at hc
        · rename_i hu
          simp only [Option.some.injEq, Kc.p.injEq] at hc; subst hc
          exact gives_lenStr hty hu hv ry
        · rename_i e hu
          simp only [Option.some.injEq, Kc.p.injEq] at hc; subst hc
          exact gives_len hty hu hv ry
        · rename_i n e hu
          simp only [Option.some.injEq, Kc.p.injEq] at hc; subst hc
          simp only [PK.ev, Option.some.injEq] at hv; subst hv
          exact gives_lenA hty hu
        · cases hc
      · -- cap
        rename_i x
        simp only [Option.bind_eq_some_iff] at hc
        obtain ⟨ty, hty, hc⟩ := hc
        simp only [evs, VRs] at rargs
        obtain ⟨y, ys, hy, ry, rfl⟩ := rargs
        rw [hy] at hal
        refine Yld.of (s := Builtin.cap_ c.argTypes o.type #[y]) ?_ (by rw [hex, hal]; rfl)
        split at hc
        · rename_i e hu
          simp only [Option.some.injEq, Kc.p.injEq] at hc; subst hc
          exact gives_cap hty hu hv ry
        · cases hc
      · -- append
        simp only [Option.bind_eq_some_iff] at hc
        obtain ⟨_, _, _, _, hc⟩ := hc
        split at hc <;> simp only [Option.bind_eq_some_iff, reduceCtorEq] at hc <;> (obtain ⟨_, _, _, _, hc⟩ := hc; split at hc) <;> simp only [Option.map_eq_some_iff, reduceCtorEq, and_false, exists_false] at hc
      · -- copy
        simp only [Option.bind_eq_some_iff] at hc
        obtain ⟨_, _, hc⟩ := hc
        split at hc <;> simp only [Option.bind_eq_some_iff, reduceCtorEq] at hc
        obtain ⟨_, _, hc⟩ := hc
        split at hc <;> simp only [reduceCtorEq, Option.some.injEq] at hc
      · -- clear
        simp only [Option.bind_eq_some_iff] at hc
        obtain ⟨_, _, hc⟩ := hc
        split at hc <;> simp only [Option.bind_eq_some_iff, reduceCtorEq] at hc
        obtain ⟨_, _, hc⟩ := hc
        split at hc <;> simp only [Option.map_eq_some_iff, reduceCtorEq, and_false, exists_false] at hc
      · -- min
        rename_i x xs
        simp only [Option.some.injEq, Kc.p.injEq] at hc; subst hc
        simp only [evs, VRs] at rargs
        obtain ⟨y, ys, hy, ry, rys⟩ := rargs
        rw [hy] at hal
        exact Yld.of (s := ys.foldlM Builtin.min2 y) (gives_min hv ry rys) (by rw [hex, hal]; rfl)
      · -- max
        rename_i x xs
        simp only [Option.some.injEq, Kc.p.injEq] at hc; subst hc
        simp only [evs, VRs] at rargs
        obtain ⟨y, ys, hy, ry, rys⟩ := rargs
        rw [hy] at hal
        exact Yld.of (s := ys.foldlM Builtin.max2 y) (gives_max hv ry rys) (by rw [hex, hal]; rfl)
      · cases hc
    · cases hc

end

end Gw
