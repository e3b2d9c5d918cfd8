/- Operations that make a block. -/
import Derived.Test.YtkehghjhbfoooaaGreatDoorGxA11
import Derived.Lib.ConvBytes
import Derived.Laws.AppendOwn
noncomputable section
namespace Gw
open Go Go.RowKit

section
variable {P : Program} {ρ : Rho} {B : Nat → Prop}

theorem repL_get : ∀ (n : Nat) (z : List V) (k : Nat), (repL z n)[k]? = if k < n * z.length then z[k % z.length]? else none
  | 0, z, k => by simp [repL]
  | n + 1, z, k => by
    simp only [repL]
    by_cases hk : k < z.length
    · rw [List.getElem?_append_left hk, if_pos (by rw [Nat.add_mul]; omega), Nat.mod_eq_of_lt hk]
    · rw [List.getElem?_append_right (by omega), repL_get n z (k - z.length)]
      have e : (k - z.length < n * z.length) ↔ k < (n + 1) * z.length := by rw [Nat.add_mul]; omega
      by_cases h : k < (n + 1) * z.length
      · rw [if_pos (e.2 h), if_pos h]
        congr 1
        rw [← Nat.mod_eq_sub_mod (by omega)]
      · rw [if_neg (fun x => h (e.1 x)), if_neg h]

theorem repL_length (z : List V) (n : Nat) : (repL z n).length = n * z.length := by
  induction n with
  | zero => simp [repL]
  | succ n ih => simp [repL, ih, Nat.add_mul]; omega

theorem repL_VRs {z : List V} {zs : Array Value} (h : VRs ρ z zs.toList) (n : Nat) : VRs ρ (repL z n) ((Array.range (n * z.length)).map (zs[· % zs.size]!)).toList := by
  have hl := VRs.length h
  simp only [Array.length_toList] at hl
  refine VRs.of (by simp [repL_length]) fun i v hi => ?_
  rw [repL_get] at hi
  split at hi
  case isFalse => cases hi
  rename_i hlt
  obtain ⟨y, hy, hr⟩ := h.get hi
  refine ⟨y, ?_, hr⟩
  have hz : 0 < z.length := by
    rcases Nat.eq_zero_or_pos z.length with h0 | h0
    · rw [h0] at hlt; simp at hlt
    · exact h0
  rw [Array.getElem?_toList] at hy
  have hm : i % z.length < zs.size := by rw [hl]; exact Nat.mod_lt _ hz
  have hy' : zs[i % z.length]? = some y := hy
  simp only [Array.getElem?_toList, Array.getElem?_map, Array.getElem?_range, hlt, if_true, Option.map_some, hl]
  rw [Array.getElem!_eq_getD, Array.getD_eq_getD_getElem?, hy']; rfl

theorem zeroCells_VRs {z : List V} {zs : Array Value} (h : VRs ρ z zs.toList) (n : Nat) : VRs ρ (repL z n) (Builtin.zeroCells zs n).toList := by
  have hl := VRs.length h
  simp only [Array.length_toList] at hl
  unfold Builtin.zeroCells
  have h2 := repL_VRs h n
  rw [← hl] at h2; exact h2

/-- What it is for a new row to stand for cells: its first cells do. -/
theorem BR_new {ρ : Rho} {l : List V} {c : Array Value} {x : List Value} (hl : VRs ρ l x) (hx : ∃ rest, c.toList = x ++ rest) {w' : World} {b : Nat} {e : TypeId} {fz : Nat × Nat} (hw : w'.heap[b]? = some (.cells c e fz)) (hB : ¬ B b) (hfz : FZ fz c.size) :
    ∀ ρ', Le ρ ρ' → BR B ρ' ⟨b, 0, c.size⟩ w' (.cells false l) := by
  intro ρ' hle
  obtain ⟨rest, hr⟩ := hx
  have hlen := VRs.length hl
  have hc : c.size = x.length + rest.length := by rw [← Array.length_toList, hr]; simp
  refine ⟨c, e, fz, hw, rfl, by simp only; omega, fun k v hk => ?_, fun _ => ⟨hB, hfz⟩⟩
  obtain ⟨y, hy, hyr⟩ := hl.get hk
  refine ⟨y, ?_, hyr.mono hle⟩
  rw [Nat.zero_add, ← Array.getElem?_toList, hr]
  obtain ⟨hlt, _⟩ := List.getElem?_eq_some_iff.1 hy
  rw [List.getElem?_append_left hlt]; exact hy

/-- The end of an operation that makes a block at a free place. -/
def Makes (P : Program) (B : Nat → Prop) (ρ : Rho) (h : Heap) (w : World) (id : Nat) (b : Blk) (v : V) (a : Act) (o : Oper) : Prop :=
  ∃ x w' ρ', (execOp a.eval o).run P w = .ok (.value x) w' ∧ Le ρ ρ' ∧ VR ρ' v x ∧ HR B ρ' (h.put id (some b)) w' ∧ Keeps B w w'

theorem Makes.row {h : Heap} {w : World} (H : HR B ρ h w) {id : Nat} (hn : id < h.n) (hg : h.get id = none) {l : List V} {x : List Value} (hl : VRs ρ l x) {c : Array Value} (hx : ∃ rest, c.toList = x ++ rest)
    {v : V} {val : Value} {a : Act} {o : Oper} {w' : World} {e : TypeId} {fz : Nat × Nat} (hfz : FZ fz c.size) (hw' : w'.heap = w.heap.push (.cells c e fz)) (hos : w'.os = w.os) (htp : w'.tape = w.tape) (hout : w'.output = w.output)
    (hrun : (execOp a.eval o).run P w = .ok (.value val) w') (hv : VR (fun j => if j = id then some ⟨w.heap.size, 0, c.size⟩ else ρ j) v val) : Makes P B ρ h w id (.cells false l) v a o := by
  have hnew : w'.heap[w.heap.size]? = some (.cells c e fz) := by rw [hw', Array.getElem?_push]; simp
  obtain ⟨g1, g2, g3⟩ := H.make hn hg (b := .cells false l) rfl (L := ⟨w.heap.size, 0, c.size⟩) rfl hw' hos htp hout (BR_new hl hx hnew H.fresh hfz)
  exact ⟨val, w', _, hrun, g1, hv, g2, g3⟩

theorem run_newRow (e : TypeId) (c : Array Value) (w : World) : (newRow e c).run P w = .ok ⟨w.heap.size, 0, none⟩ { w with heap := w.heap.push (.cells c e) } := by simp [newRow]

theorem wrap_in {n : Int} (h0 : 0 ≤ n) (h1 : n ≤ 281474976710656) : IntKind.i64.wrap n = n := by
  simp [IntKind.wrap, IntKind.bits, IntKind.signed]; omega

/-- Operations that make a block. -/
theorem sd_a {t : List V} {a : Act} {o : Oper} {k : AK} {b : Blk} {v : V} {h : Heap} {w : World} {id : Nat} (hg : GR ρ) (ht : TR ρ t a.tmps) (H : HR B ρ h w) (hn : id < h.n) (hid : h.get id = none)
    (hc : cOp P o = some (.a k)) (hv : k.mk t id = some (b, v)) : Makes P B ρ h w id b v a o := by
  unfold cOp at hc
  split at hc <;> (try simp only [Option.map_eq_some_iff, Option.bind_eq_some_iff, reduceCtorEq, and_false, exists_false, Kc.a.injEq] at hc)
  · -- alloc
    rename_i ty hop
    obtain ⟨z, hz, rfl⟩ := hc
    obtain ⟨x, hx, _, hr⟩ := run_zeroCs (ρ := ρ) hz
    simp only [AK.mk, Option.some.injEq, Prod.mk.injEq] at hv
    obtain ⟨rfl, rfl⟩ := hv
    refine Makes.row H hn hid hx (c := x.cells) ⟨[], by simp⟩ (w' := { w with heap := w.heap.push (.cells (x.cells) ty) }) (.inl rfl) rfl rfl rfl rfl ?_ (val := .pointer (some ⟨w.heap.size, 0, none⟩)) (e := ty) ?_
    · simp only [execOp, hop]; simp [Instr.alloc, hr, newVar, run_newRow]
    · simp [VR]
  · -- box
    rename_i ty X hop
    obtain ⟨x, hx, rfl⟩ := hc
    have rx := sd_opd hg ht hx
    simp only [AK.mk] at hv
    split at hv
    case isFalse => cases hv
    rename_i hnt
    simp only [Option.some.injEq, Prod.mk.injEq] at hv
    obtain ⟨rfl, rfl⟩ := hv
    refine Makes.row H hn hid (VR.cells rx hnt) (c := (a.eval X).cells) ⟨[], by simp⟩ (w' := { w with heap := w.heap.push (.cells ((a.eval X).cells) ty) }) (.inl rfl) rfl rfl rfl rfl ?_ (val := .pointer (some ⟨w.heap.size, 0, none⟩)) (e := ty) ?_
    · simp only [execOp, hop]; simp [Instr.box, newVar, run_newRow]
    · simp [VR]
  · -- build
    obtain ⟨_, _, hc⟩ := hc
    split at hc <;> simp only [Option.map_eq_some_iff, Option.bind_eq_some_iff, reduceCtorEq, and_false, exists_false] at hc
  · -- buildSlice
    rename_i ty len ps hop
    split at hc
    · rename_i e hu
      simp only [Option.bind_eq_some_iff] at hc
      obtain ⟨n, hsz, hc⟩ := hc
      split at hc
      · cases hc
      · rename_i hcond
        simp only [Option.map_eq_some_iff, Option.bind_eq_some_iff, Kc.a.injEq] at hc
        obtain ⟨z, hz, qs, hq, rfl⟩ := hc
        obtain ⟨x, hx, hzl, hr⟩ := run_zeroCs (ρ := ρ) hz
        rw [hsz] at hzl; simp only [Option.some.injEq] at hzl
        simp only [AK.mk, Option.map_eq_some_iff, Prod.mk.injEq] at hv
        obtain ⟨cs, hfill, rfl, rfl⟩ := hv
        have hz0 := repL_VRs hx len
        rw [← hzl] at hz0
        obtain ⟨R, hR, hRR⟩ := fill_ok (partsBy_PR hg ht hq) hz0 hfill
        have hR' : Instr.fill (fun i => some (i * n, n)) ((Array.range (len * n)).map (x.cells[· % x.cells.size]!)) (List.map (fun x => (x.fst, a.eval x.snd)) ps.toList) = some R := hR
        have hlen : len * n ≤ R.size := by
          have h1 := VRs.length hRR
          have h2 : ∀ (qs : List (Nat × Nat × V)) (l r : List V), fillV l qs = some r → r.length = l.length := by
            intro qs
            induction qs with
            | nil => intro l r h; simp only [fillV, Option.some.injEq] at h; subst h; rfl
            | cons q qs ih =>
              intro l r h
              obtain ⟨o, s, v⟩ := q
              simp only [fillV] at h
              split at h
              · simp only [Option.bind_eq_some_iff] at h
                obtain ⟨l', hl', h⟩ := h
                rw [ih l' r h, (putAt_some _ _ _ _ hl').1]
              · cases h
          have h3 := h2 _ _ _ hfill
          rw [repL_length, ← hzl] at h3
          simp only [Array.length_toList] at h1
          omega
        have hle : ¬ len * n > 2 ^ 24 := by
          have : ¬ len * n > 16777216 := fun hh => hcond (.inr hh)
          simpa using this
        refine Makes.row H hn hid hRR (c := R) ⟨[], by simp⟩ (w' := { w with heap := w.heap.push (.cells (R) e) }) (.inl rfl) rfl rfl rfl rfl ?_ (val := .slice (some ⟨w.heap.size, 0, none⟩) len len) (e := e) ?_
        · simp only [execOp, hop]
          have hps : (ps.map fun (i, x) => (i, a.eval x)).toList = ps.toList.map (fun x => (x.fst, a.eval x.snd)) := by simp
          by_cases h0 : len * n = 0
          · have hrange : ((Array.range (len * n)).map (x.cells[· % x.cells.size]!)) = #[] := by rw [h0]; apply Array.ext'; simp
            have hrange' : ((Array.range (len * n)).map ((#[] : Array Value)[· % (#[] : Array Value).size]!)) = #[] := by rw [h0]; apply Array.ext'; simp
            rw [hrange] at hR'
            simp only [Instr.buildSlice, Sem.run_bind, run_underlying hu, Result.andThen_ok, run_szOf hsz, if_neg hle, if_pos h0, Sem.run_pure, hrange', hps, hR', run_newRow]
          · simp only [Instr.buildSlice, Sem.run_bind, run_underlying hu, Result.andThen_ok, run_szOf hsz, if_neg hle, if_neg h0, Sem.run_pure, hr, hps, hR', run_newRow]
        · simp only [VR]
          refine ⟨_, _, rfl, by omega, fun c' hc' => by simpa using hc', ⟨⟨w.heap.size, 0, R.size⟩, by simp, by simp, .inr ⟨by simp, by simp only; omega⟩⟩⟩
    · cases hc
  · -- load
    obtain ⟨_, _, _, _, hc⟩ := hc
    split at hc
    · simp only [Option.map_eq_some_iff, reduceCtorEq, and_false, exists_false] at hc
    · cases hc
  · -- binOp
    obtain ⟨_, _, _, _, hc⟩ := hc
    unfold cBin at hc
    split at hc
    · split at hc <;> simp only [Option.map_eq_some_iff, reduceCtorEq, and_false, exists_false, Option.some.injEq] at hc
    · split at hc <;> simp only [Option.map_eq_some_iff, reduceCtorEq, and_false, exists_false, Option.some.injEq] at hc
    · simp only [Option.some.injEq, reduceCtorEq] at hc
  · -- unOp
    obtain ⟨_, _, hc⟩ := hc
    split at hc <;> simp only [reduceCtorEq, Option.some.injEq] at hc
  · -- convert
    rename_i s d X hop
    obtain ⟨x, hx, hc⟩ := hc
    have rx := sd_opd hg ht hx
    unfold cConv at hc
    split at hc <;> (try simp only [reduceCtorEq, Option.some.injEq] at hc)
    · rename_i e hs hd
      split at hc <;> simp only [reduceCtorEq, Option.some.injEq, Kc.a.injEq] at hc
      rename_i hue
      subst hc
      simp only [AK.mk] at hv
      split at hv
      case h_2 => cases hv
      rename_i bs he
      rw [he] at rx; simp only [VR] at rx
      simp only [Option.some.injEq, Prod.mk.injEq] at hv
      obtain ⟨rfl, rfl⟩ := hv
      have hrun := Go.Lib.run_convert_string_bytes (P := P) w s d e ⟨⟨bs⟩⟩ hs hd hue
      have hcap := grownCap_ge w bs.length 0 e
      have hcells : (Go.Lib.bytesCells w e ⟨⟨bs⟩⟩).toList = bs.map (fun b => Value.int .u8 b.toNat) ++ List.replicate (grownCap w bs.length 0 e - bs.length) (.int .u8 0) := by
        simp [Go.Lib.bytesCells]; rfl
      have hsize : (Go.Lib.bytesCells w e ⟨⟨bs⟩⟩).size = grownCap w bs.length 0 e := by
        rw [← Array.length_toList, hcells]; simp; omega
      have hbv : VRs ρ (byteVs bs) (bs.map (fun b => Value.int .u8 b.toNat)) := by
        clear hrun hcells hsize hcap he rx
        induction bs with
        | nil => simp [byteVs, VRs]
        | cons b bs ih => exact VRs.cons (by simp only [VR]) ih
      refine Makes.row H hn hid hbv (c := Go.Lib.bytesCells w e ⟨⟨bs⟩⟩) ⟨_, hcells⟩ (w' := Go.Lib.bytesWorld w e ⟨⟨bs⟩⟩) (e := e) (fz := ((Go.Lib.bytesCells w e ⟨⟨bs⟩⟩).size, (Go.Lib.bytesCells w e ⟨⟨bs⟩⟩).size + 1)) (.inr rfl) ?_ ?_ ?_ ?_ ?_ (val := .slice (some ⟨w.heap.size, 0, none⟩) bs.length (grownCap w bs.length 0 e)) ?_
      · apply Array.ext_getElem?
        intro i
        rw [Array.getElem?_push]
        by_cases hi : i = w.heap.size
        · subst hi; rw [if_pos rfl]; exact Go.Lib.bytesWorld_at_new w e _
        · rw [if_neg hi]
          by_cases hlt : i < w.heap.size
          · exact Go.Lib.bytesWorld_at_old w e _ i hlt
          · rw [Array.getElem?_eq_none (by rw [Go.Lib.bytesWorld_size]; omega), Array.getElem?_eq_none (by omega)]
      · simp only [Go.Lib.bytesWorld, World.freeze]; split <;> rfl
      · simp only [Go.Lib.bytesWorld, World.freeze]; split <;> rfl
      · simp only [Go.Lib.bytesWorld, World.freeze]; split <;> rfl
      · simp only [execOp, hop, rx]
        simp only [Sem.run_bind, hrun, Result.andThen_ok, Sem.run_pure]
        rfl
      · simp only [VR]
        exact ⟨_, _, rfl, hcap, fun c' hc' => (by cases hc'), ⟨⟨w.heap.size, 0, (Go.Lib.bytesCells w e ⟨⟨bs⟩⟩).size⟩, by simp, by simp, .inr ⟨by simp, by simp only [hsize]; omega⟩⟩⟩
    · split at hc <;> simp only [reduceCtorEq, Option.some.injEq] at hc
    · split at hc
      · split at hc <;> simp only [reduceCtorEq, Option.some.injEq] at hc
      · cases hc
  · -- makeInterface
    obtain ⟨_, _, hc⟩ := hc
    split at hc <;> simp only [reduceCtorEq, Option.some.injEq] at hc
  · -- makeFunc
    split at hc
    · simp only [Option.map_eq_some_iff, reduceCtorEq, and_false, exists_false] at hc
    · cases hc
  · -- makeMap
    rename_i ty r hop
    have hk : k = .mkmap ∧ (execOp a.eval o).run P w = .ok (.value (.map (some w.heap.size))) { w with heap := w.heap.push (.map #[] 0) } := by
      split at hc
      · simp only [Option.some.injEq, Kc.a.injEq] at hc
        exact ⟨hc.symm, by simp only [execOp, hop]; simp [Instr.makeMap]⟩
      · rename_i hu
        simp only [Option.some.injEq, Kc.a.injEq] at hc
        exact ⟨hc.symm, by simp only [execOp, hop]; simp [Instr.makeMap, run_underlying hu, Act.eval, asInt, asIntOf]⟩
      · cases hc
    obtain ⟨rfl, hrun⟩ := hk
    simp only [AK.mk, Option.some.injEq, Prod.mk.injEq] at hv
    obtain ⟨rfl, rfl⟩ := hv
    obtain ⟨g1, g2, g3⟩ := H.make hn hid (b := .mp []) rfl (L := ⟨w.heap.size, 0, 0⟩) rfl (w' := { w with heap := w.heap.push (.map #[] 0) }) rfl rfl rfl rfl (fun ρ' _ => ⟨#[], 0, by simp, by simp [ER], H.fresh⟩)
    exact ⟨_, _, _, hrun, g1, by simp [VR], g2, g3⟩
  · -- makeSlice
    rename_i ty Ln Cp hop
    obtain ⟨l, hl, c, hcc, hc⟩ := hc
    have rl := sd_opd hg ht hl
    have rc := sd_opd hg ht hcc
    split at hc
    · rename_i e hu
      simp only [Option.bind_eq_some_iff] at hc
      obtain ⟨n, hsz, i, hi, hc⟩ := hc
      split at hc
      · cases hc
      · rename_i hn0
        simp only [Option.map_eq_some_iff, Kc.a.injEq] at hc
        obtain ⟨z, hz, rfl⟩ := hc
        obtain ⟨x, hx, hzl, hr⟩ := run_zeroCs (ρ := ρ) hz
        rw [hsz] at hzl; simp only [Option.some.injEq] at hzl
        simp only [AK.mk] at hv
        split at hv
        case h_2 => cases hv
        rename_i k1 ln k2 cp he1 he2
        rw [he1] at rl; rw [he2] at rc
        simp only [VR] at rl rc
        split at hv
        case isFalse => cases hv
        rename_i hb
        obtain ⟨b0, b1, b2, b3⟩ := hb
        simp only [Option.some.injEq, Prod.mk.injEq] at hv
        obtain ⟨rfl, rfl⟩ := hv
        have hz0 := repL_VRs hx cp.toNat
        rw [← hzl] at hz0
        have wl : IntKind.i64.wrap ln = ln := wrap_in b0 (by omega)
        have wc : IntKind.i64.wrap cp = cp := wrap_in (by omega) b3
        refine Makes.row H hn hid hz0 (c := (Array.range (cp.toNat * n)).map (x.cells[· % x.cells.size]!)) ⟨[], by simp⟩ (w' := { w with heap := w.heap.push (.cells ((Array.range (cp.toNat * n)).map (x.cells[· % x.cells.size]!)) e) }) (.inl rfl) rfl rfl rfl rfl ?_ (val := .slice (some ⟨w.heap.size, 0, none⟩) ln.toNat cp.toNat) (e := e) ?_
        · simp only [execOp, hop, rl, rc]
          have e1 : ¬ (cp < 0) := by omega
          have e2 : ¬ (281474976710656 < (i.bytes : Int) * cp) := by rw [Int.mul_comm]; omega
          have e3 : ¬ (ln < 0) := by omega
          have e4 : ¬ (cp < ln) := by omega
          have hti : ∀ w, (typeInfo e).run P w = .ok i w := fun w => by simp [typeInfo, hi]
          have e5 : (decide (cp < 0) || decide ((i.bytes : Int) * cp > 2 ^ 48)) = false := by
            have : ¬ ((i.bytes : Int) * cp > 2 ^ 48) := by omega
            simp only [Bool.or_eq_false_iff, decide_eq_false_iff_not]; exact ⟨e1, this⟩
          have e6 : ¬ (((decide (cp < 0) || decide ((i.bytes : Int) * cp > 2 ^ 48)) || decide (ln < 0) || decide (ln > cp)) = true) := by
            rw [e5]; simp only [Bool.false_or, Bool.or_eq_true, decide_eq_true_eq]; omega
          have tail : ∀ (zs : Array Value), ((Array.range (cp.toNat * n)).map (zs[· % zs.size]!)) = ((Array.range (cp.toNat * n)).map (x.cells[· % x.cells.size]!)) →
              ((do let a ← newRow e ((Array.range (cp.toNat * n)).map (zs[· % zs.size]!)); pure (Value.slice (some a) ln.toNat cp.toNat) : Sem Value)).run P w = .ok (.slice (some ⟨w.heap.size, 0, none⟩) ln.toNat cp.toNat) { w with heap := w.heap.push (.cells ((Array.range (cp.toNat * n)).map (x.cells[· % x.cells.size]!)) e) } := by
            intro zs hz; rw [hz, Sem.run_bind, run_newRow]; rfl
          simp only [Instr.makeSlice, Sem.run_bind, run_underlying hu, asInt, asIntOf, Sem.run_pure, Result.andThen_ok, hti, wl, wc]
          rw [if_neg e6]
          simp only [Sem.run_bind, run_askRoom, Result.andThen_ok, run_szOf hsz]
          by_cases h0 : cp.toNat * n = 0
          · rw [if_pos h0]
            have h1 := tail #[] (by rw [h0]; apply Array.ext'; simp)
            exact congrArg (fun r => Result.andThen r fun a w' => Result.ok (Next.value a) w') h1
          · rw [if_neg h0]
            have h1 := tail x.cells rfl
            simp only [Sem.run_bind, Sem.run_pure] at h1
            simp only [Sem.run_bind, hr, Sem.run_pure, Result.andThen_ok]
            rw [h1]; rfl
        · simp only [VR]
          refine ⟨_, _, rfl, by omega, fun c' hc' => by simpa using hc', ⟨⟨w.heap.size, 0, ((Array.range (cp.toNat * n)).map (x.cells[· % x.cells.size]!)).size⟩, by simp, by simp, .inr ⟨by simp, by simp⟩⟩⟩
    · cases hc
  · -- slice
    obtain ⟨_, _, _, _, _, _, _, _, hc⟩ := hc
    unfold cSlice at hc
    split at hc
    · split at hc <;> simp only [reduceCtorEq, Option.some.injEq] at hc
    · simp only [Option.bind_eq_some_iff] at hc
      obtain ⟨_, _, hc⟩ := hc
      split at hc <;> simp only [reduceCtorEq, Option.some.injEq] at hc
    · cases hc
  · -- fieldAddr
    obtain ⟨_, _, _, _, hc⟩ := hc
    split at hc <;> simp only [reduceCtorEq, Option.some.injEq] at hc
  · -- indexAddr
    obtain ⟨_, _, _, _, hc⟩ := hc
    split at hc
    · simp only [Option.bind_eq_some_iff] at hc
      obtain ⟨_, _, hc⟩ := hc
      split at hc <;> simp only [reduceCtorEq, Option.some.injEq] at hc
    · simp only [Option.bind_eq_some_iff] at hc
      obtain ⟨_, _, hc⟩ := hc
      split at hc <;> simp only [reduceCtorEq, Option.some.injEq] at hc
    · cases hc
  · -- index
    obtain ⟨_, _, _, _, hc⟩ := hc
    split at hc <;> simp only [Option.map_eq_some_iff, Option.bind_eq_some_iff, reduceCtorEq, and_false, exists_false, Option.some.injEq] at hc
  · -- lookup
    obtain ⟨_, _, _, _, hc⟩ := hc
    split at hc
    · split at hc
      · simp only [Option.map_eq_some_iff, reduceCtorEq, and_false, exists_false] at hc
      · cases hc
    · cases hc
  · -- insert
    obtain ⟨_, _, _, _, _, _, hc⟩ := hc
    split at hc
    · split at hc <;> simp only [reduceCtorEq, Option.some.injEq] at hc
    · cases hc
  · -- range
    rename_i ty X hop
    obtain ⟨x, hx, hc⟩ := hc
    have rx := sd_opd hg ht hx
    split at hc <;> simp only [reduceCtorEq, Option.some.injEq, Kc.a.injEq] at hc
    rename_i hu
    subst hc
    simp only [AK.mk] at hv
    split at hv
    case h_2 => cases hv
    rename_i bs he
    rw [he] at rx; simp only [VR] at rx
    simp only [Option.some.injEq, Prod.mk.injEq] at hv
    obtain ⟨rfl, rfl⟩ := hv
    obtain ⟨g1, g2, g3⟩ := H.make hn hid (b := .iter bs 0) rfl (L := ⟨w.heap.size, 0, 0⟩) rfl (w' := { w with heap := w.heap.push (.stringIter ⟨⟨bs⟩⟩ 0) }) rfl rfl rfl rfl (fun ρ' _ => ⟨by simp, rfl, H.fresh⟩)
    refine ⟨.pointer (some ⟨w.heap.size, 0, none⟩), _, _, ?_, g1, by simp [VR], g2, g3⟩
    simp only [execOp, hop, rx]
    simp [Instr.range, run_underlying hu]
  · -- typeAssert
    obtain ⟨_, _, hc⟩ := hc
    split at hc <;> simp only [Option.map_eq_some_iff, reduceCtorEq, and_false, exists_false] at hc
  · -- panic
    simp only [reduceCtorEq, Option.some.injEq] at hc
  · -- call
    obtain ⟨_, _, hc⟩ := hc
    split at hc
    · simp only [Option.map_eq_some_iff, reduceCtorEq, and_false, exists_false] at hc
    · unfold cBuiltin at hc
      split at hc
      · simp only [Option.bind_eq_some_iff] at hc
        obtain ⟨_, _, hc⟩ := hc
        split at hc <;> simp only [reduceCtorEq, Option.some.injEq] at hc
      · simp only [Option.bind_eq_some_iff] at hc
        obtain ⟨_, _, hc⟩ := hc
        split at hc <;> simp only [reduceCtorEq, Option.some.injEq] at hc
      · simp only [Option.bind_eq_some_iff] at hc
        obtain ⟨_, _, _, _, hc⟩ := hc
        split at hc <;> simp only [Option.bind_eq_some_iff, reduceCtorEq] at hc <;> (obtain ⟨_, _, _, _, hc⟩ := hc; split at hc) <;> simp only [Option.map_eq_some_iff, reduceCtorEq, and_false, exists_false] at hc
      · simp only [Option.bind_eq_some_iff] at hc
        obtain ⟨_, _, hc⟩ := hc
        split at hc <;> simp only [Option.bind_eq_some_iff, reduceCtorEq] at hc
        obtain ⟨_, _, hc⟩ := hc
        split at hc <;> simp only [reduceCtorEq, Option.some.injEq] at hc
      · simp only [Option.bind_eq_some_iff] at hc
        obtain ⟨_, _, hc⟩ := hc
        split at hc <;> simp only [Option.bind_eq_some_iff, reduceCtorEq] at hc
        obtain ⟨_, _, hc⟩ := hc
        split at hc <;> simp only [Option.map_eq_some_iff, reduceCtorEq, and_false, exists_false] at hc
      · simp only [reduceCtorEq, Option.some.injEq] at hc
      · simp only [reduceCtorEq, Option.some.injEq] at hc
      · cases hc
    · cases hc

end

end Gw
