/- Operations that read memory, and those that make a block. -/
import Derived.Test.YtkehghjhbfoooaaGreatDoorGxA10
import Derived.Laws.BytesString
namespace Gw
open Go Go.RowKit

section
variable {P : Program} {ρ : Rho} {B : Nat → Prop}

theorem bytesOf_VRs : ∀ {l : List V} {bs : List UInt8} {cs : List Value}, bytesOf l = some bs → VRs ρ l cs → ∃ ns : List Int, cs = ns.map (Value.int .u8) ∧ ∀ (s : List UInt8), ns.foldl (fun r n => r.push (UInt8.ofNat n.toNat)) (⟨⟨s⟩⟩ : ByteArray) = ⟨⟨s ++ bs⟩⟩
  | [], bs, cs, h, hc => by
    simp only [bytesOf, Option.some.injEq] at h; subst h
    rw [VRs.nil_iff] at hc; subst hc
    exact ⟨[], rfl, fun s => by simp⟩
  | v :: l, bs, cs, h, hc => by
    obtain ⟨y, ys, rfl, hy, hys⟩ := hc
    cases v <;> (try simp only [bytesOf, reduceCtorEq] at h)
    rename_i k n
    cases k <;> simp only [bytesOf, reduceCtorEq] at h
    cases hb : bytesOf l with
    | none => simp [hb] at h
    | some bs' =>
      simp only [hb, Option.map_some, Option.some.injEq] at h; subst h
      obtain ⟨ns, rfl, hf⟩ := bytesOf_VRs hb hys
      simp only [VR] at hy; subst hy
      refine ⟨n :: ns, rfl, fun s => ?_⟩
      simp only [List.foldl_cons]
      have : (⟨⟨s⟩⟩ : ByteArray).push (UInt8.ofNat n.toNat) = ⟨⟨s ++ [UInt8.ofNat n.toNat]⟩⟩ := by
        simp [ByteArray.push]
      rw [this, hf]; simp

theorem run_forIn_runes {w : World} (f : Value → ByteArray → Sem (ForInStep ByteArray)) (hf : ∀ n r, (f (.int .i32 n) r).run P w = .ok (.yield (r ++ Utf8.encode n)) w) :
    ∀ (ns : List Int) (r : ByteArray), (forIn (ns.map (Value.int .i32)) r f).run P w = .ok (ns.foldl (fun r n => r ++ Utf8.encode n) r) w := by
  intro ns
  induction ns with
  | nil => intro r; simp
  | cons n ns ih => intro r; simp only [List.map_cons, List.forIn_cons, Sem.run_bind, hf, Result.andThen, List.foldl_cons]; exact ih _

theorem run_runesToString (w : World) (a : Addr) (len cap : Nat) (ns : List Int) (h : (loadCells a len).run P w = .ok (ns.map (Value.int .i32)).toArray w) :
    (Conv.runesToString (.slice (some a) len cap)).run P w = .ok (.string (ns.foldl (fun r n => r ++ Utf8.encode n) ByteArray.empty)) w := by
  unfold Conv.runesToString
  simp only [Sem.run_bind, h, Result.andThen, List.forIn_toArray]
  rw [run_forIn_runes _ (by intro n r; simp [Sem.run_pure])]
  simp [Sem.run_pure]

theorem runesOf_VRs : ∀ {l : List V} {bs : List UInt8} {cs : List Value}, runesOf l = some bs → VRs ρ l cs → ∃ ns : List Int, cs = ns.map (Value.int .i32) ∧ ∀ (s : List UInt8), ns.foldl (fun r n => r ++ Utf8.encode n) (⟨⟨s⟩⟩ : ByteArray) = ⟨⟨s ++ bs⟩⟩
  | [], bs, cs, h, hc => by
    simp only [runesOf, Option.some.injEq] at h; subst h
    rw [VRs.nil_iff] at hc; subst hc
    exact ⟨[], rfl, fun s => by simp⟩
  | v :: l, bs, cs, h, hc => by
    obtain ⟨y, ys, rfl, hy, hys⟩ := hc
    cases v <;> (try simp only [runesOf, reduceCtorEq] at h)
    rename_i k n
    cases k <;> simp only [runesOf, reduceCtorEq] at h
    cases hb : runesOf l with
    | none => simp [hb] at h
    | some bs' =>
      simp only [hb, Option.map_some, Option.some.injEq] at h; subst h
      obtain ⟨ns, rfl, hf⟩ := runesOf_VRs hb hys
      simp only [VR] at hy; subst hy
      refine ⟨n :: ns, rfl, fun s => ?_⟩
      simp only [List.foldl_cons]
      have : (⟨⟨s⟩⟩ : ByteArray) ++ Utf8.encode n = ⟨⟨s ++ (Utf8.encode n).data.toList⟩⟩ := by
        apply ByteArray.ext; simp [ByteArray.data_append]
      rw [this, hf]; simp

theorem findE_ok {kd : IntKind} {n : Int} {kt : IntKind} : ∀ {es : List (V × V)} {en : List MapEntry} {o : Option V} (i : Nat), findE kd n es = some o → ER ρ es en →
    (o = none → Instr.findNow (.int kt) (.int kd n) en i = some none) ∧ (∀ v, o = some v → ∃ j x, Instr.findNow (.int kt) (.int kd n) en i = some (some (j, x)) ∧ VR ρ v x)
  | [], en, o, i, h, he => by
    simp only [findE, Option.some.injEq] at h; subst h
    simp only [ER] at he; subst he
    exact ⟨fun _ => rfl, fun v hv => by cases hv⟩
  | (k, v) :: es, en, o, i, h, he => by
    obtain ⟨e, ys, rfl, h1, h2, h3⟩ := he
    cases k <;> simp only [findE, reduceCtorEq] at h
    rename_i k' m
    split at h
    case isFalse => cases h
    rename_i hk; subst hk
    simp only [VR] at h1
    by_cases hnm : (n == m) = true
    · rw [if_pos hnm] at h
      simp only [Option.some.injEq] at h; subst h
      exact ⟨fun h => (by cases h), fun u hu => by
        simp only [Option.some.injEq] at hu; subst hu
        exact ⟨i, e.val, by simp [Instr.findNow, h1, Instr.sameNow, hnm], h2⟩⟩
    · rw [if_neg hnm] at h
      obtain ⟨g1, g2⟩ := findE_ok (kt := kt) (i + 1) h h3
      have hnm' : (n == m) = false := by simpa using hnm
      refine ⟨fun ho => ?_, fun u hu => ?_⟩
      · simp [Instr.findNow, h1, Instr.sameNow, hnm', g1 ho]
      · obtain ⟨j, x, hj, hx⟩ := g2 u hu
        exact ⟨j, x, by simp [Instr.findNow, h1, Instr.sameNow, hnm', hj], hx⟩

theorem checkKey_int {e : Bool} {kt : TypeId} {k : IntKind} {v : Value} (hu : P.underlying kt = some (.int k)) (d : Nat) (w : World) : (Instr.checkKey e (d + 1) kt v).run P w = .ok () w := by
  simp [Instr.checkKey, run_underlying hu]

/-- Operations that read memory. -/
theorem sd_r {t : List V} {a : Act} {o : Oper} {k : RK} {r : RV} {v : V} {h : Heap} {w : World} (hg : GR ρ) (ht : TR ρ t a.tmps) (H : HR B ρ h w) (hc : cOp P o = some (.r k)) (hr : k.res t = some r) (hv : r.rd h = some v) :
    ∃ x, VR ρ v x ∧ (execOp a.eval o).run P w = .ok (.value x) w := by
  unfold cOp at hc
  split at hc <;> (try simp only [Option.map_eq_some_iff, Option.bind_eq_some_iff, reduceCtorEq, and_false, exists_false] at hc)
  · -- build
    obtain ⟨_, _, hc⟩ := hc
    split at hc <;> simp only [Option.map_eq_some_iff, Option.bind_eq_some_iff, reduceCtorEq, and_false, exists_false] at hc
  · -- buildSlice
    split at hc
    · simp only [Option.bind_eq_some_iff] at hc
      obtain ⟨_, _, hc⟩ := hc
      split at hc
      · cases hc
      · simp only [Option.map_eq_some_iff, Option.bind_eq_some_iff, reduceCtorEq, and_false, exists_false] at hc
    · cases hc
  · -- load
    rename_i ty X hop
    obtain ⟨x, hx, g, hag, hc⟩ := hc
    have rx := sd_opd hg ht hx
    have ex : execOp a.eval o = (do pure (.value (← Instr.loadAt ty (a.eval X)))) := by simp only [execOp, hop]
    cases g with
    | true =>
      simp only [if_true, Option.map_eq_some_iff, Kc.r.injEq] at hc
      obtain ⟨n, hn, rfl⟩ := hc
      simp only [RK.res] at hr
      split at hr
      · rename_i id off he; rw [he] at rx
        simp only [Option.some.injEq] at hr; subst hr
        simp only [VR] at rx
        obtain ⟨L, hL, hxe⟩ := rx
        simp only [RV.rd, rdN, Option.map_eq_some_iff] at hv
        obtain ⟨l, hl, rfl⟩ := hv
        have key : ∃ cs : List Value, VRs ρ l cs ∧ (loadCells ⟨L.b, L.o + off, none⟩ n).run P w = .ok cs.toArray w := by
          split at hl
          · rename_i h0; simp only [Option.some.injEq] at hl; subst hl
            exact ⟨[], by simp [VRs], by rw [h0]; simp [loadCells, loadCellsFrom]⟩
          · simp only [Option.bind_eq_some_iff] at hl
            obtain ⟨row, hrow, hcs⟩ := hl
            obtain ⟨cs, g1, _, g3⟩ := H.cells (P := P) hrow hcs hL
            exact ⟨cs, g1, g3 _ (fun _ => rfl) w rfl⟩
        obtain ⟨cs, g1, g3⟩ := key
        refine ⟨.agg cs.toArray, by simp only [VR]; exact ⟨cs, rfl, g1⟩, ?_⟩
        rw [ex, hxe]
        simp [Instr.loadAt, Instr.sureAddr, loadVar, run_aggOf hag, run_szOf hn, g3]
      · cases hr
    | false =>
      simp only [Bool.false_eq_true, if_false, Option.some.injEq, Kc.r.injEq] at hc; subst hc
      simp only [RK.res] at hr
      split at hr
      · rename_i id off he; rw [he] at rx
        simp only [Option.some.injEq] at hr; subst hr
        simp only [VR] at rx
        obtain ⟨L, hL, hxe⟩ := rx
        simp only [RV.rd, Option.bind_eq_some_iff] at hv
        obtain ⟨row, hrow, hcl⟩ := hv
        obtain ⟨y, hy, hcell⟩ := H.cell hrow hcl hL
        refine ⟨y, hy, ?_⟩
        rw [ex, hxe]
        simp [Instr.loadAt, Instr.sureAddr, loadVar, run_aggOf hag, hcell]
      · cases hr
  · -- binOp
    obtain ⟨_, _, _, _, hc⟩ := hc
    unfold cBin at hc
    split at hc
    · split at hc <;> simp only [Option.map_eq_some_iff, reduceCtorEq, and_false, exists_false, Option.some.injEq] at hc
    · split at hc <;> simp only [Option.map_eq_some_iff, reduceCtorEq, and_false, exists_false, Option.some.injEq] at hc
    · simp only [Option.some.injEq, reduceCtorEq] at hc
  · -- unOp
    obtain ⟨_, _, hc⟩ := hc
    split at hc <;> simp only [reduceCtorEq, Option.some.injEq] at hc
  · -- convert
    rename_i s d X hop
    obtain ⟨x, hx, hc⟩ := hc
    have rx := sd_opd hg ht hx
    have ex : execOp a.eval o = (do pure (.value (← convert s d (a.eval X)))) := by simp only [execOp, hop]
    unfold cConv at hc
    split at hc <;> (try simp only [reduceCtorEq, Option.some.injEq] at hc)
    · split at hc <;> simp only [reduceCtorEq, Option.some.injEq] at hc
    · rename_i e hs hd
      split at hc <;> simp only [reduceCtorEq, Option.some.injEq, Kc.r.injEq] at hc
      · rename_i hue
        subst hc
        simp only [RK.res] at hr
        split at hr
        · rename_i he; rw [he] at rx; simp only [VR] at rx
          simp only [Option.some.injEq] at hr; subst hr
          simp only [RV.rd, Option.some.injEq] at hv; subst hv
          refine ⟨.string .empty, by simp only [VR]; rfl, ?_⟩
          rw [ex, rx]; simp [convert, run_underlying hs, run_underlying hd, run_underlying hue, Conv.bytesToString]
        · rename_i id off n e' cp he; rw [he] at rx
          split at hr
          case isFalse => cases hr
          rename_i he1; subst he1
          simp only [Option.some.injEq] at hr; subst hr
          simp only [VR] at rx
          obtain ⟨A, kk, hxe, hsr⟩ := rx
          simp only [RV.rd, Option.bind_eq_some_iff, Option.map_eq_some_iff] at hv
          obtain ⟨l, hl, bs, hbs, rfl⟩ := hv
          obtain ⟨cs, g1, g2, g3⟩ := H.slice (P := P) hsr hsr.1 (m := n) (r := l) (by simpa using hl)
          obtain ⟨ns, rfl, hf⟩ := bytesOf_VRs hbs g1
          have g3 := g3 w rfl
          simp only [Nat.mul_one] at g3
          refine ⟨.string ⟨⟨bs⟩⟩, by simp only [VR], ?_⟩
          rw [ex, hxe]
          have := run_bytesToString (P := P) w A n kk ns g3
          have hf' := hf []
          simp only [List.nil_append] at hf'
          have he : (ByteArray.empty : ByteArray) = ⟨⟨[]⟩⟩ := rfl
          rw [he, hf'] at this
          simp [convert, run_underlying hs, run_underlying hd, run_underlying hue, this]
        · cases hr
      · rename_i hue
        subst hc
        simp only [RK.res] at hr
        split at hr
        · rename_i he; rw [he] at rx; simp only [VR] at rx
          simp only [Option.some.injEq] at hr; subst hr
          simp only [RV.rd, Option.some.injEq] at hv; subst hv
          refine ⟨.string .empty, by simp only [VR]; rfl, ?_⟩
          rw [ex, rx]; simp [convert, run_underlying hs, run_underlying hd, run_underlying hue, Conv.runesToString]
        · rename_i id off n e' cp he; rw [he] at rx
          split at hr
          case isFalse => cases hr
          rename_i he1; subst he1
          simp only [Option.some.injEq] at hr; subst hr
          simp only [VR] at rx
          obtain ⟨A, kk, hxe, hsr⟩ := rx
          simp only [RV.rd, Option.bind_eq_some_iff, Option.map_eq_some_iff] at hv
          obtain ⟨l, hl, bs, hbs, rfl⟩ := hv
          obtain ⟨cs, g1, g2, g3⟩ := H.slice (P := P) hsr hsr.1 (m := n) (r := l) (by simpa using hl)
          obtain ⟨ns, rfl, hf⟩ := runesOf_VRs hbs g1
          have g3 := g3 w rfl
          simp only [Nat.mul_one] at g3
          refine ⟨.string ⟨⟨bs⟩⟩, by simp only [VR], ?_⟩
          rw [ex, hxe]
          have := run_runesToString (P := P) w A n kk ns g3
          have hf' := hf []
          simp only [List.nil_append] at hf'
          have he : (ByteArray.empty : ByteArray) = ⟨⟨[]⟩⟩ := rfl
          rw [he, hf'] at this
          simp [convert, run_underlying hs, run_underlying hd, run_underlying hue, this]
        · cases hr
    · split at hc
      · split at hc <;> simp only [reduceCtorEq, Option.some.injEq] at hc
      · cases hc
  · -- makeInterface
    obtain ⟨_, _, hc⟩ := hc
    split at hc <;> simp only [reduceCtorEq, Option.some.injEq] at hc
  · -- makeFunc
    split at hc
    · simp only [Option.map_eq_some_iff, reduceCtorEq, and_false, exists_false] at hc
    · cases hc
  · -- makeMap
    split at hc <;> simp only [reduceCtorEq, Option.some.injEq] at hc
  · -- makeSlice
    obtain ⟨_, _, _, _, hc⟩ := hc
    split at hc
    · simp only [Option.bind_eq_some_iff] at hc
      obtain ⟨_, _, _, _, hc⟩ := hc
      split at hc
      · cases hc
      · simp only [Option.map_eq_some_iff, reduceCtorEq, and_false, exists_false] at hc
    · cases hc
  · -- slice
    obtain ⟨_, _, _, _, _, _, _, _, hc⟩ := hc
    unfold cSlice at hc
    split at hc
    · split at hc <;> simp only [reduceCtorEq, Option.some.injEq] at hc
    · simp only [Option.bind_eq_some_iff] at hc
      obtain ⟨_, _, hc⟩ := hc
      split at hc <;> simp only [reduceCtorEq, Option.some.injEq] at hc
    · cases hc
  · -- fieldAddr
    obtain ⟨_, _, _, _, hc⟩ := hc
    split at hc <;> simp only [reduceCtorEq, Option.some.injEq] at hc
  · -- indexAddr
    obtain ⟨_, _, _, _, hc⟩ := hc
    split at hc
    · simp only [Option.bind_eq_some_iff] at hc
      obtain ⟨_, _, hc⟩ := hc
      split at hc <;> simp only [reduceCtorEq, Option.some.injEq] at hc
    · simp only [Option.bind_eq_some_iff] at hc
      obtain ⟨_, _, hc⟩ := hc
      split at hc <;> simp only [reduceCtorEq, Option.some.injEq] at hc
    · cases hc
  · -- index
    obtain ⟨_, _, _, _, hc⟩ := hc
    split at hc <;> simp only [Option.map_eq_some_iff, Option.bind_eq_some_iff, reduceCtorEq, and_false, exists_false, Option.some.injEq] at hc
  · -- lookup
    rename_i ty M K hop
    obtain ⟨m, hm, kk, hk, hc⟩ := hc
    have rm := sd_opd hg ht hm
    have rk := sd_opd hg ht hk
    have ex : execOp a.eval o = (do pure (.value (← Instr.lookup ty (a.eval M) (a.eval K) false))) := by simp only [execOp, hop]
    split at hc
    · rename_i kt et hu
      split at hc
      · rename_i ik huk
        simp only [Option.map_eq_some_iff, Kc.r.injEq] at hc
        obtain ⟨z, hz, rfl⟩ := hc
        obtain ⟨zv, hzv, hrz⟩ := run_zeroV (ρ := ρ) hz
        simp only [RK.res] at hr
        split at hr
        · rename_i id kd n he1 he2; rw [he1] at rm; rw [he2] at rk
          simp only [Option.some.injEq] at hr; subst hr
          simp only [VR] at rm rk
          obtain ⟨L, hL, hme⟩ := rm
          simp only [RV.rd, Option.bind_eq_some_iff, Option.map_eq_some_iff] at hv
          obtain ⟨es, hes, oo, hfe, rfl⟩ := hv
          have hgm : h.get id = some (.mp es) := by
            unfold mapOf at hes
            split at hes
            · rename_i es' hg'; simp only [Option.some.injEq] at hes; subst hes; exact hg'
            · cases hes
          obtain ⟨L', hL', en, ck, hw, her, _⟩ := H.blk id _ hgm
          rw [hL] at hL'; simp only [Option.some.injEq] at hL'; subst hL'
          obtain ⟨f1, f2⟩ := findE_ok (kt := ik) 0 hfe her
          cases oo with
          | none =>
            refine ⟨zv, hzv, ?_⟩
            rw [ex, hme, rk]
            have hf := f1 rfl
            simp [Instr.lookup, run_underlying hu, getObj, Sem.run, hw, checkKey_int huk, Instr.findKey, run_underlying huk, hf, hrz]
          | some v =>
            obtain ⟨j, x, hj, hx⟩ := f2 v rfl
            refine ⟨x, hx, ?_⟩
            rw [ex, hme, rk]
            simp [Instr.lookup, run_underlying hu, getObj, Sem.run, hw, checkKey_int huk, Instr.findKey, run_underlying huk, hj]
        · cases hr
      · cases hc
    · cases hc
  · -- insert
    obtain ⟨_, _, _, _, _, _, hc⟩ := hc
    split at hc
    · split at hc <;> simp only [reduceCtorEq, Option.some.injEq] at hc
    · cases hc
  · -- range
    obtain ⟨_, _, hc⟩ := hc
    split at hc <;> simp only [reduceCtorEq, Option.some.injEq] at hc
  · -- typeAssert
    obtain ⟨_, _, hc⟩ := hc
    split at hc <;> simp only [Option.map_eq_some_iff, reduceCtorEq, and_false, exists_false] at hc
  · -- panic
    simp only [reduceCtorEq, Option.some.injEq] at hc
  · -- call
    obtain ⟨_, _, hc⟩ := hc
    split at hc
    · simp only [Option.map_eq_some_iff, reduceCtorEq, and_false, exists_false] at hc
    · unfold cBuiltin at hc
      split at hc
      · simp only [Option.bind_eq_some_iff] at hc
        obtain ⟨_, _, hc⟩ := hc
        split at hc <;> simp only [reduceCtorEq, Option.some.injEq] at hc
      · simp only [Option.bind_eq_some_iff] at hc
        obtain ⟨_, _, hc⟩ := hc
        split at hc <;> simp only [reduceCtorEq, Option.some.injEq] at hc
      · simp only [Option.bind_eq_some_iff] at hc
        obtain ⟨_, _, _, _, hc⟩ := hc
        split at hc <;> simp only [Option.bind_eq_some_iff, reduceCtorEq] at hc <;> (obtain ⟨_, _, _, _, hc⟩ := hc; split at hc) <;> simp only [Option.map_eq_some_iff, reduceCtorEq, and_false, exists_false] at hc
      · simp only [Option.bind_eq_some_iff] at hc
        obtain ⟨_, _, hc⟩ := hc
        split at hc <;> simp only [Option.bind_eq_some_iff, reduceCtorEq] at hc
        obtain ⟨_, _, hc⟩ := hc
        split at hc <;> simp only [reduceCtorEq, Option.some.injEq] at hc
      · simp only [Option.bind_eq_some_iff] at hc
        obtain ⟨_, _, hc⟩ := hc
        split at hc <;> simp only [Option.bind_eq_some_iff, reduceCtorEq] at hc
        obtain ⟨_, _, hc⟩ := hc
        split at hc <;> simp only [Option.map_eq_some_iff, reduceCtorEq, and_false, exists_false] at hc
      · simp only [reduceCtorEq, Option.some.injEq] at hc
      · simp only [reduceCtorEq, Option.some.injEq] at hc
      · cases hc
    · cases hc

end

end Gw
