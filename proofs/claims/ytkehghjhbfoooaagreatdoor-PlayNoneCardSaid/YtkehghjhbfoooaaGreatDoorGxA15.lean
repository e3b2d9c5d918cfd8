/- Operations that turn memory, all but calls; and calls: what they come to. -/
import Derived.Test.YtkehghjhbfoooaaGreatDoorGxA14
noncomputable section
namespace Gw
open Go Go.RowKit

section
variable {P : Program} {ρ : Rho} {B : Nat → Prop}

def EK.isCall : EK → Bool
  | .call _ _ => true
  | _ => false

theorem args2 {A : Act} {c : Call} {x y : Opd} {t : List V} (h : VRs ρ (evs t [x, y]) (c.args.toList.map A.eval)) : ∃ X Y, (c.args.map A.eval) = #[X, Y] ∧ VR ρ (x.ev t) X ∧ VR ρ (y.ev t) Y := by
  simp only [evs, VRs] at h
  obtain ⟨X, l, h1, h2, Y, l', h3, h4, h5⟩ := h
  subst h5; subst h3
  refine ⟨X, Y, ?_, h2, h4⟩
  apply Array.ext'; simp [h1]
theorem args1 {A : Act} {c : Call} {x : Opd} {t : List V} (h : VRs ρ (evs t [x]) (c.args.toList.map A.eval)) : ∃ X, (c.args.map A.eval) = #[X] ∧ VR ρ (x.ev t) X := by
  simp only [evs, VRs] at h
  obtain ⟨X, l, h1, h2, h3⟩ := h
  subst h3
  refine ⟨X, ?_, h2⟩
  apply Array.ext'; simp [h1]

theorem app_of_x {w : World} {e t u ty : TypeId} {esz : Nat} {X : Value} {xs : List Value} {n : Nat} {ats : Array TypeId} {i : TypeInfo} {z0 : Value}
    (h0 : ats[0]? = some t) (h1 : ats[1]? = some u) (hu : P.underlying t = some (.slice e)) (hk : P.underlying u = some .string ∨ ∃ e', P.underlying u = some (.slice e')) (hn : szOf P e = some esz) (hi : P.info? e = some i) (hz : ∀ w, (zeroValue e).run P w = .ok z0 w)
    (hl : (Builtin.lenOf X).run P w = .ok n w) (hc : ∀ w', w'.heap = w.heap → (Builtin.firstCells esz n X).run P w' = .ok xs.toArray w') : App P w e esz i.bytes z0 ats ty X xs n :=
  ⟨fun base sLen sCap => (run_append_x h0 h1 hu hk hn hi hz hl hc base sLen sCap).1, fun base sLen sCap => (run_append_x h0 h1 hu hk hn hi hz hl hc base sLen sCap).2⟩

/-- Operations that turn memory, but calls. -/
theorem sd_e {cl : Cl} {t : List V} {a : Act} {o : Oper} {k : EK} {v : V} {h h' : Heap} {w : World} (hg : GR ρ) (ht : TR ρ t a.tmps) (H : HR B ρ h w) (hc : cOp P o = some (.e k)) (hk : k.isCall = false) (hv : k.run cl t h = some (v, h')) :
    Turns P B ρ h' w v (execOp a.eval o) := by
  unfold cOp at hc
  split at hc <;> (try simp only [Option.map_eq_some_iff, Option.bind_eq_some_iff, reduceCtorEq, and_false, exists_false, Kc.e.injEq] at hc)
  · -- build
    obtain ⟨_, _, hc⟩ := hc
    split at hc <;> simp only [Option.map_eq_some_iff, Option.bind_eq_some_iff, reduceCtorEq, and_false, exists_false] at hc
  · -- buildSlice
    split at hc
    · simp only [Option.bind_eq_some_iff] at hc
      obtain ⟨_, _, hc⟩ := hc
      split at hc
      · cases hc
      · simp only [Option.map_eq_some_iff, Option.bind_eq_some_iff, reduceCtorEq, and_false, exists_false] at hc
    · cases hc
  · -- load
    obtain ⟨_, _, _, _, hc⟩ := hc
    split at hc
    · simp only [Option.map_eq_some_iff, reduceCtorEq, and_false, exists_false] at hc
    · cases hc
  · -- store
    rename_i ty A X hop
    obtain ⟨x, hx, y, hy, n, hn, rfl⟩ := hc
    simp only [EK.run, Option.map_eq_some_iff, Prod.mk.injEq] at hv
    obtain ⟨h2, hs, rfl, rfl⟩ := hv
    have := turns_store H hn hs (sd_opd hg ht hx) (sd_opd hg ht hy)
    simpa only [execOp, hop] using this
  · -- binOp
    obtain ⟨_, _, _, _, hc⟩ := hc
    unfold cBin at hc
    split at hc
    · split at hc <;> simp only [Option.map_eq_some_iff, reduceCtorEq, and_false, exists_false, Option.some.injEq] at hc
    · split at hc <;> simp only [Option.map_eq_some_iff, reduceCtorEq, and_false, exists_false, Option.some.injEq] at hc
    · simp only [Option.some.injEq, reduceCtorEq] at hc
  · -- unOp
    obtain ⟨_, _, hc⟩ := hc
    split at hc <;> simp only [reduceCtorEq, Option.some.injEq] at hc
  · -- convert
    rename_i s d X hop
    obtain ⟨x, hx, hc⟩ := hc
    unfold cConv at hc
    split at hc <;> (try simp only [reduceCtorEq, Option.some.injEq] at hc)
    · split at hc <;> simp only [reduceCtorEq, Option.some.injEq] at hc
    · split at hc <;> simp only [reduceCtorEq, Option.some.injEq] at hc
    · rename_i e1 e hs hd
      split at hc
      case isFalse => cases hc
      rename_i hsd
      split at hc <;> simp only [reduceCtorEq, Option.some.injEq, Kc.e.injEq] at hc
      rename_i hue
      subst hc
      simp only [EK.run] at hv
      have := turns_froz H (hsd ▸ hd) hsd hue hv (sd_opd hg ht hx)
      simpa only [execOp, hop] using this
  · -- makeInterface
    obtain ⟨_, _, hc⟩ := hc
    split at hc <;> simp only [reduceCtorEq, Option.some.injEq] at hc
  · -- makeFunc
    split at hc
    · simp only [Option.map_eq_some_iff, reduceCtorEq, and_false, exists_false] at hc
    · cases hc
  · -- makeMap
    split at hc <;> simp only [reduceCtorEq, Option.some.injEq] at hc
  · -- makeSlice
    obtain ⟨_, _, _, _, hc⟩ := hc
    split at hc
    · simp only [Option.bind_eq_some_iff] at hc
      obtain ⟨_, _, _, _, hc⟩ := hc
      split at hc
      · cases hc
      · simp only [Option.map_eq_some_iff, reduceCtorEq, and_false, exists_false] at hc
    · cases hc
  · -- slice
    obtain ⟨_, _, _, _, _, _, _, _, hc⟩ := hc
    unfold cSlice at hc
    split at hc
    · split at hc <;> simp only [reduceCtorEq, Option.some.injEq] at hc
    · simp only [Option.bind_eq_some_iff] at hc
      obtain ⟨_, _, hc⟩ := hc
      split at hc <;> simp only [reduceCtorEq, Option.some.injEq] at hc
    · cases hc
  · -- fieldAddr
    obtain ⟨_, _, _, _, hc⟩ := hc
    split at hc <;> simp only [reduceCtorEq, Option.some.injEq] at hc
  · -- indexAddr
    obtain ⟨_, _, _, _, hc⟩ := hc
    split at hc
    · simp only [Option.bind_eq_some_iff] at hc
      obtain ⟨_, _, hc⟩ := hc
      split at hc <;> simp only [reduceCtorEq, Option.some.injEq] at hc
    · simp only [Option.bind_eq_some_iff] at hc
      obtain ⟨_, _, hc⟩ := hc
      split at hc <;> simp only [reduceCtorEq, Option.some.injEq] at hc
    · cases hc
  · -- index
    obtain ⟨_, _, _, _, hc⟩ := hc
    split at hc <;> simp only [Option.map_eq_some_iff, Option.bind_eq_some_iff, reduceCtorEq, and_false, exists_false, Option.some.injEq] at hc
  · -- lookup
    obtain ⟨_, _, _, _, hc⟩ := hc
    split at hc
    · split at hc
      · simp only [Option.map_eq_some_iff, reduceCtorEq, and_false, exists_false] at hc
      · cases hc
    · cases hc
  · -- insert
    rename_i ty M K X hop
    obtain ⟨m, hm, kk, hkk, x, hx, hc⟩ := hc
    split at hc
    · rename_i kt et hu
      split at hc <;> simp only [reduceCtorEq, Option.some.injEq, Kc.e.injEq] at hc
      rename_i ik huk
      subst hc
      simp only [EK.run, Option.map_eq_some_iff, Prod.mk.injEq] at hv
      obtain ⟨h2, hs, rfl, rfl⟩ := hv
      have := turns_insert H hu huk hs (sd_opd hg ht hm) (sd_opd hg ht hkk) (sd_opd hg ht hx)
      simpa only [execOp, hop] using this
    · cases hc
  · -- range
    obtain ⟨_, _, hc⟩ := hc
    split at hc <;> simp only [reduceCtorEq, Option.some.injEq] at hc
  · -- next
    rename_i X hop
    obtain ⟨x, hx, rfl⟩ := hc
    simp only [EK.run] at hv
    have := turns_next (P := P) (ty := o.type) H hv (sd_opd hg ht hx)
    simpa only [execOp, hop] using this
  · -- typeAssert
    obtain ⟨_, _, hc⟩ := hc
    split at hc <;> simp only [Option.map_eq_some_iff, reduceCtorEq, and_false, exists_false] at hc
  · -- panic
    simp only [reduceCtorEq, Option.some.injEq] at hc
  · -- call
    rename_i c hop
    obtain ⟨args, hargs, hc⟩ := hc
    split at hc
    · simp only [Option.map_eq_some_iff, Kc.e.injEq] at hc
      obtain ⟨_, _, rfl⟩ := hc
      simp [EK.isCall] at hk
    · rename_i b hb
      have rargs := sd_opds hg ht hargs
      have hex : execOp a.eval o = builtin b c.argTypes o.type (c.args.map fun | .const _ => true | _ => false) (c.args.map a.eval) := by
        simp only [execOp, hop, resolve, hb]; rfl
      unfold cBuiltin at hc
      split at hc
      · simp only [Option.bind_eq_some_iff] at hc
        obtain ⟨_, _, hc⟩ := hc
        split at hc <;> simp only [reduceCtorEq, Option.some.injEq] at hc
      · simp only [Option.bind_eq_some_iff] at hc
        obtain ⟨_, _, hc⟩ := hc
        split at hc <;> simp only [reduceCtorEq, Option.some.injEq] at hc
      · -- append
        rename_i s x
        obtain ⟨S, X, hcs, rS, rX⟩ := args2 rargs
        simp only [Option.bind_eq_some_iff] at hc
        obtain ⟨ty, hty, u, hu, hc⟩ := hc
        rw [hex, hcs]
        show Turns P B ρ h' w v (do pure (.value (← Builtin.append_ c.argTypes o.type #[S, X])))
        have common : ∀ {e : TypeId} {n : Nat} {i : TypeInfo}, szOf P e = some n → P.info? e = some i → n ≠ 0 → ∀ z, zeroCs P e = some z → ∃ zv : Value, zv.cells.size = n ∧ VRs ρ z zv.cells.toList ∧ (∀ w, (zeroValue e).run P w = .ok zv w) ∧ z.length = n := by
          intro e n i hn hi h0 z hz
          obtain ⟨zv, q1, q2, q3⟩ := run_zeroCs (ρ := ρ) hz
          rw [hn] at q2; simp only [Option.some.injEq] at q2
          have q4 := VRs.length q1
          simp only [Array.length_toList] at q4
          exact ⟨zv, by rw [q4, ← q2], q1, q3, q2.symm⟩
        split at hc
        · -- zeros
          rename_i e k1 hue huu
          simp only [Option.bind_eq_some_iff] at hc
          obtain ⟨n, hn, i, hi, hc⟩ := hc
          split at hc
          case isTrue => cases hc
          rename_i hb
          obtain ⟨hn0, hb0⟩ := not_or.1 hb
          simp only [Option.map_eq_some_iff, Kc.e.injEq] at hc
          obtain ⟨z, hz, rfl⟩ := hc
          obtain ⟨zv, q0, q1, q2, q3⟩ := common hn hi hn0 z hz
          simp only [EK.run] at hv
          split at hv
          case h_2 => cases hv
          rename_i kx l hxe
          rw [hxe] at rX; simp only [VR] at rX; subst rX
          split at hv
          case isFalse => cases hv
          rename_i hl
          obtain ⟨l0, l1, l2⟩ := hl
          have A : App P w e n i.bytes zv c.argTypes o.type (.int kx l) (Builtin.zeroCells zv.cells l.toNat).toList l.toNat := by
            have := fun base sLen sCap => run_append_z (P := P) (w := w) (ty := o.type) (k := kx) hty hu hue ⟨k1, huu⟩ hn hn0 hi q2 l0 l2 l1 rfl base sLen sCap
            exact ⟨fun base sLen sCap => (this base sLen sCap).1, fun base sLen sCap olds g1 g2 g3 g4 => by simpa using (this base sLen sCap).2 olds g1 g2 g3 g4⟩
          exact turns_append A H q0 (by omega) (zeroCells_VRs q1 _) (by simp [Builtin.zeroCells, q0]) hv rS
        · -- a slice
          rename_i e e' hue huu
          simp only [Option.bind_eq_some_iff] at hc
          obtain ⟨n, hn, i, hi, hc⟩ := hc
          split at hc
          case isTrue => cases hc
          rename_i hb
          obtain ⟨hn0, hb0⟩ := not_or.1 hb
          simp only [Option.map_eq_some_iff, Kc.e.injEq] at hc
          obtain ⟨z, hz, rfl⟩ := hc
          obtain ⟨zv, q0, q1, q2, q3⟩ := common hn hi hn0 z hz
          simp only [EK.run, Option.bind_eq_some_iff] at hv
          obtain ⟨⟨vs, m⟩, hadd, hap⟩ := hv
          unfold addedV at hadd
          split at hadd
          · rename_i hxe
            rw [hxe] at rX; simp only [VR] at rX; subst rX
            simp only [Option.some.injEq, Prod.mk.injEq] at hadd; obtain ⟨rfl, rfl⟩ := hadd
            exact turns_append (app_of_x (xs := []) hty hu hue (.inr ⟨e', huu⟩) hn hi q2 rfl (fun w' _ => by simp [Builtin.firstCells])) H q0 (by omega) (by simp [VRs]) (by simp) hap rS
          · rename_i id off m' e2 cp hxe
            rw [hxe] at rX; simp only [VR] at rX
            obtain ⟨A, k, rfl, hsr⟩ := rX
            split at hadd
            case isFalse => cases hadd
            rename_i he; subst he
            simp only [Option.map_eq_some_iff, Prod.mk.injEq] at hadd
            obtain ⟨l, hl, rfl, rfl⟩ := hadd
            obtain ⟨cs, r1, r2, r3⟩ := H.slice (P := P) hsr hsr.1 hl
            exact turns_append (app_of_x hty hu hue (.inr ⟨e', huu⟩) hn hi q2 rfl (fun w' hw' => by simp only [Builtin.firstCells]; exact r3 w' hw')) H q0 (by omega) r1 r2 hap rS
          · rename_i bs hxe
            rw [hxe] at rX; simp only [VR] at rX; subst rX
            split at hadd
            case isFalse => cases hadd
            rename_i he; subst he
            simp only [Option.some.injEq, Prod.mk.injEq] at hadd; obtain ⟨rfl, rfl⟩ := hadd
            refine turns_append (app_of_x (n := bs.length) (xs := bs.map fun b => Value.int .u8 b.toNat) hty hu hue (.inr ⟨e', huu⟩) hn hi q2 rfl (fun w' _ => ?_)) H q0 (by omega) (byteVs_VRs ρ bs) (by rw [List.length_map, Nat.mul_one]) hap rS
            have := run_firstCells_str (P := P) 1 bs.length bs w'
            rw [List.take_length] at this
            exact this
          · cases hadd
        · -- a string
          rename_i e hue huu
          simp only [Option.bind_eq_some_iff] at hc
          obtain ⟨n, hn, i, hi, hc⟩ := hc
          split at hc
          case isTrue => cases hc
          rename_i hb
          obtain ⟨hn0, hb0⟩ := not_or.1 hb
          simp only [Option.map_eq_some_iff, Kc.e.injEq] at hc
          obtain ⟨z, hz, rfl⟩ := hc
          obtain ⟨zv, q0, q1, q2, q3⟩ := common hn hi hn0 z hz
          simp only [EK.run, Option.bind_eq_some_iff] at hv
          obtain ⟨⟨vs, m⟩, hadd, hap⟩ := hv
          unfold addedV at hadd
          split at hadd
          · rename_i hxe
            rw [hxe] at rX; simp only [VR] at rX; subst rX
            simp only [Option.some.injEq, Prod.mk.injEq] at hadd; obtain ⟨rfl, rfl⟩ := hadd
            exact turns_append (app_of_x (xs := []) hty hu hue (.inl huu) hn hi q2 rfl (fun w' _ => by simp [Builtin.firstCells])) H q0 (by omega) (by simp [VRs]) (by simp) hap rS
          · rename_i id off m' e2 cp hxe
            rw [hxe] at rX; simp only [VR] at rX
            obtain ⟨A, k, rfl, hsr⟩ := rX
            split at hadd
            case isFalse => cases hadd
            rename_i he; subst he
            simp only [Option.map_eq_some_iff, Prod.mk.injEq] at hadd
            obtain ⟨l, hl, rfl, rfl⟩ := hadd
            obtain ⟨cs, r1, r2, r3⟩ := H.slice (P := P) hsr hsr.1 hl
            exact turns_append (app_of_x hty hu hue (.inl huu) hn hi q2 rfl (fun w' hw' => by simp only [Builtin.firstCells]; exact r3 w' hw')) H q0 (by omega) r1 r2 hap rS
          · rename_i bs hxe
            rw [hxe] at rX; simp only [VR] at rX; subst rX
            split at hadd
            case isFalse => cases hadd
            rename_i he; subst he
            simp only [Option.some.injEq, Prod.mk.injEq] at hadd; obtain ⟨rfl, rfl⟩ := hadd
            refine turns_append (app_of_x (n := bs.length) (xs := bs.map fun b => Value.int .u8 b.toNat) hty hu hue (.inl huu) hn hi q2 rfl (fun w' _ => ?_)) H q0 (by omega) (byteVs_VRs ρ bs) (by rw [List.length_map, Nat.mul_one]) hap rS
            have := run_firstCells_str (P := P) 1 bs.length bs w'
            rw [List.take_length] at this
            exact this
          · cases hadd
        · cases hc
      · -- copy
        rename_i d s
        obtain ⟨D, S, hcs, rD, rS⟩ := args2 rargs
        simp only [Option.bind_eq_some_iff] at hc
        obtain ⟨ty, hty, hc⟩ := hc
        split at hc <;> simp only [Option.bind_eq_some_iff, reduceCtorEq] at hc
        rename_i e hue
        obtain ⟨n, hn, hc⟩ := hc
        split at hc <;> simp only [reduceCtorEq, Option.some.injEq, Kc.e.injEq] at hc
        subst hc
        rw [hex, hcs]
        exact turns_copy H hty hue hn hv rD rS
      · -- clear
        rename_i x
        obtain ⟨X, hcs, rX⟩ := args1 rargs
        simp only [Option.bind_eq_some_iff] at hc
        obtain ⟨ty, hty, hc⟩ := hc
        split at hc <;> simp only [Option.bind_eq_some_iff, reduceCtorEq] at hc
        rename_i e hue
        obtain ⟨n, hn, hc⟩ := hc
        split at hc
        case isTrue => cases hc
        simp only [Option.map_eq_some_iff, Kc.e.injEq] at hc
        obtain ⟨z, hz, rfl⟩ := hc
        simp only [EK.run, Option.map_eq_some_iff, Prod.mk.injEq] at hv
        obtain ⟨h2, hs, rfl, rfl⟩ := hv
        rw [hex, hcs]
        exact turns_clear H hty hue hz hn hs rX
      · simp only [reduceCtorEq, Option.some.injEq] at hc
      · simp only [reduceCtorEq, Option.some.injEq] at hc
      · cases hc
    · cases hc

end

end Gw
