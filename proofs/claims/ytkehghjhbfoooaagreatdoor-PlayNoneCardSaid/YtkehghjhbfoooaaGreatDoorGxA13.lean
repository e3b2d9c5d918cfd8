/- Operations that turn memory: stores, append, copy, clear, next, map entries. -/
import Derived.Test.YtkehghjhbfoooaaGreatDoorGxA12
noncomputable section
namespace Gw
open Go Go.RowKit

theorem VR.one {ρ : Rho} {v : V} {x : Value} (h : VR ρ v x) (ho : v.one = true) : x.oneCell' = true := by
  cases v <;> simp only [VR] at h <;> try (subst h; rfl)
  · obtain ⟨L, _, rfl⟩ := h; rfl
  · obtain ⟨a, k, rfl, _⟩ := h; rfl
  · obtain ⟨L, _, rfl⟩ := h; rfl
  · obtain ⟨a, rfl, _⟩ := h; rfl
  · obtain ⟨y, rfl, _⟩ := h; rfl
  · simp [V.one] at ho
  · simp [V.one] at ho

theorem VRs.one {ρ : Rho} : ∀ {l : List V} {xs : List Value}, VRs ρ l xs → allOne l = true → ∀ v ∈ xs, v.oneCell' = true
  | [], xs, h, _ => by rw [VRs.nil_iff] at h; subst h; simp
  | u :: l, xs, h, ho => by
    obtain ⟨y, ys, rfl, h1, h2⟩ := h
    simp only [allOne, Bool.and_eq_true] at ho
    intro v hv
    rcases List.mem_cons.1 hv with rfl | hv
    · exact h1.one ho.1
    · exact VRs.one h2 ho.2 v hv

theorem set_self {heap : Array Obj} {b : Nat} {o : Obj} (h : heap[b]? = some o) : heap.setIfInBounds b o = heap := by
  apply Array.ext_getElem?
  intro i
  rw [Array.getElem?_setIfInBounds]
  split
  · rename_i hb; subst hb
    split
    · exact h.symm
    · rename_i hlt; rw [Array.getElem?_eq_none (by omega)]
  · rfl
theorem modify_set {heap : Array Obj} {b : Nat} {o : Obj} {f : Obj → Obj} (h : heap[b]? = some o) : heap.modify b f = heap.setIfInBounds b (f o) := by
  apply Array.ext_getElem?
  intro i
  rw [Array.getElem?_setIfInBounds, Array.getElem?_modify]
  by_cases hb : b = i
  · subst hb
    obtain ⟨hlt, he⟩ := Array.getElem?_eq_some_iff.1 h
    simp [hlt, he]
  · simp [hb]

theorem frozen_no {w : World} {b k : Nat} {c : Array Value} {e : TypeId} {fz : Nat × Nat} (h : w.heap[b]? = some (.cells c e fz)) (hf : FZ fz c.size) (hk : k < c.size) : w.frozen? ⟨b, k, none⟩ = false := by
  simp only [World.frozen?, h]
  rcases hf with rfl | rfl
  · simp
  · simp; omega

section
variable {P : Program} {ρ : Rho} {B : Nat → Prop}

theorem run_storeCells_row (b o : Nat) (e : TypeId) (fz : Nat × Nat) : ∀ (vs : List Value) (i : Nat) (c : Array Value) (w : World), w.heap[b]? = some (.cells c e fz) → o + i + vs.length ≤ c.size → FZ fz c.size → (∀ v ∈ vs, v.oneCell' = true) →
    ∃ c', (storeCells ⟨b, o, none⟩ vs i).run P w = .ok () { w with heap := w.heap.setIfInBounds b (.cells c' e fz) } ∧ c'.size = c.size ∧ ∀ k, c'[k]? = if o + i ≤ k ∧ k < o + i + vs.length then vs[k - (o + i)]? else c[k]?
  | [], i, c, w, h, _, _, _ => ⟨c, by rw [set_self h]; rfl, rfl, fun k => by rw [if_neg (by simp)]⟩
  | v :: vs, i, c, w, h, hs, hf, ho => by
    simp only [List.length_cons] at hs
    have hst : (store ((⟨b, o, none⟩ : Addr).add i) v).run P w = .ok () { w with heap := w.heap.setIfInBounds b (.cells (c.setIfInBounds (o + i) v) e fz) } := by
      rw [loc_add, run_store P w _ v _ (ho v (by simp))]
      have hc : w.cell? ⟨b, o + i, none⟩ = some c[o + i] := by rw [cell_of h]; simp
      rw [hc, frozen_no h hf (by omega)]
      simp only [Bool.false_eq_true, if_false, World.setCell]
      rw [modify_set h]
      simp
    obtain ⟨c', h1, h2, h3⟩ := run_storeCells_row b o e fz vs (i + 1) (c.setIfInBounds (o + i) v) { w with heap := w.heap.setIfInBounds b (.cells (c.setIfInBounds (o + i) v) e fz) }
      (by
        obtain ⟨hlt, _⟩ := Array.getElem?_eq_some_iff.1 h
        simp [hlt]) (by simp; omega) (by simpa using hf) (fun x hx => ho x (by simp [hx]))
    refine ⟨c', ?_, by simpa using h2, fun k => ?_⟩
    · simp only [storeCells, Sem.run_bind, hst, Result.andThen_ok, h1]
      congr 2
      simp
    · rw [h3 k]
      by_cases hk : o + (i + 1) ≤ k ∧ k < o + (i + 1) + vs.length
      · rw [if_pos hk, if_pos (by simp; omega)]
        have : k - (o + i) = (k - (o + (i + 1))) + 1 := by omega
        rw [this, List.getElem?_cons_succ]
      · rw [if_neg hk]
        by_cases hk2 : k = o + i
        · subst hk2
          rw [if_pos (by simp), Array.getElem?_setIfInBounds_self_of_lt (by omega)]
          simp
        · rw [if_neg (by simp; omega), Array.getElem?_setIfInBounds_ne (by omega)]

/-- Cells are written. -/
theorem HR.wrote {h h' : Heap} {w : World} (H : HR B ρ h w) {id off : Nat} {vs : List V} {xs : List Value} {L : Loc} (hw : wrN h id off vs = some h') (hv : VRs ρ vs xs) (hL : ρ id = some L) :
    ∃ w', (storeCells ⟨L.b, L.o + off, none⟩ xs).run P w = .ok () w' ∧ HR B ρ h' w' ∧ Keeps B w w' := by
  unfold wrN at hw
  split at hw
  case isFalse => cases hw
  rename_i ho
  simp only [Option.bind_eq_some_iff, Option.map_eq_some_iff] at hw
  obtain ⟨l, hl, l', hl', rfl⟩ := hw
  have hg := rowW_get hl
  obtain ⟨L', hL', c, e, fz, h1, h2, h3, h4, h5⟩ := H.blk id _ hg
  rw [hL] at hL'; simp only [Option.some.injEq] at hL'; subst hL'
  obtain ⟨hB, hfz⟩ := h5 rfl
  obtain ⟨p1, p2, p3⟩ := putAt_some l off vs l' hl'
  have hlen := VRs.length hv
  obtain ⟨c', g1, g2, g3⟩ := run_storeCells_row (P := P) L.b (L.o + off) e fz xs 0 c w h1 (by omega) (by rw [h2]; exact hfz) (VRs.one hv ho)
  refine ⟨_, g1, ?_⟩
  refine H.write hg rfl rfl (b1 := .cells false l') rfl hL hB ⟨c', e, fz, ?_, by rw [g2, h2], by omega, fun k v hk => ?_, fun _ => ⟨hB, hfz⟩⟩
  · obtain ⟨hlt, _⟩ := Array.getElem?_eq_some_iff.1 h1
    simp [hlt]
  · rw [p3 k] at hk
    rw [g3 (L.o + k)]
    by_cases hin : off ≤ k ∧ k < off + vs.length
    · rw [if_pos hin] at hk
      rw [if_pos (by omega)]
      obtain ⟨y, hy, hr⟩ := hv.get hk
      exact ⟨y, by rw [← hy]; congr 1; omega, hr⟩
    · rw [if_neg hin] at hk
      rw [if_neg (by omega)]
      exact h4 k v hk

/-- What an operation that turns memory comes to. -/
def Turns (P : Program) (B : Nat → Prop) (ρ : Rho) (h' : Heap) (w : World) (v : V) (s : Sem Next) : Prop :=
  ∃ nx w' ρ', s.run P w = .ok nx w' ∧ ((nx = .skip ∧ v = undefV) ∨ ∃ x, nx = .value x ∧ VR ρ' v x) ∧ Le ρ ρ' ∧ HR B ρ' h' w' ∧ Keeps B w w'

theorem Turns.of {h' : Heap} {w w' : World} {v : V} {s : Sem Value} {ρ' : Rho} {x : Value} (hr : s.run P w = .ok x w') (hv : VR ρ' v x) (hl : Le ρ ρ') (H : HR B ρ' h' w') (hb : Keeps B w w') : Turns P B ρ h' w v (do pure (.value (← s))) :=
  ⟨.value x, w', ρ', by simp [hr], .inr ⟨x, rfl, hv⟩, hl, H, hb⟩
theorem Turns.skip {h' : Heap} {w w' : World} {s : Sem Unit} (hr : s.run P w = .ok () w') (H : HR B ρ h' w') (hb : Keeps B w w') : Turns P B ρ h' w undefV (do s; pure .skip) :=
  ⟨.skip, w', ρ, by simp [hr], .inl ⟨rfl, rfl⟩, Le.refl _, H, hb⟩

theorem nt_of_wr {h h' : Heap} {id off : Nat} {x : V} (hw : wrN h id off x.cells = some h') : x.nt = true := by
  cases x <;> first | rfl | simp [wrN, V.cells, allOne, V.one] at hw

theorem turns_store {t : TypeId} {n : Nat} {a x : V} {A X : Value} {h h' : Heap} {w : World} (H : HR B ρ h w) (hn : szOf P t = some n) (hs : storeV n a x h = some h') (ha : VR ρ a A) (hx : VR ρ x X) :
    Turns P B ρ h' w undefV (do Instr.storeAt t A X; pure .skip) := by
  unfold storeV at hs
  split at hs
  case h_2 => cases hs
  rename_i id off
  split at hs
  case isFalse => cases hs
  rename_i hlen
  simp only [VR] at ha
  obtain ⟨L, hL, rfl⟩ := ha
  obtain ⟨w', g1, g2, g3⟩ := H.wrote (P := P) hs (VR.cells hx (nt_of_wr hs)) hL
  refine Turns.skip ?_ g2 g3
  have hl := VRs.length (VR.cells hx (nt_of_wr hs))
  simp only [Array.length_toList] at hl
  have hne : ¬ (X.cells.size ≠ n) := by omega
  simp only [Instr.storeAt, Instr.sureAddr, storeVar, Sem.run_bind, Sem.run_pure, Result.andThen_ok, run_szOf hn]
  rw [if_neg hne]
  simp [g1]

theorem turns_next {x v : V} {X : Value} {h h' : Heap} {w : World} {ty : TypeId} (H : HR B ρ h w) (hs : nextV h x = some (v, h')) (hx : VR ρ x X) : Turns P B ρ h' w v (do pure (.value (← Instr.next X true ty))) := by
  unfold nextV at hs
  split at hs
  case h_2 => cases hs
  rename_i id
  split at hs
  case h_2 => cases hs
  rename_i s pos hg
  simp only [VR] at hx
  obtain ⟨L, hL, rfl⟩ := hx
  obtain ⟨L', hL', h1, h2, hB⟩ := H.blk id _ hg
  rw [hL] at hL'; simp only [Option.some.injEq] at hL'; subst hL'
  have hsz : (⟨⟨s⟩⟩ : ByteArray).size = s.length := rfl
  split at hs
  · rename_i hlt
    simp only [Option.some.injEq, Prod.mk.injEq] at hs
    obtain ⟨rfl, rfl⟩ := hs
    have hb1 : BR B ρ L { w with heap := w.heap.setIfInBounds L.b (.stringIter ⟨⟨s⟩⟩ (pos + (decodeL s pos).2)) } (.iter s (pos + (decodeL s pos).2)) := by
      obtain ⟨hl, _⟩ := Array.getElem?_eq_some_iff.1 h1
      exact ⟨by simp [hl], h2, hB⟩
    obtain ⟨g2, g3⟩ := H.write hg rfl rfl rfl hL hB hb1
    refine Turns.of ?_ ?_ (Le.refl _) g2 g3 (x := .tuple #[.bool true, goInt pos, .int .i32 (Utf8.decode ⟨⟨s⟩⟩ pos).1])
    · simp only [Instr.next, h2]
      have hlt' : pos < (⟨⟨s⟩⟩ : ByteArray).size := hlt
      simp [getObj, setObj, Sem.run, h1, hlt', decodeL]
    · simp only [VR]; exact .inr ⟨_, rfl, VRs.cons (by simp only [VR]) (VRs.cons (by simp only [VR]; rfl) (VRs.cons (by simp only [VR]; rfl) (by simp [VRs])))⟩
  · rename_i hlt
    simp only [Option.some.injEq, Prod.mk.injEq] at hs
    obtain ⟨rfl, rfl⟩ := hs
    refine Turns.of ?_ ?_ (Le.refl _) H (Keeps.refl _ _) (x := .tuple #[.bool false])
    · simp only [Instr.next, h2]
      have hlt' : ¬ pos < (⟨⟨s⟩⟩ : ByteArray).size := hlt
      simp [getObj, Sem.run, h1, hlt']
    · simp only [VR]; exact .inr ⟨_, rfl, VRs.cons (by simp only [VR]) (by simp [VRs])⟩

theorem turns_insert {t kt et : TypeId} {ik : IntKind} {m k x : V} {M K X : Value} {h h' : Heap} {w : World} (H : HR B ρ h w) (hu : P.underlying t = some (.map kt et)) (huk : P.underlying kt = some (.int ik))
    (hs : insertV h m k x = some h') (hm : VR ρ m M) (hk : VR ρ k K) (hx : VR ρ x X) : Turns P B ρ h' w undefV (do Instr.mapUpdate t M K X; pure .skip) := by
  unfold insertV at hs
  split at hs
  case h_2 => cases hs
  rename_i id kd n
  simp only [VR] at hm hk
  obtain ⟨L, hL, rfl⟩ := hm
  subst hk
  simp only [Option.bind_eq_some_iff] at hs
  obtain ⟨es, hes, hs⟩ := hs
  have hgm : h.get id = some (.mp es) := by
    unfold mapOf at hes
    split at hes
    · rename_i es' hg'; simp only [Option.some.injEq] at hes; subst hes; exact hg'
    · cases hes
  split at hs
  case h_2 => cases hs
  rename_i hfe
  simp only [Option.some.injEq] at hs; subst hs
  obtain ⟨L', hL', en, ck, h1, her, hB⟩ := H.blk id _ hgm
  rw [hL] at hL'; simp only [Option.some.injEq] at hL'; subst hL'
  have hfn := (findE_ok (kt := ik) 0 hfe her).1 rfl
  have herx : ER ρ (es ++ [(.int kd n, x)]) (en.push { key := .int kd n, val := X, born := ck }).toList := by
    have : ∀ (es : List (V × V)) (en : List MapEntry), ER ρ es en → ER ρ (es ++ [(.int kd n, x)]) (en ++ [{ key := .int kd n, val := X, born := ck }]) := by
      intro es
      induction es with
      | nil => intro en he; simp only [ER] at he; subst he; exact ⟨_, [], rfl, by simp only [VR], hx, rfl⟩
      | cons p es ih => intro en he; obtain ⟨e, ys, rfl, a1, a2, a3⟩ := he; exact ⟨e, ys ++ _, rfl, a1, a2, ih ys a3⟩
    rw [Array.toList_push]
    exact this es en.toList her
  have hb1 : BR B ρ L { w with heap := w.heap.setIfInBounds L.b (.map (en.push { key := .int kd n, val := X, born := ck }) (ck + 1)) } (.mp (es ++ [(.int kd n, x)])) := by
    obtain ⟨hl, _⟩ := Array.getElem?_eq_some_iff.1 h1
    exact ⟨en.push { key := .int kd n, val := X, born := ck }, ck + 1, by simp [hl], herx, hB⟩
  obtain ⟨g2, g3⟩ := H.write hgm rfl rfl rfl hL hB hb1
  refine Turns.skip ?_ g2 g3
  simp [Instr.mapUpdate, run_underlying hu, getObj, setObj, Sem.run, h1, checkKey_int huk, Instr.findKey, run_underlying huk, hfn]

theorem turns_froz {x v : V} {X : Value} {h h' : Heap} {w : World} {s d e : TypeId} (H : HR B ρ h w) (hus : P.underlying s = some (.slice e)) (hd : s = d) (hue : P.underlying e = some (.int .u8)) (hs : frozV h x = some (v, h')) (hx : VR ρ x X) :
    Turns P B ρ h' w v (do pure (.value (← convert s d X))) := by
  subst hd
  unfold frozV at hs
  split at hs
  case h_2 => cases hs
  rename_i id off n e' cp
  split at hs
  case isFalse => cases hs
  rename_i hc
  simp only [Option.map_eq_some_iff, Prod.mk.injEq] at hs
  obtain ⟨l, hl, rfl, rfl⟩ := hs
  have hg := rowW_get hl
  have hx' := hx
  simp only [VR] at hx
  obtain ⟨A, k, rfl, hsr⟩ := hx
  obtain ⟨L, hL, rfl, hroom⟩ := hsr.at (by have := hsr.1; omega)
  obtain ⟨L', hL', c, ee, fz, h1, h2, h3, h4, h5⟩ := H.blk id _ hg
  rw [hL] at hL'; simp only [Option.some.injEq] at hL'; subst hL'
  obtain ⟨hB, hfz⟩ := h5 rfl
  have hob : ∃ fz', FZ fz' L.z ∧ w.freeze ⟨L.b, c.size, none⟩ 1 = { w with heap := w.heap.setIfInBounds L.b (.cells c ee fz') } := by
    refine ⟨if fz.1 == fz.2 then (c.size, c.size + 1) else (min fz.1 c.size, max fz.2 (c.size + 1)), ?_, ?_⟩
    · rcases hfz with rfl | rfl
      · simp [FZ, h2]
      · simp [FZ, h2]
    · simp only [World.freeze]
      rw [modify_set h1]
      rfl
  obtain ⟨fz', hfz', hfr⟩ := hob
  have hb1 : BR B ρ L { w with heap := w.heap.setIfInBounds L.b (.cells c ee fz') } (.cells false l) := by
    obtain ⟨hlt, _⟩ := Array.getElem?_eq_some_iff.1 h1
    exact ⟨c, ee, fz', by simp [hlt], h2, h3, h4, fun _ => ⟨hB, hfz'⟩⟩
  obtain ⟨g2, g3⟩ := H.write hg rfl rfl rfl hL hB hb1
  have hput : h.put id (some (.cells false l)) = h.put id (some (.cells false l)) := rfl
  have g2' : HR B ρ h { w with heap := w.heap.setIfInBounds L.b (.cells c ee fz') } := by
    refine g2.ext (fun i => ?_) rfl
    rw [Heap.get_put]
    by_cases hi : i = id
    · subst hi; rw [hg]; simp
    · rw [if_neg hi]
  refine Turns.of ?_ hx' (Le.refl _) g2' g3
  have hsh : w.shape? L.b = some (ee, c.size) := by simp [World.shape?, h1]
  simp [convert, run_underlying hus, run_underlying hue, markStringish, hsh, hfr]

theorem turns_clear {e : TypeId} {n : Nat} {z : List V} {ats : Array TypeId} {ty t : TypeId} {x : V} {X : Value} {h h' : Heap} {w : World} (H : HR B ρ h w) (h0 : ats[0]? = some t) (hu : P.underlying t = some (.slice e)) (hz : zeroCs P e = some z) (hn : szOf P e = some n)
    (hs : clearV h n z x = some h') (hx : VR ρ x X) : Turns P B ρ h' w undefV (do pure (.value (← Builtin.clear_ ats ty #[X]))) := by
  obtain ⟨zv, hzv, hzl, hrz⟩ := run_zeroCs (ρ := ρ) hz
  have hund : VR ρ undefV (.tuple #[]) := VR.undef ρ
  unfold clearV at hs
  split at hs
  · simp only [Option.some.injEq] at hs; subst hs
    simp only [VR] at hx; subst hx
    refine Turns.of ?_ hund (Le.refl _) H (Keeps.refl _ _)
    simp only [Builtin.clear_, h0]
    simp [run_underlying hu]
  · rename_i id off m e' cp
    split at hs
    case isFalse => cases hs
    rename_i he; subst he
    simp only [VR] at hx
    obtain ⟨A, k, rfl, hsr⟩ := hx
    split at hs
    · rename_i hm; subst hm
      simp only [Option.some.injEq] at hs; subst hs
      refine Turns.of ?_ hund (Le.refl _) H (Keeps.refl _ _)
      simp only [Builtin.clear_, h0]
      simp [run_underlying hu]
    · rename_i hm
      obtain ⟨L, hL, rfl, _⟩ := hsr.at (by have := hsr.1; omega)
      obtain ⟨w', g1, g2, g3⟩ := H.wrote (P := P) hs (zeroCells_VRs hzv m) hL
      refine Turns.of ?_ hund (Le.refl _) g2 g3
      obtain ⟨m', rfl⟩ : ∃ m', m = m' + 1 := ⟨m - 1, by omega⟩
      simp only [Builtin.clear_, h0]
      simp [run_underlying hu, hrz, g1]
  · cases hs

end

end Gw
