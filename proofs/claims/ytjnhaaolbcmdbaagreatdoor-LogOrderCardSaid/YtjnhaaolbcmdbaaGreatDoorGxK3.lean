/- Boxes: the contracts. -/
import Derived.Test.YtjnhaaolbcmdbaaGreatDoorGxK2
namespace Go.Proofs.YtjnhaaolbcmdbaaGreatDoor
open Go Gw Go.RowKit
set_option linter.unusedSimpArgs false
set_option linter.unusedVariables false

theorem asks_len : ∀ l : List Gw.Ask, (l.flatMap Gw.Ask.vs).length = l.length * 4
  | [] => rfl
  | a :: l => by simp [Gw.Ask.vs, asks_len l]; omega
theorem asks_flat : ∀ l : List Gw.Ask, V.flats (l.flatMap Gw.Ask.vs) = true
  | [] => rfl
  | a :: l => by simp [Gw.Ask.vs, V.flats, V.flat, asks_flat l]
theorem runMono {P : Program} {f : Nat} {args : List V} {h : Heap} {Q Q' : V → Heap → Prop} (hr : Run P f args h Q) (hq : ∀ r h', Q r h' → Q' r h') : Run P f args h Q' :=
  ⟨hr.1, fun B ρ xs w hg hv H => (hr.2 B ρ xs w hg hv H).mono fun _ _ ⟨x, r, h', ρ', e1, q1, l1, v1, H1, k1⟩ => ⟨x, r, h', ρ', e1, hq _ _ q1, l1, v1, H1, k1⟩⟩
theorem closeBox {h : Heap} {j off : Nat} {c : Option Nat} {l : List Gw.Ask} {m : Nat} {row : List V} (hm : m = l.length) (hrow : rowP h j = some row) (hsub : (row.drop off).take (l.length * 4) = l.flatMap Gw.Ask.vs) : closeOk h [.slice j off m 4 c] (Ob.box ⟨some l⟩).enc [j] := by
  subst hm
  exact ⟨j, off, c, [], rfl, rfl, .inl ⟨row, _, hrow, rfl, hsub, asks_len l, asks_flat l⟩, rfl⟩
theorem closeBox0 {h : Heap} {j : Nat} {c : Option Nat} {l : List Gw.Ask} {m : Nat} {row : List V} (hm : m = l.length) (hrow : rowP h j = some row) (he : row = l.flatMap Gw.Ask.vs) : closeOk h [.slice j 0 m 4 c] (Ob.box ⟨some l⟩).enc [j] := by
  subst he
  refine closeBox hm hrow ?_
  rw [List.drop_zero]
  exact List.take_of_length_le (by rw [asks_len]; exact Nat.le_refl _)
theorem closeBoxN {h : Heap} : closeOk h [.nils] (Ob.box ⟨none⟩).enc [] := ⟨rfl, rfl, rfl⟩
theorem rowP_c {h : Heap} {j : Nat} {l : List V} (hg : h.get j = some (.cells false l)) : rowP h j = some l := by simp only [rowP, hg]
theorem opBN : Opens (smallH [.o 0 (.box ⟨none⟩)]) hBN := .one 3 _ (by rw [smallH_get]; rfl) .refl
theorem opBC (l : List Gw.Ask) : Opens (smallH [.o 0 (.box ⟨some l⟩)]) (hBC l) := .one 3 (.box ⟨some l⟩) (by rw [smallH_get]; rfl) (.row 4 (.asks l) _ (by kernel_rfl) rfl .refl)

theorem mayAsk_eta (a : Gw.Ask) : mayAsk ⟨a.kind, a.n, a.id, a.body⟩ = mayAsk a := rfl
def boxPut (x : Gw.Box) (a : Gw.Ask) : Int × Gw.Box :=
  if mayAsk a = true then (if 8 ≤ (x.l.getD []).length then (3, x) else (0, ⟨some (x.l.getD [] ++ [a])⟩)) else (1, x)
def boxFirst (x : Gw.Box) : Gw.Ask × Bool := match x.l with
  | some (a :: _) => (a, true)
  | _ => ({}, false)
def boxTake (x : Gw.Box) : Gw.Box := match x.l with
  | some (_ :: l) => ⟨some l⟩
  | _ => x
def pPut : List V → Ob → Option (V × Ob)
  | [.agg [.int .i64 k, .int .i64 n, .int .u32 i, .str b]], .box x => some (.int .i64 (boxPut x ⟨k, n, i, b⟩).1, .box (boxPut x ⟨k, n, i, b⟩).2)
  | _, _ => none
def pFirst : List V → Ob → Option (V × Ob)
  | [], .box x => some (.tup [.agg (boxFirst x).1.vs, .bool (boxFirst x).2], .box x)
  | _, _ => none
def pTake : List V → Ob → Option (V × Ob)
  | [], .box x => some (.tup [.agg (boxFirst x).1.vs, .bool (boxFirst x).2], .box (boxTake x))
  | _, _ => none
def pLen : List V → Ob → Option (V × Ob)
  | [], .box x => some (.int .i64 (x.l.getD []).length, .box x)
  | _, _ => none
def pNewB : List V → Option (Option Ob)
  | [] => some (some (.box ⟨none⟩))
  | _ => none

theorem ansPut : AnsO Tryz.prog 32 (gO pPut) := by
  refine ansO fun ys x q hq => ?_
  unfold pPut at hq
  split at hq
  · rename_i k n i b x
    simp only [Option.some.injEq] at hq
    subst hq
    obtain ⟨l⟩ := x
    generalize ha : (⟨k, n, i, b⟩ : Gw.Ask) = a
    have hav : [V.int .i64 k, .int .i64 n, .int .u32 i, .str b] = a.vs := by subst ha; rfl
    rw [hav]
    cases l with
    | none =>
      refine ⟨rfl, rfl, hBN, opBN, runMono (run_plain mixed tab1 tabD (dIs (by kernel_rfl)) (by kernel_rfl) (treePutN_eq a)
        (Q := fun p => p = if mayAsk a = true then (.int .i64 0, [some (.cells false [.slice 17 0 1 4 none]), some (.cells false a.vs)]) else (.int .i64 1, [some (.cells false [.nils]), none])) ?_) fun r h' hq => ?_⟩
      · by_cases hm : mayAsk a = true <;> simp [treePutN, DT.sat, Gw.Ask.vs, allOne, V.one, mayAsk_eta, hm]
      · by_cases hm : mayAsk a = true
        · simp [hm] at hq
          obtain ⟨rfl, h3, h17⟩ := hq
          simp only [boxPut, hm, if_true, Option.getD_none, List.length_nil, List.nil_append]
          exact ends_o h3 (closeBox0 (l := [a]) rfl (rowP_c h17) (by simp)) (by simp) (by decide)
        · simp [hm] at hq
          obtain ⟨rfl, h3, _⟩ := hq
          simp only [boxPut, hm, if_false]
          exact ends_o h3 closeBoxN .nil (by simp)
    | some l =>
      refine ⟨rfl, rfl, hBC l, opBC l, runMono (run_plain mixed tab1 tabD (dIs (by kernel_rfl)) (by kernel_rfl) (treePutS_eq l a)
        (Q := fun p => p = if mayAsk a = true then (if 8 ≤ l.length then (.int .i64 3, [some (.cells false [.slice 4 0 l.length 4 none]), some (.cells false (l.flatMap Gw.Ask.vs)), none]) else (.int .i64 0, [some (.cells false [.slice 18 0 (l.length + 1) 4 none]), some .dead, some (.cells false (l.flatMap Gw.Ask.vs ++ a.vs))]))
          else (.int .i64 1, [some (.cells false [.slice 4 0 l.length 4 none]), some (.cells false (l.flatMap Gw.Ask.vs)), none])) ?_) fun r h' hq => ?_⟩
      · by_cases hm : mayAsk a = true <;> by_cases h8 : 8 ≤ l.length <;> simp [treePutS, DT.sat, Gw.Ask.vs, asks_len, -List.length_flatMap, allOne, V.one, mayAsk_eta, hm, h8] <;> omega
      · by_cases hm : mayAsk a = true
        · by_cases h8 : 8 ≤ l.length
          · simp [hm, h8] at hq
            obtain ⟨rfl, h3, h4, _⟩ := hq
            simp only [boxPut, hm, if_true, Option.getD_some, h8]
            exact ends_o h3 (closeBox0 rfl (rowP_c h4) rfl) (by simp) (by decide)
          · simp [hm, h8] at hq
            obtain ⟨rfl, h3, h4, h18⟩ := hq
            simp only [boxPut, hm, if_true, Option.getD_some, h8, if_false]
            exact ends_o h3 (closeBox0 (l := l ++ [a]) (by simp) (rowP_c h18) (by simp)) (by simp) (by decide)
        · simp [hm] at hq
          obtain ⟨rfl, h3, h4, _⟩ := hq
          simp only [boxPut, hm, if_false]
          exact ends_o h3 (closeBox0 rfl (rowP_c h4) rfl) (by simp) (by decide)
  · cases hq

theorem ansLen : AnsO Tryz.prog 35 (gO pLen) := by
  refine ansO fun ys x q hq => ?_
  unfold pLen at hq
  split at hq
  · rename_i x
    simp only [Option.some.injEq] at hq
    subst hq
    obtain ⟨l⟩ := x
    cases l with
    | none =>
      refine ⟨rfl, rfl, hBN, opBN, runMono (run_plain mixed tab1 tabD (dIs (by kernel_rfl)) (by kernel_rfl) treeLenN_eq (Q := fun p => p = (.int .i64 0, [some (.cells false [.nils])])) ?_) fun r h' hq => ?_⟩
      · simp [treeLenN, DT.sat]
      · simp at hq
        obtain ⟨rfl, h3⟩ := hq
        exact ends_o h3 closeBoxN .nil (by simp)
    | some l =>
      refine ⟨rfl, rfl, hBC l, opBC l, runMono (run_plain mixed tab1 tabD (dIs (by kernel_rfl)) (by kernel_rfl) (treeLenS_eq l) (Q := fun p => p = (.int .i64 l.length, [some (.cells false [.slice 4 0 l.length 4 none]), some (.cells false (l.flatMap Gw.Ask.vs))])) ?_) fun r h' hq => ?_⟩
      · simp [treeLenS, DT.sat]
      · simp at hq
        obtain ⟨rfl, h3, h4⟩ := hq
        exact ends_o h3 (closeBox0 rfl (rowP_c h4) rfl) (by simp) (by decide)
  · cases hq
theorem ansFirst : AnsO Tryz.prog 33 (gO pFirst) := by
  refine ansO fun ys x q hq => ?_
  unfold pFirst at hq
  split at hq
  · rename_i x
    simp only [Option.some.injEq] at hq
    subst hq
    obtain ⟨l⟩ := x
    cases l with
    | none =>
      refine ⟨rfl, rfl, hBN, opBN, runMono (run_plain mixed tab1 tabD (dIs (by kernel_rfl)) (by kernel_rfl) treeFirstN_eq (Q := fun p => p = (.tup [.agg ({} : Gw.Ask).vs, .bool false], [some (.cells false [.nils])])) ?_) fun r h' hq => ?_⟩
      · simp [treeFirstN, DT.sat, Gw.Ask.vs]
      · simp at hq
        obtain ⟨rfl, h3⟩ := hq
        exact ends_o h3 closeBoxN .nil (by simp)
    | some l =>
      refine ⟨rfl, rfl, hBC l, opBC l, runMono (run_plain mixed tab1 tabD (dIs (by kernel_rfl)) (by kernel_rfl) (treeFirstS_eq l) (Q := fun p => p = (.tup [.agg (boxFirst ⟨some l⟩).1.vs, .bool (boxFirst ⟨some l⟩).2], [some (.cells false [.slice 4 0 l.length 4 none]), some (.cells false (l.flatMap Gw.Ask.vs))])) ?_) fun r h' hq => ?_⟩
      · cases l <;> simp [treeFirstS, DT.sat, Gw.Ask.vs, boxFirst, cellsAt, takeN]
        omega
      · simp only [Prod.mk.injEq, List.cons.injEq] at hq
        obtain ⟨rfl, h3, h4, _⟩ := hq
        exact ends_o h3 (closeBox0 rfl (rowP_c h4) rfl) (by simp) (by decide)
  · cases hq
theorem ansTake : AnsO Tryz.prog 34 (gO pTake) := by
  refine ansO fun ys x q hq => ?_
  unfold pTake at hq
  split at hq
  · rename_i x
    simp only [Option.some.injEq] at hq
    subst hq
    obtain ⟨l⟩ := x
    cases l with
    | none =>
      refine ⟨rfl, rfl, hBN, opBN, runMono (run_plain mixed tab1 tabD (dIs (by kernel_rfl)) (by kernel_rfl) treeTakeN_eq (Q := fun p => p = (.tup [.agg ({} : Gw.Ask).vs, .bool false], [some (.cells false [.nils])])) ?_) fun r h' hq => ?_⟩
      · simp [treeTakeN, DT.sat, Gw.Ask.vs]
      · simp at hq
        obtain ⟨rfl, h3⟩ := hq
        exact ends_o h3 closeBoxN .nil (by simp)
    | some l =>
      cases l with
      | nil =>
        refine ⟨rfl, rfl, hBC [], opBC [], runMono (run_plain mixed tab1 tabD (dIs (by kernel_rfl)) (by kernel_rfl) (treeTakeS_eq []) (Q := fun p => p = (.tup [.agg ({} : Gw.Ask).vs, .bool false], [some (.cells false [.slice 4 0 0 4 none]), some (.cells false [])])) ?_) fun r h' hq => ?_⟩
        · simp [treeTakeS, DT.sat, Gw.Ask.vs]
        · simp only [Prod.mk.injEq, List.cons.injEq] at hq
          obtain ⟨rfl, h3, h4, _⟩ := hq
          exact ends_o h3 (closeBox0 (l := []) rfl (rowP_c h4) rfl) (by simp) (by decide)
      | cons a l =>
        refine ⟨rfl, rfl, hBC (a :: l), opBC (a :: l), runMono (run_plain mixed tab1 tabD (dIs (by kernel_rfl)) (by kernel_rfl) (treeTakeS_eq (a :: l)) (Q := fun p => p = (.tup [.agg a.vs, .bool true], [some (.cells false [.slice 4 4 l.length 4 none]), some (.cells false ((a :: l).flatMap Gw.Ask.vs))])) ?_) fun r h' hq => ?_⟩
        · simp [treeTakeS, DT.sat, Gw.Ask.vs, cellsAt, takeN]
          omega
        · simp only [Prod.mk.injEq, List.cons.injEq] at hq
          obtain ⟨rfl, h3, h4, _⟩ := hq
          refine ends_o h3 (closeBox (l := l) rfl (rowP_c h4) ?_) (by simp) (by decide)
          rw [List.flatMap_cons, show a.vs = [vi a.kind, vi a.n, vu a.id, V.str a.body] from rfl]
          simp only [List.cons_append, List.nil_append, List.drop_succ_cons, List.drop_zero]
          exact List.take_of_length_le (by rw [asks_len]; exact Nat.le_refl _)
  · cases hq
theorem ansNewB : AnsO Tryz.prog 29 (gN pNewB) := by
  refine ansN fun ys o ho => ?_
  unfold pNewB at ho
  split at ho
  · simp only [Option.some.injEq] at ho
    subst ho
    refine ⟨rfl, runMono (run_plain mixed tab1 tabD (dIs (by kernel_rfl)) (by kernel_rfl) treeNewB_eq (Q := fun p => p = (.ptr 4 0, [some (.cells false [.nils])])) ?_) fun r h' hq => ?_⟩
    · simp [treeNewB, DT.sat]
    · simp at hq
      obtain ⟨rfl, h4⟩ := hq
      exact ends_new (by decide) h4 closeBoxN .nil (by simp)
  · cases ho
end Go.Proofs.YtjnhaaolbcmdbaaGreatDoor
