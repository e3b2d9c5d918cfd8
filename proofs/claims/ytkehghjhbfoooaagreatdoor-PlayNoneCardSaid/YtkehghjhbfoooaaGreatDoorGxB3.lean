/- A table of pairs, read. -/
import Derived.Test.YtkehghjhbfoooaaGreatDoorGxB2
noncomputable section
namespace Gw
open Go Go.ChangeShapes Go.WideShapes Go.ChangeAt Go.RowKit

variable {H : Type} {enc : TypeId × Value → H} {P : Program}

def pairData (l : List (Int × Int)) : DataW H := .agg (l.map fun x => .agg [.lit (.int .u8 x.1), .lit (.int .u8 x.2)])
def flatZ : List (Int × Int) → List Int
  | [] => []
  | (a, b) :: l => a :: b :: flatZ l

theorem flatZ_len : ∀ l, (flatZ l).length = 2 * l.length
  | [] => rfl
  | (a, b) :: l => by simp [flatZ, flatZ_len l]; omega
theorem flatZ_get : ∀ (l : List (Int × Int)) (i : Nat) (x : Int × Int), l[i]? = some x → ((flatZ l).drop (i * 2)).take 2 = [x.1, x.2]
  | [], i, x, h => by simp at h
  | (a, b) :: l, 0, x, h => by simp at h; subst h; simp [flatZ]
  | (a, b) :: l, i + 1, x, h => by
    have := flatZ_get l i x (by simpa using h)
    rw [show (i + 1) * 2 = i * 2 + 1 + 1 by omega]
    simpa [flatZ] using this

theorem cells_of_pairs {w : World} {base : Nat} {sp : Nat → Bool} {held : Bool} {fuel : Nat} {t e u0 u1 : TypeId} {n : Nat} {f0 f1 : Field} {cs : List Value} {l : List (Int × Int)} {p : List MemPlace}
    (ht : P.underlying t = some (.array n e)) (he : P.underlying e = some (.struct #[f0, f1])) (h0 : f0.type = u0) (h1 : f1.type = u1) (hu0 : P.underlying u0 = some (.int .u8)) (hu1 : P.underlying u1 = some (.int .u8))
    (o0 : f0.offset = 0) (o1 : f1.offset = 1) (c0 : P.cellsOf u0 = 1) (c1 : P.cellsOf u1 = 1)
    (hce : P.cellsOf e = 2) (hct : P.cellsOf t = 2 * n)
    (h : DataW.trod enc P w base sp held fuel t cs = some (pairData l, p)) : cs = (flatZ l).map (Value.int .u8) := by
  obtain ⟨xs, m, _, hx, hl, hlen, hi⟩ := DataW.trod_array ht h
  simp only [pairData, Prod.mk.injEq, DataW.agg.injEq] at hx
  have hn : l.length = n := by have := congrArg List.length hx.1; simp at this; omega
  have key : ∀ i, i < n → (cs.drop (i * 2)).take 2 = (((flatZ l).map (Value.int .u8)).drop (i * 2)).take 2 := by
    intro i hin
    have hq := hi i hin
    rw [hce] at hq
    have hxi : ∃ y, xs[i]? = some y := ⟨xs[i]'(by omega), by simp [show i < xs.length by omega]⟩
    obtain ⟨y, hy⟩ := hxi
    rw [hy] at hq
    obtain ⟨y0, y1, k, e1, e2, e3, e4⟩ := trod_struct2 he hq
    rw [h0, o0, c0] at e3
    rw [h1, o1, c1] at e4
    obtain ⟨n0, g0, z0, _⟩ := DataW.trod_int hu0 e3
    obtain ⟨n1, g1, z1, _⟩ := DataW.trod_int hu1 e4
    rw [hce] at e2
    have hli : ∃ z, l[i]? = some z := ⟨l[i]'(by omega), by simp [show i < l.length by omega]⟩
    obtain ⟨z, hz⟩ := hli
    have := congrArg (·[i]?) hx.1
    simp only [List.getElem?_map, hz, hy, Option.map_some, Option.some.injEq] at this
    rw [e1, z0, z1] at this
    simp only [DataW.agg.injEq, List.cons.injEq, DataW.lit.injEq, Lit.int.injEq, true_and, and_true] at this
    rw [← List.map_drop, ← List.map_take, flatZ_get l i z hz]
    simp only [List.map_cons, List.map_nil, this.1, this.2]
    match hq2 : (cs.drop (i * 2)).take 2, e2 with
    | [a, b], _ =>
      rw [hq2] at g0 g1
      simp at g0 g1
      simp [g0, g1]
  apply List.ext_getElem?
  intro j
  by_cases hj : j < 2 * n
  · have h2 := congrArg (·[j % 2]?) (key (j / 2) (by omega))
    have hm : j % 2 < 2 := Nat.mod_lt _ (by decide)
    simp only [List.getElem?_take, List.getElem?_drop, hm, if_true] at h2
    rwa [show j / 2 * 2 + j % 2 = j by omega] at h2
  · rw [List.getElem?_eq_none (by omega), List.getElem?_eq_none (by simp [flatZ_len]; omega)]

end Gw
