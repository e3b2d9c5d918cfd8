/- Arguments opened, and what the unknowns are. -/
import Derived.Test.YtjnhaaolbcmdbaaGreatDoorGwB4
namespace Gw
open Go Go.ChangeShapes Go.WideShapes Go.ChangeAt Go.RowKit

def nthI : List Int → Nat → Int
  | [], _ => 0
  | a :: _, 0 => a
  | _ :: l, n + 1 => nthI l n
def nthB : List Bool → Nat → Bool
  | [], _ => false
  | a :: _, 0 => a
  | _ :: l, n + 1 => nthB l n
def nthS : List (List UInt8) → Nat → List UInt8
  | [], _ => []
  | a :: _, 0 => a
  | _ :: l, n + 1 => nthS l n
def valOf (li : List Int) (lb : List Bool) (ls : List (List UInt8)) (p : Nat → List UInt8 → Bool) : Val := ⟨nthI li, nthB lb, nthS ls, p⟩
theorem nthS_len : ∀ (l : List (List UInt8)), (∀ x ∈ l, x.length ≤ sBound) → ∀ i, (nthS l i).length ≤ sBound
  | [], _, i => by simp [nthS]
  | a :: l, h, 0 => h a (by simp)
  | a :: l, h, i + 1 => nthS_len l (fun x hx => h x (by simp [hx])) i

theorem kMin_eq (k : IntKind) : kMin k = k.min := by cases k <;> decide
theorem kMax_eq (k : IntKind) : kMax k = k.max := by cases k <;> decide
theorem wf_rg {k : IntKind} {n : Int} (h : (Lit.int k n).wf = true) : okLo (some (kMin k)) n ∧ okHi (some (kMax k)) n := by
  simp only [Lit.wf, Bool.and_eq_true, decide_eq_true_eq] at h
  refine ⟨fun x hx => ?_, fun x hx => ?_⟩
  · cases hx; rw [kMin_eq]; exact h.1
  · cases hx; rw [kMax_eq]; exact h.2
theorem str_len {s : ByteArray} (h : s.size ≤ maxLen) : s.data.toList.length ≤ sBound := by
  have h1 : s.data.toList.length = s.size := by rw [Array.length_toList]; rfl
  have h2 : maxLen ≤ sBound := by decide +kernel
  omega

variable {H : Type} {enc : TypeId × Value → H} {P : Program}
theorem open_str {w : World} {base : Nat} {sp : Nat → Bool} {held : Bool} {r : Reach} {b0 : Nat} {t : TypeId} {v : Value} {d : DataW H} {ps : List MemPlace} (ht : P.underlying t = some .string) (hval : Value.okWide P w r b0 t v) (hd : DataW.Trod enc P w base sp held t v d ps) :
    ∃ s, v = .string s ∧ s.size ≤ maxLen := by
  obtain ⟨s, rfl⟩ := okWide_string ht hval
  obtain ⟨fuel, hf⟩ := hd
  obtain ⟨s', h, _, hw⟩ := DataW.trod_string ht hf
  simp [Value.cells] at h
  subst h
  exact ⟨s, rfl, hw⟩
end Gw
