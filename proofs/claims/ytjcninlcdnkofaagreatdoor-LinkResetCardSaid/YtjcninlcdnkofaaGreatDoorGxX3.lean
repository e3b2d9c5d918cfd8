/- Arguments handed to a law. -/
import Derived.Test.YtjcninlcdnkofaaGreatDoorGxP
import Derived.Test.YtjcninlcdnkofaaGreatDoorGxE3
import Derived.Test.YtjcninlcdnkofaaGreatDoorGxB6
noncomputable section
namespace Go.Proofs.YtjcninlcdnkofaaGreatDoor
open Go Gw Go.RowKit Go.ChangeShapes Go.WideShapes Go.ChangeAt
set_option maxRecDepth 1000000
noncomputable def fldX (t : TypeId) (i : Nat) : Field := match Tryz.prog.underlying t with
  | some (.struct a) => a.toList.getD i default
  | _ => default
theorem int_arg {H : Type} {enc : TypeId × Value → H} {W : World} {base b0 : Nat} {held : Bool} {sp : Nat → Bool} {t : TypeId} {k : IntKind} {v : Value} {d : DataW H} {p : List MemPlace} (ht : Tryz.prog.underlying t = some (.int k)) (hv : Value.okWide Tryz.prog W .any b0 t v) (h : DataW.Trod enc Tryz.prog W base sp held t v d p) : ∃ n : Int, v = .int k n ∧ (Lit.int k n).wf = true := by
  obtain ⟨n, rfl⟩ := okWide_int ht hv
  obtain ⟨fuel, hf⟩ := h
  obtain ⟨m, hm, _, hw⟩ := DataW.trod_int ht hf
  simp [Value.cells] at hm
  subst hm
  exact ⟨n, rfl, hw⟩
theorem bool_arg {H : Type} {enc : TypeId × Value → H} {W : World} {base b0 : Nat} {held : Bool} {sp : Nat → Bool} {t : TypeId} {v : Value} {d : DataW H} {p : List MemPlace} (ht : Tryz.prog.underlying t = some .bool) (hv : Value.okWide Tryz.prog W .any b0 t v) (h : DataW.Trod enc Tryz.prog W base sp held t v d p) : ∃ n : Bool, v = .bool n := by
  obtain ⟨fuel, hf⟩ := h
  obtain ⟨m, hm, _⟩ := DataW.trod_bool ht hf
  have hv' : Cell.okWide Tryz.prog W .any b0 t v := by simpa only [Value.okWide, ht] using hv
  have hv2 : Cell.ok Tryz.prog W .any b0 t v := by simpa only [Cell.okWide, ht] using hv'
  cases v <;> simp_all [Cell.ok, Value.cells]
theorem str_arg {H : Type} {enc : TypeId × Value → H} {W : World} {base b0 : Nat} {held : Bool} {sp : Nat → Bool} {t : TypeId} {v : Value} {d : DataW H} {p : List MemPlace} (ht : Tryz.prog.underlying t = some .string) (hv : Value.okWide Tryz.prog W .any b0 t v) (h : DataW.Trod enc Tryz.prog W base sp held t v d p) : ∃ s : List UInt8, v = .string ⟨⟨s⟩⟩ := by
  obtain ⟨fuel, hf⟩ := h
  obtain ⟨m, hm, _⟩ := DataW.trod_string ht hf
  have hv' : Cell.okWide Tryz.prog W .any b0 t v := by simpa only [Value.okWide, ht] using hv
  have hv2 : Cell.ok Tryz.prog W .any b0 t v := by simpa only [Cell.okWide, ht] using hv'
  cases v
  case string b => exact ⟨b.data.toList, rfl⟩
  all_goals simp_all [Cell.ok, Value.cells]
theorem u32_rng {n : Int} (h : (Lit.int .u32 n).wf = true) : 0 ≤ n ∧ n < 4294967296 := by
  have h' : (decide ((0 : Int) ≤ n) && decide (n ≤ 4294967295)) = true := h
  simp only [Bool.and_eq_true, decide_eq_true_eq] at h'
  omega
def gOffer (x : Gw.Offer) : List Value := [.int .i64 (x.baud), .int .i64 (x.silent), .int .i64 (x.win), .int .i64 (x.size), .int .i64 (x.wait)]
theorem listOffer {α : Type} {cs : List α} (h : cs.length = 5) : ∃ c0 c1 c2 c3 c4, cs = [c0, c1, c2, c3, c4] := by
  match cs, h with
  | [c0, c1, c2, c3, c4], _ => exact ⟨c0, c1, c2, c3, c4, rfl⟩
theorem Offer_cells {H : Type} {enc : TypeId × Value → H} {W : World} {base n : Nat} {held : Bool} {sp : Nat → Bool} {cs : List Value} {x : DataW H × List MemPlace} (h : DataW.trod enc Tryz.prog W base sp held n 23 cs = some x) : ∃ a, cs = gOffer a := by
  obtain ⟨xs, m, _, _, hl, hlen, hf⟩ := DataW.trod_struct (show Tryz.prog.underlying 23 = some (.struct #[fldX 23 0, fldX 23 1, fldX 23 2, fldX 23 3, fldX 23 4]) by kernel_rfl) h
  rw [show Tryz.prog.cellsOf 23 = 5 by kernel_rfl] at hl
  obtain ⟨c0, c1, c2, c3, c4, rfl⟩ := listOffer hl
  obtain ⟨y0, y1, y2, y3, y4, rfl⟩ := listOffer (cs := xs) hlen
  have h0 := hf 0 (fldX 23 0) rfl
  have h1 := hf 1 (fldX 23 1) rfl
  have h2 := hf 2 (fldX 23 2) rfl
  have h3 := hf 3 (fldX 23 3) rfl
  have h4 := hf 4 (fldX 23 4) rfl
  rw [show (fldX 23 0).offset = 0 by kernel_rfl, show Tryz.prog.cellsOf (fldX 23 0).type = 1 by kernel_rfl, show (fldX 23 0).type = 3 by kernel_rfl] at h0
  rw [show (fldX 23 1).offset = 1 by kernel_rfl, show Tryz.prog.cellsOf (fldX 23 1).type = 1 by kernel_rfl, show (fldX 23 1).type = 3 by kernel_rfl] at h1
  rw [show (fldX 23 2).offset = 2 by kernel_rfl, show Tryz.prog.cellsOf (fldX 23 2).type = 1 by kernel_rfl, show (fldX 23 2).type = 3 by kernel_rfl] at h2
  rw [show (fldX 23 3).offset = 3 by kernel_rfl, show Tryz.prog.cellsOf (fldX 23 3).type = 1 by kernel_rfl, show (fldX 23 3).type = 3 by kernel_rfl] at h3
  rw [show (fldX 23 4).offset = 4 by kernel_rfl, show Tryz.prog.cellsOf (fldX 23 4).type = 1 by kernel_rfl, show (fldX 23 4).type = 3 by kernel_rfl] at h4
  obtain ⟨n0, e0, _⟩ := DataW.trod_int (show Tryz.prog.underlying 3 = some (.int .i64) by kernel_rfl) h0
  obtain ⟨n1, e1, _⟩ := DataW.trod_int (show Tryz.prog.underlying 3 = some (.int .i64) by kernel_rfl) h1
  obtain ⟨n2, e2, _⟩ := DataW.trod_int (show Tryz.prog.underlying 3 = some (.int .i64) by kernel_rfl) h2
  obtain ⟨n3, e3, _⟩ := DataW.trod_int (show Tryz.prog.underlying 3 = some (.int .i64) by kernel_rfl) h3
  obtain ⟨n4, e4, _⟩ := DataW.trod_int (show Tryz.prog.underlying 3 = some (.int .i64) by kernel_rfl) h4
  simp at e0 e1 e2 e3 e4
  subst e0 e1 e2 e3 e4
  exact ⟨⟨n0, n1, n2, n3, n4⟩, rfl⟩
theorem Offer_arg {H : Type} {enc : TypeId × Value → H} {W : World} {base b0 : Nat} {held : Bool} {sp : Nat → Bool} {v : Value} {d : DataW H} {p : List MemPlace} (hv : Value.okWide Tryz.prog W .any b0 23 v) (h : DataW.Trod enc Tryz.prog W base sp held 23 v d p) : ∃ x : Gw.Offer, v = .agg (gOffer x).toArray := by
  obtain ⟨cs, rfl, hsz⟩ := okWide_struct (show Tryz.prog.underlying 23 = some (.struct #[fldX 23 0, fldX 23 1, fldX 23 2, fldX 23 3, fldX 23 4]) by kernel_rfl) hv
  obtain ⟨fuel, hf⟩ := h
  obtain ⟨x, hx⟩ := Offer_cells hf
  refine ⟨x, ?_⟩
  congr 1
  apply Array.ext'
  simpa [Value.cells] using hx
theorem Offer_VR (ρ : Rho) (x : Gw.Offer) : VR ρ (.agg x.vs) (.agg (gOffer x).toArray) := by
  simp only [VR]
  exact ⟨gOffer x, rfl, by simp [VRs, VR, Gw.Offer.vs, gOffer]⟩
def gAsk (x : Gw.Ask) : List Value := [.int .i64 (x.kind), .int .i64 (x.n), .int .u32 (x.id), .string ⟨⟨x.body⟩⟩]
theorem listAsk {α : Type} {cs : List α} (h : cs.length = 4) : ∃ c0 c1 c2 c3, cs = [c0, c1, c2, c3] := by
  match cs, h with
  | [c0, c1, c2, c3], _ => exact ⟨c0, c1, c2, c3, rfl⟩
theorem Ask_cells {H : Type} {enc : TypeId × Value → H} {W : World} {base n : Nat} {held : Bool} {sp : Nat → Bool} {cs : List Value} {x : DataW H × List MemPlace} (h : DataW.trod enc Tryz.prog W base sp held n 34 cs = some x) : ∃ a, cs = gAsk a := by
  obtain ⟨xs, m, _, _, hl, hlen, hf⟩ := DataW.trod_struct (show Tryz.prog.underlying 34 = some (.struct #[fldX 34 0, fldX 34 1, fldX 34 2, fldX 34 3]) by kernel_rfl) h
  rw [show Tryz.prog.cellsOf 34 = 4 by kernel_rfl] at hl
  obtain ⟨c0, c1, c2, c3, rfl⟩ := listAsk hl
  obtain ⟨y0, y1, y2, y3, rfl⟩ := listAsk (cs := xs) hlen
  have h0 := hf 0 (fldX 34 0) rfl
  have h1 := hf 1 (fldX 34 1) rfl
  have h2 := hf 2 (fldX 34 2) rfl
  have h3 := hf 3 (fldX 34 3) rfl
  rw [show (fldX 34 0).offset = 0 by kernel_rfl, show Tryz.prog.cellsOf (fldX 34 0).type = 1 by kernel_rfl, show (fldX 34 0).type = 3 by kernel_rfl] at h0
  rw [show (fldX 34 1).offset = 1 by kernel_rfl, show Tryz.prog.cellsOf (fldX 34 1).type = 1 by kernel_rfl, show (fldX 34 1).type = 3 by kernel_rfl] at h1
  rw [show (fldX 34 2).offset = 2 by kernel_rfl, show Tryz.prog.cellsOf (fldX 34 2).type = 1 by kernel_rfl, show (fldX 34 2).type = 32 by kernel_rfl] at h2
  rw [show (fldX 34 3).offset = 3 by kernel_rfl, show Tryz.prog.cellsOf (fldX 34 3).type = 1 by kernel_rfl, show (fldX 34 3).type = 9 by kernel_rfl] at h3
  obtain ⟨n0, e0, _⟩ := DataW.trod_int (show Tryz.prog.underlying 3 = some (.int .i64) by kernel_rfl) h0
  obtain ⟨n1, e1, _⟩ := DataW.trod_int (show Tryz.prog.underlying 3 = some (.int .i64) by kernel_rfl) h1
  obtain ⟨n2, e2, _⟩ := DataW.trod_int (show Tryz.prog.underlying 32 = some (.int .u32) by kernel_rfl) h2
  obtain ⟨n3, e3, _⟩ := DataW.trod_string (show Tryz.prog.underlying 9 = some .string by kernel_rfl) h3
  simp at e0 e1 e2 e3
  subst e0 e1 e2 e3
  exact ⟨⟨n0, n1, n2, n3.data.toList⟩, rfl⟩
theorem Ask_arg {H : Type} {enc : TypeId × Value → H} {W : World} {base b0 : Nat} {held : Bool} {sp : Nat → Bool} {v : Value} {d : DataW H} {p : List MemPlace} (hv : Value.okWide Tryz.prog W .any b0 34 v) (h : DataW.Trod enc Tryz.prog W base sp held 34 v d p) : ∃ x : Gw.Ask, v = .agg (gAsk x).toArray := by
  obtain ⟨cs, rfl, hsz⟩ := okWide_struct (show Tryz.prog.underlying 34 = some (.struct #[fldX 34 0, fldX 34 1, fldX 34 2, fldX 34 3]) by kernel_rfl) hv
  obtain ⟨fuel, hf⟩ := h
  obtain ⟨x, hx⟩ := Ask_cells hf
  refine ⟨x, ?_⟩
  congr 1
  apply Array.ext'
  simpa [Value.cells] using hx
theorem Ask_VR (ρ : Rho) (x : Gw.Ask) : VR ρ (.agg x.vs) (.agg (gAsk x).toArray) := by
  simp only [VR]
  exact ⟨gAsk x, rfl, by simp [VRs, VR, Gw.Ask.vs, gAsk]⟩
end Go.Proofs.YtjcninlcdnkofaaGreatDoor
