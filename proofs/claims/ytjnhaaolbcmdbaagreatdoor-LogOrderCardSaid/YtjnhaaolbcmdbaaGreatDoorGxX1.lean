/- Arguments handed to a law: a Xid, a number, a text. -/
import Derived.Test.YtjnhaaolbcmdbaaGreatDoorGxE1
import Derived.Test.YtjnhaaolbcmdbaaGreatDoorGxB6
namespace Go.Proofs.YtjnhaaolbcmdbaaGreatDoor
open Go Gw Go.RowKit Go.ChangeShapes Go.WideShapes Go.ChangeAt
set_option maxRecDepth 1000000
noncomputable def fldX (t : TypeId) (i : Nat) : Field := match Tryz.prog.underlying t with
  | some (.struct a) => a.toList.getD i default
  | _ => default
def gXid (a : Gw.Xid) : List Value := [.int .u32 a.src, .int .u32 a.dst, .int .i64 a.slot, .int .i64 a.slots, .bool a.anew, .string ⟨⟨a.nick⟩⟩]
theorem list6 {α : Type} {cs : List α} (h : cs.length = 6) : ∃ c0 c1 c2 c3 c4 c5, cs = [c0, c1, c2, c3, c4, c5] := by
  match cs, h with
  | [c0, c1, c2, c3, c4, c5], _ => exact ⟨c0, c1, c2, c3, c4, c5, rfl⟩
theorem xid_cells {H : Type} {enc : TypeId × Value → H} {W : World} {base n : Nat} {held : Bool} {sp : Nat → Bool} {cs : List Value} {x : DataW H × List MemPlace} (h : DataW.trod enc Tryz.prog W base sp held n 32 cs = some x) : ∃ a, cs = gXid a := by
  obtain ⟨xs, m, _, _, hl, hlen, hf⟩ := DataW.trod_struct (show Tryz.prog.underlying 32 = some (.struct #[fldX 32 0, fldX 32 1, fldX 32 2, fldX 32 3, fldX 32 4, fldX 32 5]) by kernel_rfl) h
  rw [show Tryz.prog.cellsOf 32 = 6 by kernel_rfl] at hl
  obtain ⟨c0, c1, c2, c3, c4, c5, rfl⟩ := list6 hl
  obtain ⟨y0, y1, y2, y3, y4, y5, rfl⟩ := list6 (cs := xs) hlen
  have h0 := hf 0 (fldX 32 0) rfl
  have h1 := hf 1 (fldX 32 1) rfl
  have h2 := hf 2 (fldX 32 2) rfl
  have h3 := hf 3 (fldX 32 3) rfl
  have h4 := hf 4 (fldX 32 4) rfl
  have h5 := hf 5 (fldX 32 5) rfl
  rw [show (fldX 32 0).offset = 0 by kernel_rfl, show Tryz.prog.cellsOf (fldX 32 0).type = 1 by kernel_rfl, show (fldX 32 0).type = 22 by kernel_rfl] at h0
  rw [show (fldX 32 1).offset = 1 by kernel_rfl, show Tryz.prog.cellsOf (fldX 32 1).type = 1 by kernel_rfl, show (fldX 32 1).type = 22 by kernel_rfl] at h1
  rw [show (fldX 32 2).offset = 2 by kernel_rfl, show Tryz.prog.cellsOf (fldX 32 2).type = 1 by kernel_rfl, show (fldX 32 2).type = 3 by kernel_rfl] at h2
  rw [show (fldX 32 3).offset = 3 by kernel_rfl, show Tryz.prog.cellsOf (fldX 32 3).type = 1 by kernel_rfl, show (fldX 32 3).type = 3 by kernel_rfl] at h3
  rw [show (fldX 32 4).offset = 4 by kernel_rfl, show Tryz.prog.cellsOf (fldX 32 4).type = 1 by kernel_rfl, show (fldX 32 4).type = 4 by kernel_rfl] at h4
  rw [show (fldX 32 5).offset = 5 by kernel_rfl, show Tryz.prog.cellsOf (fldX 32 5).type = 1 by kernel_rfl, show (fldX 32 5).type = 9 by kernel_rfl] at h5
  obtain ⟨n0, e0, _⟩ := DataW.trod_int (show Tryz.prog.underlying 22 = some (.int .u32) by kernel_rfl) h0
  obtain ⟨n1, e1, _⟩ := DataW.trod_int (show Tryz.prog.underlying 22 = some (.int .u32) by kernel_rfl) h1
  obtain ⟨n2, e2, _⟩ := DataW.trod_int (show Tryz.prog.underlying 3 = some (.int .i64) by kernel_rfl) h2
  obtain ⟨n3, e3, _⟩ := DataW.trod_int (show Tryz.prog.underlying 3 = some (.int .i64) by kernel_rfl) h3
  obtain ⟨n4, e4, _⟩ := DataW.trod_bool (show Tryz.prog.underlying 4 = some .bool by kernel_rfl) h4
  obtain ⟨s5, e5, _⟩ := DataW.trod_string (show Tryz.prog.underlying 9 = some .string by kernel_rfl) h5
  simp at e0 e1 e2 e3 e4 e5
  subst e0 e1 e2 e3 e4 e5
  exact ⟨⟨n0, n1, n2, n3, n4, s5.data.toList⟩, rfl⟩
theorem xid_arg {H : Type} {enc : TypeId × Value → H} {W : World} {base b0 : Nat} {held : Bool} {sp : Nat → Bool} {v : Value} {d : DataW H} {p : List MemPlace} (hv : Value.okWide Tryz.prog W .any b0 32 v) (h : DataW.Trod enc Tryz.prog W base sp held 32 v d p) : ∃ x : Gw.Xid, v = .agg (gXid x).toArray := by
  obtain ⟨cs, rfl, hsz⟩ := okWide_struct (show Tryz.prog.underlying 32 = some (.struct #[fldX 32 0, fldX 32 1, fldX 32 2, fldX 32 3, fldX 32 4, fldX 32 5]) by kernel_rfl) hv
  obtain ⟨fuel, hf⟩ := h
  obtain ⟨x, hx⟩ := xid_cells hf
  refine ⟨x, ?_⟩
  congr 1
  apply Array.ext'
  simpa [Value.cells] using hx
theorem xid_VR (ρ : Rho) (x : Gw.Xid) : VR ρ (.agg x.vs) (.agg (gXid x).toArray) := by
  simp only [VR]
  exact ⟨gXid x, rfl, by simp [VRs, VR, Gw.Xid.vs, gXid]⟩
theorem int_arg {H : Type} {enc : TypeId × Value → H} {W : World} {base b0 : Nat} {held : Bool} {sp : Nat → Bool} {t : TypeId} {k : IntKind} {v : Value} {d : DataW H} {p : List MemPlace} (ht : Tryz.prog.underlying t = some (.int k)) (hv : Value.okWide Tryz.prog W .any b0 t v) (h : DataW.Trod enc Tryz.prog W base sp held t v d p) : ∃ n : Int, v = .int k n ∧ (Lit.int k n).wf = true := by
  obtain ⟨n, rfl⟩ := okWide_int ht hv
  obtain ⟨fuel, hf⟩ := h
  obtain ⟨m, hm, _, hw⟩ := DataW.trod_int ht hf
  simp [Value.cells] at hm
  subst hm
  exact ⟨n, rfl, hw⟩
end Go.Proofs.YtjnhaaolbcmdbaaGreatDoor
