import Derived.Test.YtkehghjhbfoooaaGreatDoorCards
import Derived.Test.YtkehghjhbfoooaaGreatDoorTie
import Derived.Test.YtkehghjhbfoooaaGreatDoorGxB4
namespace Go.Proofs.YtkehghjhbfoooaaGreatDoor
open Go Gw
set_option maxRecDepth 100000

def kT0 : List Int := [0,1,28,2,29,14,24,3,30,22,20,15,25,17,4,8,31,27,13,23,21,19,16,7,26,12,18,6,11,5,10,9]
def natI : List Nat → List Int
  | [] => []
  | n :: l => (n : Int) :: natI l
theorem natI_eq : ∀ l, natI l = l.map fun (n : Nat) => (n : Int)
  | [] => rfl
  | n :: l => by simp [natI, natI_eq l]
def kT1 : List Int := natI Go.Pinned.utf8FirstZ
def kPairs : List (Int × Int) := [(128, 191), (160, 191), (128, 159), (144, 191), (128, 143), (0, 0), (0, 0), (0, 0), (0, 0), (0, 0), (0, 0), (0, 0), (0, 0), (0, 0), (0, 0), (0, 0)]
def kT2 : List Int := flatZ kPairs

theorem own : ownKnob Tryz.prog.godebug = none := by kernel_rfl
theorem laidOut : laidOutB Tryz.prog = true := by kernel_rfl
def laidL : List (String × DataW Unit) := [("math/bits.deBruijn32tab", Rows.laid_math_bits_deBruijn32tab), ("unicode/utf8.acceptRanges", Rows.laid_unicode_utf8_acceptRanges), ("unicode/utf8.first", Rows.laid_unicode_utf8_first)]

theorem var_of {W : World} {name : String} {g : Nat} (hg : Tryz.prog.globalNamed name = some g) {cs : Array Value} (h : W.var? Tryz.prog name = some cs) : ∃ e fz, W.heap[g]? = some (.cells cs e fz) := by
  unfold World.var? at h
  rw [hg] at h
  simp only [Option.bind_some] at h
  split at h
  · rename_i c e fz hh
    simp only [Option.some.injEq] at h
    subst h
    exact ⟨e, fz, hh⟩
  · cases h

theorem gi0 : Tryz.prog.globalNamed "math/bits.deBruijn32tab" = some 0 := by kernel_rfl
theorem gi1 : Tryz.prog.globalNamed "unicode/utf8.first" = some 1 := by kernel_rfl
theorem gi2 : Tryz.prog.globalNamed "unicode/utf8.acceptRanges" = some 2 := by kernel_rfl

theorem ug0 : Tryz.prog.underlying 282 = some (.array 32 5) := by kernel_rfl
theorem ug1 : Tryz.prog.underlying 314 = some (.array 256 5) := by kernel_rfl
theorem ug2 : Tryz.prog.underlying 317 = some (.array 16 316) := by kernel_rfl
theorem u5 : Tryz.prog.underlying 5 = some (.int .u8) := by kernel_rfl
theorem u4 : Tryz.prog.underlying 4 = some .bool := by kernel_rfl
def fLo : Field := { name := "lo", type := 5, offset := 0, embedded := false, tag := "", pkgPath := "unicode/utf8", byteOffset := 0 }
def fHi : Field := { name := "hi", type := 5, offset := 1, embedded := false, tag := "", pkgPath := "unicode/utf8", byteOffset := 1 }
theorem u236 : Tryz.prog.underlying 316 = some (.struct #[fLo, fHi]) := by kernel_rfl
theorem ty0 : (Tryz.prog.globals[0]?).map (·.type) = some 282 := by kernel_rfl
theorem ty1 : (Tryz.prog.globals[1]?).map (·.type) = some 314 := by kernel_rfl
theorem ty2 : (Tryz.prog.globals[2]?).map (·.type) = some 317 := by kernel_rfl

theorem d0 {H : Type} : (Rows.laid_math_bits_deBruijn32tab : DataW H) = Lib.tabData .u8 kT0 := rfl
theorem d1 : Rows.laid_unicode_utf8_first = Lib.tabData .u8 kT1 := by
  show DataW.agg _ = DataW.agg _
  simp only [kT1, natI_eq, Go.Pinned.numbers, List.map_map]
  rfl
theorem d2 {H : Type} : (Rows.laid_unicode_utf8_acceptRanges : DataW H) = pairData kPairs := rfl

/-- The row's condition lays the three tables. -/
theorem tabs {W : World} (h : laidMetH Tryz.prog laidL W) : Tabs W kT0 kT1 kT2 := by
  have h' : laidMet Tryz.prog laidL W := h
  obtain ⟨ps, ⟨g0, t0, cs0, n0, p0, q0, a0, b0, c0, e0, ⟨g2, t2, cs2, n2, p2, q2, a2, b2, c2, e2, ⟨g1, t1, cs1, n1, p1, q1, a1, b1, c1, e1, _⟩, _⟩, _⟩, _⟩ := h'
  obtain rfl := Option.some.inj (gi0.symm.trans a0)
  obtain rfl := Option.some.inj (gi1.symm.trans a1)
  obtain rfl := Option.some.inj (gi2.symm.trans a2)
  obtain rfl := Option.some.inj (ty0.symm.trans b0)
  obtain rfl := Option.some.inj (ty1.symm.trans b1)
  obtain rfl := Option.some.inj (ty2.symm.trans b2)
  rw [d0] at e0
  rw [d1] at e1
  rw [d2] at e2
  obtain ⟨x0, y0, z0⟩ := var_of gi0 c0
  obtain ⟨x1, y1, z1⟩ := var_of gi1 c1
  obtain ⟨x2, y2, z2⟩ := var_of gi2 c2
  exact ⟨⟨cs0, x0, y0, z0, Lib.cells_of_tab ug0 u5 (by kernel_rfl) (by kernel_rfl) e0⟩, ⟨cs1, x1, y1, z1, Lib.cells_of_tab ug1 u5 (by kernel_rfl) (by kernel_rfl) e1⟩,
    ⟨cs2, x2, y2, z2, cells_of_pairs ug2 u236 rfl rfl u5 u5 rfl rfl (by kernel_rfl) (by kernel_rfl) (by kernel_rfl) (by kernel_rfl) e2⟩⟩

def setTab (zs : List Int) (o : Obj) : Obj :=
  match o with
  | .cells _ t fz => .cells (zs.map (Value.int .u8)).toArray t fz
  | o => o
/-- A world for the witness: the settled one, its tables laid. -/
noncomputable def laidWorld (os : Os) : World :=
  { World.holding Tryz.prog os ⟨#[], #[], []⟩ with heap := (((World.holding Tryz.prog os ⟨#[], #[], []⟩).heap.modify 0 (setTab kT0)).modify 1 (setTab kT1)).modify 2 (setTab kT2) }
theorem laid_met (os : Os) (args : Array Value) : laidMet Tryz.prog laidL ((laidWorld os).forCall (fun _ _ => 0) ⟨#[], args, []⟩).memory :=
  laidMet_of_run' 8 (by kernel_rfl) (by kernel_rfl)
end Go.Proofs.YtkehghjhbfoooaaGreatDoor
