/-
  DERIVED. GIVEN WITH THE SEED: THE CARDS: each row of YtjcninlcdnkofabGreatDoorRows.lean that lists a variable, with what it lists TIED to the program's text (the seventh form; the later family's looks); each row that meets fmt, with fmt's text TOLD by the authors' own Lean function (tested against real Go, not proved from fmt's source: count such statements apart). THE CARD IS WHAT COUNTS. Prove the row's statement (the work); the ties are given (YtjcninlcdnkofabGreatDoorTie.lean); close each card by the builder's one call (the guide's Derived/Test/ToyasCard.lean, 'card_holds'). Laid BY PROGRAM, IN A SANDBOX (cutbox-door.mjs). By AI agents, Wed Nov 11 2026. No macro, syntax, notation, axiom, sorry.
-/
import Derived.Test.YtjcninlcdnkofabGreatDoorRows
import GoSem.ClaimSeven
namespace Go.Proofs.YtjcninlcdnkofabGreatDoor
namespace Rows

/-- THE TIED CARD OF 'glowwormlaw20.LinkAsk'. -/
def linkAskCard : Claim7 := { stood := { row := linkAskRow, standIns := [], harness := (true, "c1a064dc8808a3ebd392e3c243d57b9bafa49ea0754dd468dbd8d21e65f72fb6"), looks := true }, kinds := [], alts := [], laidByText := true, laidKinds := [.data, .data, .pinned], laidTests := true, laidLooks := .later }
def LinkAskCardSaid : Prop := Claim7.holds Tryz.pinned (.plain (OpenSpec.ofChange linkAskSpec)) linkAskCard

/-- THE TIED CARD OF 'glowwormlaw20.LinkForeign'. -/
def linkForeignCard : Claim7 := { stood := { row := linkForeignRow, standIns := [], harness := (true, "c1a064dc8808a3ebd392e3c243d57b9bafa49ea0754dd468dbd8d21e65f72fb6"), looks := true }, kinds := [], alts := [], laidByText := true, laidKinds := [.data, .data, .pinned], laidTests := true, laidLooks := .later }
def LinkForeignCardSaid : Prop := Claim7.holds Tryz.pinned (.plain (OpenSpec.ofChange linkForeignSpec)) linkForeignCard

/-- THE SECOND FORM's CARD OF 'glowwormlaw20.LinkAsk'. -/
def linkAskUptoCard : Claim7 := { stood := { row := linkAskUptoRow, standIns := [], harness := (true, "c1a064dc8808a3ebd392e3c243d57b9bafa49ea0754dd468dbd8d21e65f72fb6"), looks := true }, kinds := [], alts := [], laidByText := true, laidKinds := [.data, .data, .pinned], laidTests := true, laidLooks := .later }
def LinkAskUptoCardSaid : Prop := Claim7.holds Tryz.pinned (.plain (OpenSpec.upto linkAskSpec)) linkAskUptoCard

/-- THE SECOND FORM's CARD OF 'glowwormlaw20.LinkForeign'. -/
def linkForeignUptoCard : Claim7 := { stood := { row := linkForeignUptoRow, standIns := [], harness := (true, "c1a064dc8808a3ebd392e3c243d57b9bafa49ea0754dd468dbd8d21e65f72fb6"), looks := true }, kinds := [], alts := [], laidByText := true, laidKinds := [.data, .data, .pinned], laidTests := true, laidLooks := .later }
def LinkForeignUptoCardSaid : Prop := Claim7.holds Tryz.pinned (.plain (OpenSpec.upto linkForeignSpec)) linkForeignUptoCard
end Rows
end Go.Proofs.YtjcninlcdnkofabGreatDoor
