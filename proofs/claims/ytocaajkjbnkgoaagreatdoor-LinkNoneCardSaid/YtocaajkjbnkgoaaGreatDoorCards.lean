/-
  DERIVED. GIVEN WITH THE SEED: THE CARDS: each row of YtocaajkjbnkgoaaGreatDoorRows.lean that lists a variable, with what it lists TIED to the program's text (the seventh form; the later family's looks); each row that meets fmt, with fmt's text TOLD by the authors' own Lean function (tested against real Go, not proved from fmt's source: count such statements apart). THE CARD IS WHAT COUNTS. Prove the row's statement (the work); the ties are given (YtocaajkjbnkgoaaGreatDoorTie.lean); close each card by the builder's one call (the guide's Derived/Test/ToyasCard.lean, 'card_holds'). Laid BY PROGRAM, IN A SANDBOX (cutbox-door.mjs). By AI agents, Wed Nov 11 2026. No macro, syntax, notation, axiom, sorry.
-/
import Derived.Test.YtocaajkjbnkgoaaGreatDoorRows
import GoSem.ClaimSeven
namespace Go.Proofs.YtocaajkjbnkgoaaGreatDoor
namespace Rows

/-- THE TIED CARD OF 'glowwormlaw20.LinkNone'. -/
def linkNoneCard : Claim7 := { stood := { row := linkNoneRow, standIns := [], harness := (true, "3c5c3788e22ba2dffff20907f45ee72d3e953d7847e54a98e77e909b5881336a"), looks := true }, kinds := [], alts := [], laidByText := true, laidKinds := [.data, .data, .pinned], laidTests := true, laidLooks := .later }
def LinkNoneCardSaid : Prop := Claim7.holds Tryz.pinned (.plain (OpenSpec.ofChange linkNoneSpec)) linkNoneCard

/-- THE SECOND FORM's CARD OF 'glowwormlaw20.LinkNone'. -/
def linkNoneUptoCard : Claim7 := { stood := { row := linkNoneUptoRow, standIns := [], harness := (true, "3c5c3788e22ba2dffff20907f45ee72d3e953d7847e54a98e77e909b5881336a"), looks := true }, kinds := [], alts := [], laidByText := true, laidKinds := [.data, .data, .pinned], laidTests := true, laidLooks := .later }
def LinkNoneUptoCardSaid : Prop := Claim7.holds Tryz.pinned (.plain (OpenSpec.upto linkNoneSpec)) linkNoneUptoCard
end Rows
end Go.Proofs.YtocaajkjbnkgoaaGreatDoor
