/-
  DERIVED. GIVEN WITH THE SEED: THE CARDS: each row of YtjcninlcdnkofaaGreatDoorRows.lean that lists a variable, with what it lists TIED to the program's text (the seventh form; the later family's looks); each row that meets fmt, with fmt's text TOLD by the authors' own Lean function (tested against real Go, not proved from fmt's source: count such statements apart). THE CARD IS WHAT COUNTS. Prove the row's statement (the work); the ties are given (YtjcninlcdnkofaaGreatDoorTie.lean); close each card by the builder's one call (the guide's Derived/Test/ToyasCard.lean, 'card_holds'). Laid BY PROGRAM, IN A SANDBOX (cutbox-door.mjs). By AI agents, Wed Nov 11 2026. No macro, syntax, notation, axiom, sorry.
-/
import Derived.Test.YtjcninlcdnkofaaGreatDoorRows
import GoSem.ClaimSeven
namespace Go.Proofs.YtjcninlcdnkofaaGreatDoor
namespace Rows

/-- THE TIED CARD OF 'glowwormlaw20.LinkSilence'. -/
def linkSilenceCard : Claim7 := { stood := { row := linkSilenceRow, standIns := [], harness := (true, "c897092d219e37ca4c75573babb661321520a1b71512af3228d73aeb1eb5d0d0"), looks := true }, kinds := [], alts := [], laidByText := true, laidKinds := [.data, .data, .pinned], laidTests := true, laidLooks := .later }
def LinkSilenceCardSaid : Prop := Claim7.holds Tryz.pinned (.plain (OpenSpec.ofChange linkSilenceSpec)) linkSilenceCard

/-- THE TIED CARD OF 'glowwormlaw20.LinkDisc'. -/
def linkDiscCard : Claim7 := { stood := { row := linkDiscRow, standIns := [], harness := (true, "c897092d219e37ca4c75573babb661321520a1b71512af3228d73aeb1eb5d0d0"), looks := true }, kinds := [], alts := [], laidByText := true, laidKinds := [.data, .data, .pinned], laidTests := true, laidLooks := .later }
def LinkDiscCardSaid : Prop := Claim7.holds Tryz.pinned (.plain (OpenSpec.ofChange linkDiscSpec)) linkDiscCard

/-- THE TIED CARD OF 'glowwormlaw20.LinkUnfree'. -/
def linkUnfreeCard : Claim7 := { stood := { row := linkUnfreeRow, standIns := [], harness := (true, "c897092d219e37ca4c75573babb661321520a1b71512af3228d73aeb1eb5d0d0"), looks := true }, kinds := [], alts := [], laidByText := true, laidKinds := [.data, .data, .pinned], laidTests := true, laidLooks := .later }
def LinkUnfreeCardSaid : Prop := Claim7.holds Tryz.pinned (.plain (OpenSpec.ofChange linkUnfreeSpec)) linkUnfreeCard

/-- THE TIED CARD OF 'glowwormlaw20.LinkNext'. -/
def linkNextCard : Claim7 := { stood := { row := linkNextRow, standIns := [], harness := (true, "c897092d219e37ca4c75573babb661321520a1b71512af3228d73aeb1eb5d0d0"), looks := true }, kinds := [], alts := [], laidByText := true, laidKinds := [.data, .data, .pinned], laidTests := true, laidLooks := .later }
def LinkNextCardSaid : Prop := Claim7.holds Tryz.pinned (.plain (OpenSpec.ofChange linkNextSpec)) linkNextCard

/-- THE TIED CARD OF 'glowwormlaw20.LinkPair'. -/
def linkPairCard : Claim7 := { stood := { row := linkPairRow, standIns := [], harness := (true, "c897092d219e37ca4c75573babb661321520a1b71512af3228d73aeb1eb5d0d0"), looks := true }, kinds := [], alts := [], laidByText := true, laidKinds := [.data, .data, .pinned], laidTests := true, laidLooks := .later }
def LinkPairCardSaid : Prop := Claim7.holds Tryz.pinned (.plain (OpenSpec.ofChange linkPairSpec)) linkPairCard

/-- THE TIED CARD OF 'glowwormlaw20.LinkReset'. -/
def linkResetCard : Claim7 := { stood := { row := linkResetRow, standIns := [], harness := (true, "c897092d219e37ca4c75573babb661321520a1b71512af3228d73aeb1eb5d0d0"), looks := true }, kinds := [], alts := [], laidByText := true, laidKinds := [.data, .data, .pinned], laidTests := true, laidLooks := .later }
def LinkResetCardSaid : Prop := Claim7.holds Tryz.pinned (.plain (OpenSpec.ofChange linkResetSpec)) linkResetCard

/-- THE SECOND FORM's CARD OF 'glowwormlaw20.LinkSilence'. -/
def linkSilenceUptoCard : Claim7 := { stood := { row := linkSilenceUptoRow, standIns := [], harness := (true, "c897092d219e37ca4c75573babb661321520a1b71512af3228d73aeb1eb5d0d0"), looks := true }, kinds := [], alts := [], laidByText := true, laidKinds := [.data, .data, .pinned], laidTests := true, laidLooks := .later }
def LinkSilenceUptoCardSaid : Prop := Claim7.holds Tryz.pinned (.plain (OpenSpec.upto linkSilenceSpec)) linkSilenceUptoCard

/-- THE SECOND FORM's CARD OF 'glowwormlaw20.LinkDisc'. -/
def linkDiscUptoCard : Claim7 := { stood := { row := linkDiscUptoRow, standIns := [], harness := (true, "c897092d219e37ca4c75573babb661321520a1b71512af3228d73aeb1eb5d0d0"), looks := true }, kinds := [], alts := [], laidByText := true, laidKinds := [.data, .data, .pinned], laidTests := true, laidLooks := .later }
def LinkDiscUptoCardSaid : Prop := Claim7.holds Tryz.pinned (.plain (OpenSpec.upto linkDiscSpec)) linkDiscUptoCard

/-- THE SECOND FORM's CARD OF 'glowwormlaw20.LinkUnfree'. -/
def linkUnfreeUptoCard : Claim7 := { stood := { row := linkUnfreeUptoRow, standIns := [], harness := (true, "c897092d219e37ca4c75573babb661321520a1b71512af3228d73aeb1eb5d0d0"), looks := true }, kinds := [], alts := [], laidByText := true, laidKinds := [.data, .data, .pinned], laidTests := true, laidLooks := .later }
def LinkUnfreeUptoCardSaid : Prop := Claim7.holds Tryz.pinned (.plain (OpenSpec.upto linkUnfreeSpec)) linkUnfreeUptoCard

/-- THE SECOND FORM's CARD OF 'glowwormlaw20.LinkNext'. -/
def linkNextUptoCard : Claim7 := { stood := { row := linkNextUptoRow, standIns := [], harness := (true, "c897092d219e37ca4c75573babb661321520a1b71512af3228d73aeb1eb5d0d0"), looks := true }, kinds := [], alts := [], laidByText := true, laidKinds := [.data, .data, .pinned], laidTests := true, laidLooks := .later }
def LinkNextUptoCardSaid : Prop := Claim7.holds Tryz.pinned (.plain (OpenSpec.upto linkNextSpec)) linkNextUptoCard

/-- THE SECOND FORM's CARD OF 'glowwormlaw20.LinkPair'. -/
def linkPairUptoCard : Claim7 := { stood := { row := linkPairUptoRow, standIns := [], harness := (true, "c897092d219e37ca4c75573babb661321520a1b71512af3228d73aeb1eb5d0d0"), looks := true }, kinds := [], alts := [], laidByText := true, laidKinds := [.data, .data, .pinned], laidTests := true, laidLooks := .later }
def LinkPairUptoCardSaid : Prop := Claim7.holds Tryz.pinned (.plain (OpenSpec.upto linkPairSpec)) linkPairUptoCard

/-- THE SECOND FORM's CARD OF 'glowwormlaw20.LinkReset'. -/
def linkResetUptoCard : Claim7 := { stood := { row := linkResetUptoRow, standIns := [], harness := (true, "c897092d219e37ca4c75573babb661321520a1b71512af3228d73aeb1eb5d0d0"), looks := true }, kinds := [], alts := [], laidByText := true, laidKinds := [.data, .data, .pinned], laidTests := true, laidLooks := .later }
def LinkResetUptoCardSaid : Prop := Claim7.holds Tryz.pinned (.plain (OpenSpec.upto linkResetSpec)) linkResetUptoCard
end Rows
end Go.Proofs.YtjcninlcdnkofaaGreatDoor
