/-
  DERIVED. GIVEN WITH THE SEED: THE CARDS: each row of YtbkgcdncdaeiaaaGreatDoorRows.lean that lists a variable, with what it lists TIED to the program's text (the seventh form; the later family's looks); each row that meets fmt, with fmt's text TOLD by the authors' own Lean function (tested against real Go, not proved from fmt's source: count such statements apart). THE CARD IS WHAT COUNTS. Prove the row's statement (the work); the ties are given (YtbkgcdncdaeiaaaGreatDoorTie.lean); close each card by the builder's one call (the guide's Derived/Test/ToyasCard.lean, 'card_holds'). Laid BY PROGRAM, IN A SANDBOX (cutbox-door.mjs). By AI agents, Wed Nov 11 2026. No macro, syntax, notation, axiom, sorry.
-/
import Derived.Test.YtbkgcdncdaeiaaaGreatDoorRows
import GoSem.ClaimSeven
namespace Go.Proofs.YtbkgcdncdaeiaaaGreatDoor
namespace Rows

/-- THE TIED CARD OF 'glowwormlaw20.LinkSilence'. -/
def linkSilenceCard : Claim7 := { stood := { row := linkSilenceRow, standIns := [], harness := (true, "0d1387f36395353ebb6d1a5a8990b0b237abb93f40752651dbe3dcd8e1fccafe"), looks := true }, kinds := [], alts := [], laidByText := true, laidKinds := [.data, .data, .pinned], laidTests := true, laidLooks := .later }
def LinkSilenceCardSaid : Prop := Claim7.holds Tryz.pinned (.plain (OpenSpec.ofChange linkSilenceSpec)) linkSilenceCard

/-- THE TIED CARD OF 'glowwormlaw20.LinkPair'. -/
def linkPairCard : Claim7 := { stood := { row := linkPairRow, standIns := [], harness := (true, "0d1387f36395353ebb6d1a5a8990b0b237abb93f40752651dbe3dcd8e1fccafe"), looks := true }, kinds := [], alts := [], laidByText := true, laidKinds := [.data, .data, .pinned], laidTests := true, laidLooks := .later }
def LinkPairCardSaid : Prop := Claim7.holds Tryz.pinned (.plain (OpenSpec.ofChange linkPairSpec)) linkPairCard

/-- THE TIED CARD OF 'glowwormlaw20.LinkBrings'. -/
def linkBringsCard : Claim7 := { stood := { row := linkBringsRow, standIns := [], harness := (true, "0d1387f36395353ebb6d1a5a8990b0b237abb93f40752651dbe3dcd8e1fccafe"), looks := true }, kinds := [], alts := [], laidByText := true, laidKinds := [.data, .data, .pinned], laidTests := true, laidLooks := .later }
def LinkBringsCardSaid : Prop := Claim7.holds Tryz.pinned (.plain (OpenSpec.ofChange linkBringsSpec)) linkBringsCard

/-- THE TIED CARD OF 'glowwormlaw20.LinkCall'. -/
def linkCallCard : Claim7 := { stood := { row := linkCallRow, standIns := [], harness := (true, "0d1387f36395353ebb6d1a5a8990b0b237abb93f40752651dbe3dcd8e1fccafe"), looks := true }, kinds := [], alts := [], laidByText := true, laidKinds := [.data, .data, .pinned], laidTests := true, laidLooks := .later }
def LinkCallCardSaid : Prop := Claim7.holds Tryz.pinned (.plain (OpenSpec.ofChange linkCallSpec)) linkCallCard

/-- THE TIED CARD OF 'glowwormlaw20.LinkAsk'. -/
def linkAskCard : Claim7 := { stood := { row := linkAskRow, standIns := [], harness := (true, "0d1387f36395353ebb6d1a5a8990b0b237abb93f40752651dbe3dcd8e1fccafe"), looks := true }, kinds := [], alts := [], laidByText := true, laidKinds := [.data, .data, .pinned], laidTests := true, laidLooks := .later }
def LinkAskCardSaid : Prop := Claim7.holds Tryz.pinned (.plain (OpenSpec.ofChange linkAskSpec)) linkAskCard

/-- THE TIED CARD OF 'glowwormlaw20.LinkForeign'. -/
def linkForeignCard : Claim7 := { stood := { row := linkForeignRow, standIns := [], harness := (true, "0d1387f36395353ebb6d1a5a8990b0b237abb93f40752651dbe3dcd8e1fccafe"), looks := true }, kinds := [], alts := [], laidByText := true, laidKinds := [.data, .data, .pinned], laidTests := true, laidLooks := .later }
def LinkForeignCardSaid : Prop := Claim7.holds Tryz.pinned (.plain (OpenSpec.ofChange linkForeignSpec)) linkForeignCard

/-- THE TIED CARD OF 'glowwormlaw20.LinkAgain'. -/
def linkAgainCard : Claim7 := { stood := { row := linkAgainRow, standIns := [], harness := (true, "0d1387f36395353ebb6d1a5a8990b0b237abb93f40752651dbe3dcd8e1fccafe"), looks := true }, kinds := [], alts := [], laidByText := true, laidKinds := [.data, .data, .pinned], laidTests := true, laidLooks := .later }
def LinkAgainCardSaid : Prop := Claim7.holds Tryz.pinned (.plain (OpenSpec.ofChange linkAgainSpec)) linkAgainCard

/-- THE TIED CARD OF 'glowwormlaw20.LinkUnfree'. -/
def linkUnfreeCard : Claim7 := { stood := { row := linkUnfreeRow, standIns := [], harness := (true, "0d1387f36395353ebb6d1a5a8990b0b237abb93f40752651dbe3dcd8e1fccafe"), looks := true }, kinds := [], alts := [], laidByText := true, laidKinds := [.data, .data, .pinned], laidTests := true, laidLooks := .later }
def LinkUnfreeCardSaid : Prop := Claim7.holds Tryz.pinned (.plain (OpenSpec.ofChange linkUnfreeSpec)) linkUnfreeCard

/-- THE TIED CARD OF 'glowwormlaw20.LinkPoll'. -/
def linkPollCard : Claim7 := { stood := { row := linkPollRow, standIns := [], harness := (true, "0d1387f36395353ebb6d1a5a8990b0b237abb93f40752651dbe3dcd8e1fccafe"), looks := true }, kinds := [], alts := [], laidByText := true, laidKinds := [.data, .data, .pinned], laidTests := true, laidLooks := .later }
def LinkPollCardSaid : Prop := Claim7.holds Tryz.pinned (.plain (OpenSpec.ofChange linkPollSpec)) linkPollCard

/-- THE TIED CARD OF 'glowwormlaw20.LinkDisc'. -/
def linkDiscCard : Claim7 := { stood := { row := linkDiscRow, standIns := [], harness := (true, "0d1387f36395353ebb6d1a5a8990b0b237abb93f40752651dbe3dcd8e1fccafe"), looks := true }, kinds := [], alts := [], laidByText := true, laidKinds := [.data, .data, .pinned], laidTests := true, laidLooks := .later }
def LinkDiscCardSaid : Prop := Claim7.holds Tryz.pinned (.plain (OpenSpec.ofChange linkDiscSpec)) linkDiscCard

/-- THE TIED CARD OF 'glowwormlaw20.LinkReset'. -/
def linkResetCard : Claim7 := { stood := { row := linkResetRow, standIns := [], harness := (true, "0d1387f36395353ebb6d1a5a8990b0b237abb93f40752651dbe3dcd8e1fccafe"), looks := true }, kinds := [], alts := [], laidByText := true, laidKinds := [.data, .data, .pinned], laidTests := true, laidLooks := .later }
def LinkResetCardSaid : Prop := Claim7.holds Tryz.pinned (.plain (OpenSpec.ofChange linkResetSpec)) linkResetCard

/-- THE TIED CARD OF 'glowwormlaw20.LinkChange'. -/
def linkChangeCard : Claim7 := { stood := { row := linkChangeRow, standIns := [], harness := (true, "0d1387f36395353ebb6d1a5a8990b0b237abb93f40752651dbe3dcd8e1fccafe"), looks := true }, kinds := [], alts := [], laidByText := true, laidKinds := [.data, .data, .pinned], laidTests := true, laidLooks := .later }
def LinkChangeCardSaid : Prop := Claim7.holds Tryz.pinned (.plain (OpenSpec.ofChange linkChangeSpec)) linkChangeCard

/-- THE TIED CARD OF 'glowwormlaw20.LinkNext'. -/
def linkNextCard : Claim7 := { stood := { row := linkNextRow, standIns := [], harness := (true, "0d1387f36395353ebb6d1a5a8990b0b237abb93f40752651dbe3dcd8e1fccafe"), looks := true }, kinds := [], alts := [], laidByText := true, laidKinds := [.data, .data, .pinned], laidTests := true, laidLooks := .later }
def LinkNextCardSaid : Prop := Claim7.holds Tryz.pinned (.plain (OpenSpec.ofChange linkNextSpec)) linkNextCard

/-- THE TIED CARD OF 'glowwormlaw20.LinkMe'. -/
def linkMeCard : Claim7 := { stood := { row := linkMeRow, standIns := [], harness := (true, "0d1387f36395353ebb6d1a5a8990b0b237abb93f40752651dbe3dcd8e1fccafe"), looks := true }, kinds := [], alts := [], laidByText := true, laidKinds := [.data, .data, .pinned], laidTests := true, laidLooks := .later }
def LinkMeCardSaid : Prop := Claim7.holds Tryz.pinned (.plain (OpenSpec.ofChange linkMeSpec)) linkMeCard

/-- THE TIED CARD OF 'glowwormlaw20.StationXid'. -/
def stationXidCard : Claim7 := { stood := { row := stationXidRow, standIns := [], harness := (true, "0d1387f36395353ebb6d1a5a8990b0b237abb93f40752651dbe3dcd8e1fccafe"), looks := true }, kinds := [], alts := [], laidByText := true, laidKinds := [.data, .data, .pinned], laidTests := true, laidLooks := .later }
def StationXidCardSaid : Prop := Claim7.holds Tryz.pinned (.plain (OpenSpec.ofChange stationXidSpec)) stationXidCard

/-- THE TIED CARD OF 'glowwormlaw20.StationRound'. -/
def stationRoundCard : Claim7 := { stood := { row := stationRoundRow, standIns := [], harness := (true, "0d1387f36395353ebb6d1a5a8990b0b237abb93f40752651dbe3dcd8e1fccafe"), looks := true }, kinds := [], alts := [], laidByText := true, laidKinds := [.data, .data, .pinned], laidTests := true, laidLooks := .later }
def StationRoundCardSaid : Prop := Claim7.holds Tryz.pinned (.plain (OpenSpec.ofChange stationRoundSpec)) stationRoundCard

/-- THE SECOND FORM's CARD OF 'glowwormlaw20.LinkSilence'. -/
def linkSilenceUptoCard : Claim7 := { stood := { row := linkSilenceUptoRow, standIns := [], harness := (true, "0d1387f36395353ebb6d1a5a8990b0b237abb93f40752651dbe3dcd8e1fccafe"), looks := true }, kinds := [], alts := [], laidByText := true, laidKinds := [.data, .data, .pinned], laidTests := true, laidLooks := .later }
def LinkSilenceUptoCardSaid : Prop := Claim7.holds Tryz.pinned (.plain (OpenSpec.upto linkSilenceSpec)) linkSilenceUptoCard

/-- THE SECOND FORM's CARD OF 'glowwormlaw20.LinkPair'. -/
def linkPairUptoCard : Claim7 := { stood := { row := linkPairUptoRow, standIns := [], harness := (true, "0d1387f36395353ebb6d1a5a8990b0b237abb93f40752651dbe3dcd8e1fccafe"), looks := true }, kinds := [], alts := [], laidByText := true, laidKinds := [.data, .data, .pinned], laidTests := true, laidLooks := .later }
def LinkPairUptoCardSaid : Prop := Claim7.holds Tryz.pinned (.plain (OpenSpec.upto linkPairSpec)) linkPairUptoCard

/-- THE SECOND FORM's CARD OF 'glowwormlaw20.LinkBrings'. -/
def linkBringsUptoCard : Claim7 := { stood := { row := linkBringsUptoRow, standIns := [], harness := (true, "0d1387f36395353ebb6d1a5a8990b0b237abb93f40752651dbe3dcd8e1fccafe"), looks := true }, kinds := [], alts := [], laidByText := true, laidKinds := [.data, .data, .pinned], laidTests := true, laidLooks := .later }
def LinkBringsUptoCardSaid : Prop := Claim7.holds Tryz.pinned (.plain (OpenSpec.upto linkBringsSpec)) linkBringsUptoCard

/-- THE SECOND FORM's CARD OF 'glowwormlaw20.LinkCall'. -/
def linkCallUptoCard : Claim7 := { stood := { row := linkCallUptoRow, standIns := [], harness := (true, "0d1387f36395353ebb6d1a5a8990b0b237abb93f40752651dbe3dcd8e1fccafe"), looks := true }, kinds := [], alts := [], laidByText := true, laidKinds := [.data, .data, .pinned], laidTests := true, laidLooks := .later }
def LinkCallUptoCardSaid : Prop := Claim7.holds Tryz.pinned (.plain (OpenSpec.upto linkCallSpec)) linkCallUptoCard

/-- THE SECOND FORM's CARD OF 'glowwormlaw20.LinkAsk'. -/
def linkAskUptoCard : Claim7 := { stood := { row := linkAskUptoRow, standIns := [], harness := (true, "0d1387f36395353ebb6d1a5a8990b0b237abb93f40752651dbe3dcd8e1fccafe"), looks := true }, kinds := [], alts := [], laidByText := true, laidKinds := [.data, .data, .pinned], laidTests := true, laidLooks := .later }
def LinkAskUptoCardSaid : Prop := Claim7.holds Tryz.pinned (.plain (OpenSpec.upto linkAskSpec)) linkAskUptoCard

/-- THE SECOND FORM's CARD OF 'glowwormlaw20.LinkForeign'. -/
def linkForeignUptoCard : Claim7 := { stood := { row := linkForeignUptoRow, standIns := [], harness := (true, "0d1387f36395353ebb6d1a5a8990b0b237abb93f40752651dbe3dcd8e1fccafe"), looks := true }, kinds := [], alts := [], laidByText := true, laidKinds := [.data, .data, .pinned], laidTests := true, laidLooks := .later }
def LinkForeignUptoCardSaid : Prop := Claim7.holds Tryz.pinned (.plain (OpenSpec.upto linkForeignSpec)) linkForeignUptoCard

/-- THE SECOND FORM's CARD OF 'glowwormlaw20.LinkAgain'. -/
def linkAgainUptoCard : Claim7 := { stood := { row := linkAgainUptoRow, standIns := [], harness := (true, "0d1387f36395353ebb6d1a5a8990b0b237abb93f40752651dbe3dcd8e1fccafe"), looks := true }, kinds := [], alts := [], laidByText := true, laidKinds := [.data, .data, .pinned], laidTests := true, laidLooks := .later }
def LinkAgainUptoCardSaid : Prop := Claim7.holds Tryz.pinned (.plain (OpenSpec.upto linkAgainSpec)) linkAgainUptoCard

/-- THE SECOND FORM's CARD OF 'glowwormlaw20.LinkUnfree'. -/
def linkUnfreeUptoCard : Claim7 := { stood := { row := linkUnfreeUptoRow, standIns := [], harness := (true, "0d1387f36395353ebb6d1a5a8990b0b237abb93f40752651dbe3dcd8e1fccafe"), looks := true }, kinds := [], alts := [], laidByText := true, laidKinds := [.data, .data, .pinned], laidTests := true, laidLooks := .later }
def LinkUnfreeUptoCardSaid : Prop := Claim7.holds Tryz.pinned (.plain (OpenSpec.upto linkUnfreeSpec)) linkUnfreeUptoCard

/-- THE SECOND FORM's CARD OF 'glowwormlaw20.LinkPoll'. -/
def linkPollUptoCard : Claim7 := { stood := { row := linkPollUptoRow, standIns := [], harness := (true, "0d1387f36395353ebb6d1a5a8990b0b237abb93f40752651dbe3dcd8e1fccafe"), looks := true }, kinds := [], alts := [], laidByText := true, laidKinds := [.data, .data, .pinned], laidTests := true, laidLooks := .later }
def LinkPollUptoCardSaid : Prop := Claim7.holds Tryz.pinned (.plain (OpenSpec.upto linkPollSpec)) linkPollUptoCard

/-- THE SECOND FORM's CARD OF 'glowwormlaw20.LinkDisc'. -/
def linkDiscUptoCard : Claim7 := { stood := { row := linkDiscUptoRow, standIns := [], harness := (true, "0d1387f36395353ebb6d1a5a8990b0b237abb93f40752651dbe3dcd8e1fccafe"), looks := true }, kinds := [], alts := [], laidByText := true, laidKinds := [.data, .data, .pinned], laidTests := true, laidLooks := .later }
def LinkDiscUptoCardSaid : Prop := Claim7.holds Tryz.pinned (.plain (OpenSpec.upto linkDiscSpec)) linkDiscUptoCard

/-- THE SECOND FORM's CARD OF 'glowwormlaw20.LinkReset'. -/
def linkResetUptoCard : Claim7 := { stood := { row := linkResetUptoRow, standIns := [], harness := (true, "0d1387f36395353ebb6d1a5a8990b0b237abb93f40752651dbe3dcd8e1fccafe"), looks := true }, kinds := [], alts := [], laidByText := true, laidKinds := [.data, .data, .pinned], laidTests := true, laidLooks := .later }
def LinkResetUptoCardSaid : Prop := Claim7.holds Tryz.pinned (.plain (OpenSpec.upto linkResetSpec)) linkResetUptoCard

/-- THE SECOND FORM's CARD OF 'glowwormlaw20.LinkChange'. -/
def linkChangeUptoCard : Claim7 := { stood := { row := linkChangeUptoRow, standIns := [], harness := (true, "0d1387f36395353ebb6d1a5a8990b0b237abb93f40752651dbe3dcd8e1fccafe"), looks := true }, kinds := [], alts := [], laidByText := true, laidKinds := [.data, .data, .pinned], laidTests := true, laidLooks := .later }
def LinkChangeUptoCardSaid : Prop := Claim7.holds Tryz.pinned (.plain (OpenSpec.upto linkChangeSpec)) linkChangeUptoCard

/-- THE SECOND FORM's CARD OF 'glowwormlaw20.LinkNext'. -/
def linkNextUptoCard : Claim7 := { stood := { row := linkNextUptoRow, standIns := [], harness := (true, "0d1387f36395353ebb6d1a5a8990b0b237abb93f40752651dbe3dcd8e1fccafe"), looks := true }, kinds := [], alts := [], laidByText := true, laidKinds := [.data, .data, .pinned], laidTests := true, laidLooks := .later }
def LinkNextUptoCardSaid : Prop := Claim7.holds Tryz.pinned (.plain (OpenSpec.upto linkNextSpec)) linkNextUptoCard

/-- THE SECOND FORM's CARD OF 'glowwormlaw20.LinkMe'. -/
def linkMeUptoCard : Claim7 := { stood := { row := linkMeUptoRow, standIns := [], harness := (true, "0d1387f36395353ebb6d1a5a8990b0b237abb93f40752651dbe3dcd8e1fccafe"), looks := true }, kinds := [], alts := [], laidByText := true, laidKinds := [.data, .data, .pinned], laidTests := true, laidLooks := .later }
def LinkMeUptoCardSaid : Prop := Claim7.holds Tryz.pinned (.plain (OpenSpec.upto linkMeSpec)) linkMeUptoCard

/-- THE SECOND FORM's CARD OF 'glowwormlaw20.StationXid'. -/
def stationXidUptoCard : Claim7 := { stood := { row := stationXidUptoRow, standIns := [], harness := (true, "0d1387f36395353ebb6d1a5a8990b0b237abb93f40752651dbe3dcd8e1fccafe"), looks := true }, kinds := [], alts := [], laidByText := true, laidKinds := [.data, .data, .pinned], laidTests := true, laidLooks := .later }
def StationXidUptoCardSaid : Prop := Claim7.holds Tryz.pinned (.plain (OpenSpec.upto stationXidSpec)) stationXidUptoCard

/-- THE SECOND FORM's CARD OF 'glowwormlaw20.StationRound'. -/
def stationRoundUptoCard : Claim7 := { stood := { row := stationRoundUptoRow, standIns := [], harness := (true, "0d1387f36395353ebb6d1a5a8990b0b237abb93f40752651dbe3dcd8e1fccafe"), looks := true }, kinds := [], alts := [], laidByText := true, laidKinds := [.data, .data, .pinned], laidTests := true, laidLooks := .later }
def StationRoundUptoCardSaid : Prop := Claim7.holds Tryz.pinned (.plain (OpenSpec.upto stationRoundSpec)) stationRoundUptoCard
end Rows
end Go.Proofs.YtbkgcdncdaeiaaaGreatDoor
