/-
  DERIVED. GIVEN WITH THE SEED: THE CARDS: each row of YtkehghjhbfoooaaGreatDoorRows.lean that lists a variable, with what it lists TIED to the program's text (the seventh form; the later family's looks); each row that meets fmt, with fmt's text TOLD by the authors' own Lean function (tested against real Go, not proved from fmt's source: count such statements apart). THE CARD IS WHAT COUNTS. Prove the row's statement (the work); the ties are given (YtkehghjhbfoooaaGreatDoorTie.lean); close each card by the builder's one call (the guide's Derived/Test/ToyasCard.lean, 'card_holds'). Laid BY PROGRAM, IN A SANDBOX (cutbox-door.mjs). By AI agents, Wed Nov 11 2026. No macro, syntax, notation, axiom, sorry.
-/
import Derived.Test.YtkehghjhbfoooaaGreatDoorRows
import GoSem.ClaimSeven
namespace Go.Proofs.YtkehghjhbfoooaaGreatDoor
namespace Rows

/-- THE TIED CARD OF 'glowwormlaw22.PlayNone'. -/
def playNoneCard : Claim7 := { stood := { row := playNoneRow, standIns := [], harness := (true, "6ab084aea4efeb23851791d0bc0837c222c10d4b4679cacc64f54009edca9004"), looks := true }, kinds := [], alts := [], laidByText := true, laidKinds := [.data, .data, .pinned], laidTests := true, laidLooks := .later }
def PlayNoneCardSaid : Prop := Claim7.holds Tryz.pinned (.plain (OpenSpec.ofChange playNoneSpec)) playNoneCard

/-- THE TIED CARD OF 'glowwormlaw22.CellSeats'. -/
def cellSeatsCard : Claim7 := { stood := { row := cellSeatsRow, standIns := [], harness := (true, "6ab084aea4efeb23851791d0bc0837c222c10d4b4679cacc64f54009edca9004"), looks := true }, kinds := [], alts := [], laidByText := true, laidKinds := [.data, .data, .pinned], laidTests := true, laidLooks := .later }
def CellSeatsCardSaid : Prop := Claim7.holds Tryz.pinned (.plain (OpenSpec.ofChange cellSeatsSpec)) cellSeatsCard

/-- THE TIED CARD OF 'glowwormlaw22.CellIdle'. -/
def cellIdleCard : Claim7 := { stood := { row := cellIdleRow, standIns := [], harness := (true, "6ab084aea4efeb23851791d0bc0837c222c10d4b4679cacc64f54009edca9004"), looks := true }, kinds := [], alts := [], laidByText := true, laidKinds := [.data, .data, .pinned], laidTests := true, laidLooks := .later }
def CellIdleCardSaid : Prop := Claim7.holds Tryz.pinned (.plain (OpenSpec.ofChange cellIdleSpec)) cellIdleCard

/-- THE TIED CARD OF 'glowwormlaw22.AirOwn'. -/
def airOwnCard : Claim7 := { stood := { row := airOwnRow, standIns := [], harness := (true, "6ab084aea4efeb23851791d0bc0837c222c10d4b4679cacc64f54009edca9004"), looks := true }, kinds := [], alts := [], laidByText := true, laidKinds := [.data, .data, .pinned], laidTests := true, laidLooks := .later }
def AirOwnCardSaid : Prop := Claim7.holds Tryz.pinned (.plain (OpenSpec.ofChange airOwnSpec)) airOwnCard

/-- THE TIED CARD OF 'glowwormlaw22.AirLoss'. -/
def airLossCard : Claim7 := { stood := { row := airLossRow, standIns := [], harness := (true, "6ab084aea4efeb23851791d0bc0837c222c10d4b4679cacc64f54009edca9004"), looks := true }, kinds := [], alts := [], laidByText := true, laidKinds := [.data, .data, .pinned], laidTests := true, laidLooks := .later }
def AirLossCardSaid : Prop := Claim7.holds Tryz.pinned (.plain (OpenSpec.ofChange airLossSpec)) airLossCard

/-- THE SECOND FORM's CARD OF 'glowwormlaw22.PlayNone'. -/
def playNoneUptoCard : Claim7 := { stood := { row := playNoneUptoRow, standIns := [], harness := (true, "6ab084aea4efeb23851791d0bc0837c222c10d4b4679cacc64f54009edca9004"), looks := true }, kinds := [], alts := [], laidByText := true, laidKinds := [.data, .data, .pinned], laidTests := true, laidLooks := .later }
def PlayNoneUptoCardSaid : Prop := Claim7.holds Tryz.pinned (.plain (OpenSpec.upto playNoneSpec)) playNoneUptoCard

/-- THE SECOND FORM's CARD OF 'glowwormlaw22.CellSeats'. -/
def cellSeatsUptoCard : Claim7 := { stood := { row := cellSeatsUptoRow, standIns := [], harness := (true, "6ab084aea4efeb23851791d0bc0837c222c10d4b4679cacc64f54009edca9004"), looks := true }, kinds := [], alts := [], laidByText := true, laidKinds := [.data, .data, .pinned], laidTests := true, laidLooks := .later }
def CellSeatsUptoCardSaid : Prop := Claim7.holds Tryz.pinned (.plain (OpenSpec.upto cellSeatsSpec)) cellSeatsUptoCard

/-- THE SECOND FORM's CARD OF 'glowwormlaw22.CellIdle'. -/
def cellIdleUptoCard : Claim7 := { stood := { row := cellIdleUptoRow, standIns := [], harness := (true, "6ab084aea4efeb23851791d0bc0837c222c10d4b4679cacc64f54009edca9004"), looks := true }, kinds := [], alts := [], laidByText := true, laidKinds := [.data, .data, .pinned], laidTests := true, laidLooks := .later }
def CellIdleUptoCardSaid : Prop := Claim7.holds Tryz.pinned (.plain (OpenSpec.upto cellIdleSpec)) cellIdleUptoCard

/-- THE SECOND FORM's CARD OF 'glowwormlaw22.AirOwn'. -/
def airOwnUptoCard : Claim7 := { stood := { row := airOwnUptoRow, standIns := [], harness := (true, "6ab084aea4efeb23851791d0bc0837c222c10d4b4679cacc64f54009edca9004"), looks := true }, kinds := [], alts := [], laidByText := true, laidKinds := [.data, .data, .pinned], laidTests := true, laidLooks := .later }
def AirOwnUptoCardSaid : Prop := Claim7.holds Tryz.pinned (.plain (OpenSpec.upto airOwnSpec)) airOwnUptoCard

/-- THE SECOND FORM's CARD OF 'glowwormlaw22.AirLoss'. -/
def airLossUptoCard : Claim7 := { stood := { row := airLossUptoRow, standIns := [], harness := (true, "6ab084aea4efeb23851791d0bc0837c222c10d4b4679cacc64f54009edca9004"), looks := true }, kinds := [], alts := [], laidByText := true, laidKinds := [.data, .data, .pinned], laidTests := true, laidLooks := .later }
def AirLossUptoCardSaid : Prop := Claim7.holds Tryz.pinned (.plain (OpenSpec.upto airLossSpec)) airLossUptoCard
end Rows
end Go.Proofs.YtkehghjhbfoooaaGreatDoor
