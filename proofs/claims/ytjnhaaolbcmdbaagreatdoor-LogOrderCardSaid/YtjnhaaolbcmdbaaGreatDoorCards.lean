/-
  DERIVED. GIVEN WITH THE SEED: THE CARDS: each row of YtjnhaaolbcmdbaaGreatDoorRows.lean that lists a variable, with what it lists TIED to the program's text (the seventh form; the later family's looks); each row that meets fmt, with fmt's text TOLD by the authors' own Lean function (tested against real Go, not proved from fmt's source: count such statements apart). THE CARD IS WHAT COUNTS. Prove the row's statement (the work); the ties are given (YtjnhaaolbcmdbaaGreatDoorTie.lean); close each card by the builder's one call (the guide's Derived/Test/ToyasCard.lean, 'card_holds'). Laid BY PROGRAM, IN A SANDBOX (cutbox-door.mjs). By AI agents, Wed Nov 11 2026. No macro, syntax, notation, axiom, sorry.
-/
import Derived.Test.YtjnhaaolbcmdbaaGreatDoorRows
import GoSem.ClaimSeven
namespace Go.Proofs.YtjnhaaolbcmdbaaGreatDoor
namespace Rows

/-- THE TIED CARD OF 'glowwormlaw16.ReplyAll'. -/
def replyAllCard : Claim7 := { stood := { row := replyAllRow, standIns := [], harness := (true, "dc96a0698ae6e4634e20d8727dac3fde2d47156c1656515284245ede2290fa24"), looks := true }, kinds := [], alts := [], laidByText := true, laidKinds := [.data, .data, .pinned], laidTests := true, laidLooks := .later }
def ReplyAllCardSaid : Prop := Claim7.holds Tryz.pinned (.plain (OpenSpec.ofChange replyAllSpec)) replyAllCard

/-- THE TIED CARD OF 'glowwormlaw16.ReplyOnce'. -/
def replyOnceCard : Claim7 := { stood := { row := replyOnceRow, standIns := [], harness := (true, "dc96a0698ae6e4634e20d8727dac3fde2d47156c1656515284245ede2290fa24"), looks := true }, kinds := [], alts := [], laidByText := true, laidKinds := [.data, .data, .pinned], laidTests := true, laidLooks := .later }
def ReplyOnceCardSaid : Prop := Claim7.holds Tryz.pinned (.plain (OpenSpec.ofChange replyOnceSpec)) replyOnceCard

/-- THE TIED CARD OF 'glowwormlaw16.BoxAll'. -/
def boxAllCard : Claim7 := { stood := { row := boxAllRow, standIns := [], harness := (true, "dc96a0698ae6e4634e20d8727dac3fde2d47156c1656515284245ede2290fa24"), looks := true }, kinds := [], alts := [], laidByText := true, laidKinds := [.data, .data, .pinned], laidTests := true, laidLooks := .later }
def BoxAllCardSaid : Prop := Claim7.holds Tryz.pinned (.plain (OpenSpec.ofChange boxAllSpec)) boxAllCard

/-- THE TIED CARD OF 'glowwormlaw16.LogClash'. -/
def logClashCard : Claim7 := { stood := { row := logClashRow, standIns := [], harness := (true, "dc96a0698ae6e4634e20d8727dac3fde2d47156c1656515284245ede2290fa24"), looks := true }, kinds := [], alts := [], laidByText := true, laidKinds := [.data, .data, .pinned], laidTests := true, laidLooks := .later }
def LogClashCardSaid : Prop := Claim7.holds Tryz.pinned (.plain (OpenSpec.ofChange logClashSpec)) logClashCard

/-- THE TIED CARD OF 'glowwormlaw16.QueryTimes'. -/
def queryTimesCard : Claim7 := { stood := { row := queryTimesRow, standIns := [], harness := (true, "dc96a0698ae6e4634e20d8727dac3fde2d47156c1656515284245ede2290fa24"), looks := true }, kinds := [], alts := [], laidByText := true, laidKinds := [.data, .data, .pinned], laidTests := true, laidLooks := .later }
def QueryTimesCardSaid : Prop := Claim7.holds Tryz.pinned (.plain (OpenSpec.ofChange queryTimesSpec)) queryTimesCard

/-- THE TIED CARD OF 'glowwormlaw16.QueryDeaf'. -/
def queryDeafCard : Claim7 := { stood := { row := queryDeafRow, standIns := [], harness := (true, "dc96a0698ae6e4634e20d8727dac3fde2d47156c1656515284245ede2290fa24"), looks := true }, kinds := [], alts := [], laidByText := true, laidKinds := [.data, .data, .pinned], laidTests := true, laidLooks := .later }
def QueryDeafCardSaid : Prop := Claim7.holds Tryz.pinned (.plain (OpenSpec.ofChange queryDeafSpec)) queryDeafCard

/-- THE TIED CARD OF 'glowwormlaw16.ReplyAnew'. -/
def replyAnewCard : Claim7 := { stood := { row := replyAnewRow, standIns := [], harness := (true, "dc96a0698ae6e4634e20d8727dac3fde2d47156c1656515284245ede2290fa24"), looks := true }, kinds := [], alts := [], laidByText := true, laidKinds := [.data, .data, .pinned], laidTests := true, laidLooks := .later }
def ReplyAnewCardSaid : Prop := Claim7.holds Tryz.pinned (.plain (OpenSpec.ofChange replyAnewSpec)) replyAnewCard

/-- THE TIED CARD OF 'glowwormlaw16.ReplyLate'. -/
def replyLateCard : Claim7 := { stood := { row := replyLateRow, standIns := [], harness := (true, "dc96a0698ae6e4634e20d8727dac3fde2d47156c1656515284245ede2290fa24"), looks := true }, kinds := [], alts := [], laidByText := true, laidKinds := [.data, .data, .pinned], laidTests := true, laidLooks := .later }
def ReplyLateCardSaid : Prop := Claim7.holds Tryz.pinned (.plain (OpenSpec.ofChange replyLateSpec)) replyLateCard

/-- THE TIED CARD OF 'glowwormlaw16.BoxOrder'. -/
def boxOrderCard : Claim7 := { stood := { row := boxOrderRow, standIns := [], harness := (true, "dc96a0698ae6e4634e20d8727dac3fde2d47156c1656515284245ede2290fa24"), looks := true }, kinds := [], alts := [], laidByText := true, laidKinds := [.data, .data, .pinned], laidTests := true, laidLooks := .later }
def BoxOrderCardSaid : Prop := Claim7.holds Tryz.pinned (.plain (OpenSpec.ofChange boxOrderSpec)) boxOrderCard

/-- THE TIED CARD OF 'glowwormlaw16.BoxTurn'. -/
def boxTurnCard : Claim7 := { stood := { row := boxTurnRow, standIns := [], harness := (true, "dc96a0698ae6e4634e20d8727dac3fde2d47156c1656515284245ede2290fa24"), looks := true }, kinds := [], alts := [], laidByText := true, laidKinds := [.data, .data, .pinned], laidTests := true, laidLooks := .later }
def BoxTurnCardSaid : Prop := Claim7.holds Tryz.pinned (.plain (OpenSpec.ofChange boxTurnSpec)) boxTurnCard

/-- THE TIED CARD OF 'glowwormlaw16.QueryOwn'. -/
def queryOwnCard : Claim7 := { stood := { row := queryOwnRow, standIns := [], harness := (true, "dc96a0698ae6e4634e20d8727dac3fde2d47156c1656515284245ede2290fa24"), looks := true }, kinds := [], alts := [], laidByText := true, laidKinds := [.data, .data, .pinned], laidTests := true, laidLooks := .later }
def QueryOwnCardSaid : Prop := Claim7.holds Tryz.pinned (.plain (OpenSpec.ofChange queryOwnSpec)) queryOwnCard

/-- THE TIED CARD OF 'glowwormlaw16.ReplyTwo'. -/
def replyTwoCard : Claim7 := { stood := { row := replyTwoRow, standIns := [], harness := (true, "dc96a0698ae6e4634e20d8727dac3fde2d47156c1656515284245ede2290fa24"), looks := true }, kinds := [], alts := [], laidByText := true, laidKinds := [.data, .data, .pinned], laidTests := true, laidLooks := .later }
def ReplyTwoCardSaid : Prop := Claim7.holds Tryz.pinned (.plain (OpenSpec.ofChange replyTwoSpec)) replyTwoCard

/-- THE TIED CARD OF 'glowwormlaw16.QueryAll'. -/
def queryAllCard : Claim7 := { stood := { row := queryAllRow, standIns := [], harness := (true, "dc96a0698ae6e4634e20d8727dac3fde2d47156c1656515284245ede2290fa24"), looks := true }, kinds := [], alts := [], laidByText := true, laidKinds := [.data, .data, .pinned], laidTests := true, laidLooks := .later }
def QueryAllCardSaid : Prop := Claim7.holds Tryz.pinned (.plain (OpenSpec.ofChange queryAllSpec)) queryAllCard

/-- THE TIED CARD OF 'glowwormlaw16.BoxNone'. -/
def boxNoneCard : Claim7 := { stood := { row := boxNoneRow, standIns := [], harness := (true, "dc96a0698ae6e4634e20d8727dac3fde2d47156c1656515284245ede2290fa24"), looks := true }, kinds := [], alts := [], laidByText := true, laidKinds := [.data, .data, .pinned], laidTests := true, laidLooks := .later }
def BoxNoneCardSaid : Prop := Claim7.holds Tryz.pinned (.plain (OpenSpec.ofChange boxNoneSpec)) boxNoneCard

/-- THE TIED CARD OF 'glowwormlaw16.LogOrder'. -/
def logOrderCard : Claim7 := { stood := { row := logOrderRow, standIns := [], harness := (true, "dc96a0698ae6e4634e20d8727dac3fde2d47156c1656515284245ede2290fa24"), looks := true }, kinds := [], alts := [], laidByText := true, laidKinds := [.data, .data, .pinned], laidTests := true, laidLooks := .later }
def LogOrderCardSaid : Prop := Claim7.holds Tryz.pinned (.plain (OpenSpec.ofChange logOrderSpec)) logOrderCard

/-- THE SECOND FORM's CARD OF 'glowwormlaw16.ReplyAll'. -/
def replyAllUptoCard : Claim7 := { stood := { row := replyAllUptoRow, standIns := [], harness := (true, "dc96a0698ae6e4634e20d8727dac3fde2d47156c1656515284245ede2290fa24"), looks := true }, kinds := [], alts := [], laidByText := true, laidKinds := [.data, .data, .pinned], laidTests := true, laidLooks := .later }
def ReplyAllUptoCardSaid : Prop := Claim7.holds Tryz.pinned (.plain (OpenSpec.upto replyAllSpec)) replyAllUptoCard

/-- THE SECOND FORM's CARD OF 'glowwormlaw16.ReplyOnce'. -/
def replyOnceUptoCard : Claim7 := { stood := { row := replyOnceUptoRow, standIns := [], harness := (true, "dc96a0698ae6e4634e20d8727dac3fde2d47156c1656515284245ede2290fa24"), looks := true }, kinds := [], alts := [], laidByText := true, laidKinds := [.data, .data, .pinned], laidTests := true, laidLooks := .later }
def ReplyOnceUptoCardSaid : Prop := Claim7.holds Tryz.pinned (.plain (OpenSpec.upto replyOnceSpec)) replyOnceUptoCard

/-- THE SECOND FORM's CARD OF 'glowwormlaw16.BoxAll'. -/
def boxAllUptoCard : Claim7 := { stood := { row := boxAllUptoRow, standIns := [], harness := (true, "dc96a0698ae6e4634e20d8727dac3fde2d47156c1656515284245ede2290fa24"), looks := true }, kinds := [], alts := [], laidByText := true, laidKinds := [.data, .data, .pinned], laidTests := true, laidLooks := .later }
def BoxAllUptoCardSaid : Prop := Claim7.holds Tryz.pinned (.plain (OpenSpec.upto boxAllSpec)) boxAllUptoCard

/-- THE SECOND FORM's CARD OF 'glowwormlaw16.LogClash'. -/
def logClashUptoCard : Claim7 := { stood := { row := logClashUptoRow, standIns := [], harness := (true, "dc96a0698ae6e4634e20d8727dac3fde2d47156c1656515284245ede2290fa24"), looks := true }, kinds := [], alts := [], laidByText := true, laidKinds := [.data, .data, .pinned], laidTests := true, laidLooks := .later }
def LogClashUptoCardSaid : Prop := Claim7.holds Tryz.pinned (.plain (OpenSpec.upto logClashSpec)) logClashUptoCard

/-- THE SECOND FORM's CARD OF 'glowwormlaw16.QueryTimes'. -/
def queryTimesUptoCard : Claim7 := { stood := { row := queryTimesUptoRow, standIns := [], harness := (true, "dc96a0698ae6e4634e20d8727dac3fde2d47156c1656515284245ede2290fa24"), looks := true }, kinds := [], alts := [], laidByText := true, laidKinds := [.data, .data, .pinned], laidTests := true, laidLooks := .later }
def QueryTimesUptoCardSaid : Prop := Claim7.holds Tryz.pinned (.plain (OpenSpec.upto queryTimesSpec)) queryTimesUptoCard

/-- THE SECOND FORM's CARD OF 'glowwormlaw16.QueryDeaf'. -/
def queryDeafUptoCard : Claim7 := { stood := { row := queryDeafUptoRow, standIns := [], harness := (true, "dc96a0698ae6e4634e20d8727dac3fde2d47156c1656515284245ede2290fa24"), looks := true }, kinds := [], alts := [], laidByText := true, laidKinds := [.data, .data, .pinned], laidTests := true, laidLooks := .later }
def QueryDeafUptoCardSaid : Prop := Claim7.holds Tryz.pinned (.plain (OpenSpec.upto queryDeafSpec)) queryDeafUptoCard

/-- THE SECOND FORM's CARD OF 'glowwormlaw16.ReplyAnew'. -/
def replyAnewUptoCard : Claim7 := { stood := { row := replyAnewUptoRow, standIns := [], harness := (true, "dc96a0698ae6e4634e20d8727dac3fde2d47156c1656515284245ede2290fa24"), looks := true }, kinds := [], alts := [], laidByText := true, laidKinds := [.data, .data, .pinned], laidTests := true, laidLooks := .later }
def ReplyAnewUptoCardSaid : Prop := Claim7.holds Tryz.pinned (.plain (OpenSpec.upto replyAnewSpec)) replyAnewUptoCard

/-- THE SECOND FORM's CARD OF 'glowwormlaw16.ReplyLate'. -/
def replyLateUptoCard : Claim7 := { stood := { row := replyLateUptoRow, standIns := [], harness := (true, "dc96a0698ae6e4634e20d8727dac3fde2d47156c1656515284245ede2290fa24"), looks := true }, kinds := [], alts := [], laidByText := true, laidKinds := [.data, .data, .pinned], laidTests := true, laidLooks := .later }
def ReplyLateUptoCardSaid : Prop := Claim7.holds Tryz.pinned (.plain (OpenSpec.upto replyLateSpec)) replyLateUptoCard

/-- THE SECOND FORM's CARD OF 'glowwormlaw16.BoxOrder'. -/
def boxOrderUptoCard : Claim7 := { stood := { row := boxOrderUptoRow, standIns := [], harness := (true, "dc96a0698ae6e4634e20d8727dac3fde2d47156c1656515284245ede2290fa24"), looks := true }, kinds := [], alts := [], laidByText := true, laidKinds := [.data, .data, .pinned], laidTests := true, laidLooks := .later }
def BoxOrderUptoCardSaid : Prop := Claim7.holds Tryz.pinned (.plain (OpenSpec.upto boxOrderSpec)) boxOrderUptoCard

/-- THE SECOND FORM's CARD OF 'glowwormlaw16.BoxTurn'. -/
def boxTurnUptoCard : Claim7 := { stood := { row := boxTurnUptoRow, standIns := [], harness := (true, "dc96a0698ae6e4634e20d8727dac3fde2d47156c1656515284245ede2290fa24"), looks := true }, kinds := [], alts := [], laidByText := true, laidKinds := [.data, .data, .pinned], laidTests := true, laidLooks := .later }
def BoxTurnUptoCardSaid : Prop := Claim7.holds Tryz.pinned (.plain (OpenSpec.upto boxTurnSpec)) boxTurnUptoCard

/-- THE SECOND FORM's CARD OF 'glowwormlaw16.QueryOwn'. -/
def queryOwnUptoCard : Claim7 := { stood := { row := queryOwnUptoRow, standIns := [], harness := (true, "dc96a0698ae6e4634e20d8727dac3fde2d47156c1656515284245ede2290fa24"), looks := true }, kinds := [], alts := [], laidByText := true, laidKinds := [.data, .data, .pinned], laidTests := true, laidLooks := .later }
def QueryOwnUptoCardSaid : Prop := Claim7.holds Tryz.pinned (.plain (OpenSpec.upto queryOwnSpec)) queryOwnUptoCard

/-- THE SECOND FORM's CARD OF 'glowwormlaw16.ReplyTwo'. -/
def replyTwoUptoCard : Claim7 := { stood := { row := replyTwoUptoRow, standIns := [], harness := (true, "dc96a0698ae6e4634e20d8727dac3fde2d47156c1656515284245ede2290fa24"), looks := true }, kinds := [], alts := [], laidByText := true, laidKinds := [.data, .data, .pinned], laidTests := true, laidLooks := .later }
def ReplyTwoUptoCardSaid : Prop := Claim7.holds Tryz.pinned (.plain (OpenSpec.upto replyTwoSpec)) replyTwoUptoCard

/-- THE SECOND FORM's CARD OF 'glowwormlaw16.QueryAll'. -/
def queryAllUptoCard : Claim7 := { stood := { row := queryAllUptoRow, standIns := [], harness := (true, "dc96a0698ae6e4634e20d8727dac3fde2d47156c1656515284245ede2290fa24"), looks := true }, kinds := [], alts := [], laidByText := true, laidKinds := [.data, .data, .pinned], laidTests := true, laidLooks := .later }
def QueryAllUptoCardSaid : Prop := Claim7.holds Tryz.pinned (.plain (OpenSpec.upto queryAllSpec)) queryAllUptoCard

/-- THE SECOND FORM's CARD OF 'glowwormlaw16.BoxNone'. -/
def boxNoneUptoCard : Claim7 := { stood := { row := boxNoneUptoRow, standIns := [], harness := (true, "dc96a0698ae6e4634e20d8727dac3fde2d47156c1656515284245ede2290fa24"), looks := true }, kinds := [], alts := [], laidByText := true, laidKinds := [.data, .data, .pinned], laidTests := true, laidLooks := .later }
def BoxNoneUptoCardSaid : Prop := Claim7.holds Tryz.pinned (.plain (OpenSpec.upto boxNoneSpec)) boxNoneUptoCard

/-- THE SECOND FORM's CARD OF 'glowwormlaw16.LogOrder'. -/
def logOrderUptoCard : Claim7 := { stood := { row := logOrderUptoRow, standIns := [], harness := (true, "dc96a0698ae6e4634e20d8727dac3fde2d47156c1656515284245ede2290fa24"), looks := true }, kinds := [], alts := [], laidByText := true, laidKinds := [.data, .data, .pinned], laidTests := true, laidLooks := .later }
def LogOrderUptoCardSaid : Prop := Claim7.holds Tryz.pinned (.plain (OpenSpec.upto logOrderSpec)) logOrderUptoCard
end Rows
end Go.Proofs.YtjnhaaolbcmdbaaGreatDoor
