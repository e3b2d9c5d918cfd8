/-
  NARROWER THAN 'FOR EVERY INPUT', by the rows' own cells (each row's printed sentence says how): LinkSilence: laid · LinkPair: laid · LinkBrings: laid · LinkCall: laid · LinkAsk: laid · LinkForeign: laid · LinkAgain: laid · LinkUnfree: laid · LinkPoll: laid · LinkDisc: laid · LinkReset: laid · LinkChange: laid · LinkNext: laid · LinkMe: laid · StationXid: laid · StationRound: laid.
  DERIVED. THE GIVEN ROWS OF THIS SEAT. 16 by the template 'for every input the law returns true; each argument reads behind the call as it read before'; 0 by the template 'total and deterministic' (their statements: YtbkgcdncdaeiaaaGreatDoorTotals.lean).
  GIVEN WITH THE SEED: the statements are not yours to turn. If you find one false, say at which input.
  Laid BY PROGRAM, IN A SANDBOX (cutbox-rows.mjs): the forced cells as the released guide's own fill.sh prints them over the translation 833b9ef0c6990b55… (all of the seat's roots in one cut). By AI agents, Wed Nov 11 2026. No macro, syntax, notation, axiom, sorry.
-/
import Derived.Test.YtbkgcdncdaeiaaaGreatDoorChecked
import GoSem.PinnedTables
import GoSem.Claim
import GoSem.ClaimJoined
import GoSem.ClaimMapViews
import Derived.JoinedTies
import Derived.KernelRfl
namespace Go.Proofs.YtbkgcdncdaeiaaaGreatDoor
/- THE CELL 'sum', in the pinned program and in every row, IS THE sha256 OF THE DUMP (.gsa) THAT YtbkgcdncdaeiaaaGreatDoorProg.lean LOADS. Nothing in Lean hashes anything: it is a label: what it is worth is what the hold of that sum in a sandbox is worth. -/
noncomputable def Tryz.pinned : Pinned := { name := "ytbkgcdncdaeiaaagreatdoor", sum := "833b9ef0c6990b55c720e80dd3badd7822aa75e50ad5a7ca878ff02c8994883b", checked := Tryz.checked }
namespace Rows
def none {H : Type} : Left H := { results := [], args := [] }

/- WHAT THE LISTED PACKAGE-LEVEL VARIABLES READ AS WHEN THE CALL BEGINS. Each datum BY PROGRAM (the guide's laid-datum.mjs) off the statement by which the dump's own 'gosem.cut.vars' lays the variable. In a bare row this is a premise. The card (YtbkgcdncdaeiaaaGreatDoorCards.lean) ties it to the program's text. -/
def laid_math_bits_deBruijn32tab {H : Type} : DataW H := .agg [.lit (.int .u8 0), .lit (.int .u8 1), .lit (.int .u8 28), .lit (.int .u8 2), .lit (.int .u8 29), .lit (.int .u8 14), .lit (.int .u8 24), .lit (.int .u8 3), .lit (.int .u8 30), .lit (.int .u8 22), .lit (.int .u8 20), .lit (.int .u8 15), .lit (.int .u8 25), .lit (.int .u8 17), .lit (.int .u8 4), .lit (.int .u8 8), .lit (.int .u8 31), .lit (.int .u8 27), .lit (.int .u8 13), .lit (.int .u8 23), .lit (.int .u8 21), .lit (.int .u8 19), .lit (.int .u8 16), .lit (.int .u8 7), .lit (.int .u8 26), .lit (.int .u8 12), .lit (.int .u8 18), .lit (.int .u8 6), .lit (.int .u8 11), .lit (.int .u8 5), .lit (.int .u8 10), .lit (.int .u8 9)]
def laid_unicode_utf8_acceptRanges {H : Type} : DataW H := .agg [.agg [.lit (.int .u8 128), .lit (.int .u8 191)], .agg [.lit (.int .u8 160), .lit (.int .u8 191)], .agg [.lit (.int .u8 128), .lit (.int .u8 159)], .agg [.lit (.int .u8 144), .lit (.int .u8 191)], .agg [.lit (.int .u8 128), .lit (.int .u8 143)], .agg [.lit (.int .u8 0), .lit (.int .u8 0)], .agg [.lit (.int .u8 0), .lit (.int .u8 0)], .agg [.lit (.int .u8 0), .lit (.int .u8 0)], .agg [.lit (.int .u8 0), .lit (.int .u8 0)], .agg [.lit (.int .u8 0), .lit (.int .u8 0)], .agg [.lit (.int .u8 0), .lit (.int .u8 0)], .agg [.lit (.int .u8 0), .lit (.int .u8 0)], .agg [.lit (.int .u8 0), .lit (.int .u8 0)], .agg [.lit (.int .u8 0), .lit (.int .u8 0)], .agg [.lit (.int .u8 0), .lit (.int .u8 0)], .agg [.lit (.int .u8 0), .lit (.int .u8 0)]]
/-- One of Go's own tables, pinned by name: the form's constant. -/
def laid_unicode_utf8_first : DataW Unit := Go.Pinned.utf8First

/-- 'glowwormlaw20.LinkSilence': WHATEVER THE INPUT: true; the input reads as it did. -/
def linkSilenceSpec : ChangeSpec := { name := "linkSilence", fn := fun _ => fun
  | [d1, d2, d3, d4] => { results := [.lit (.bool true)], args := [d1, d2, d3, d4] }
  | _ => none }
def linkSilenceRow : OpenClaim := { program := "ytbkgcdncdaeiaaagreatdoor", sum := "833b9ef0c6990b55c720e80dd3badd7822aa75e50ad5a7ca878ff02c8994883b", func := "glowworm/glowwormlaw20.LinkSilence", spec := "linkSilence", unfollowed := true, recurses := true, named := ["math/bits.deBruijn32tab", "unicode/utf8.first", "unicode/utf8.acceptRanges"], apart := false, laid := [("math/bits.deBruijn32tab", laid_math_bits_deBruijn32tab), ("unicode/utf8.acceptRanges", laid_unicode_utf8_acceptRanges), ("unicode/utf8.first", laid_unicode_utf8_first)] }
def LinkSilenceSaid : Prop := linkSilenceRow.holds Tryz.pinned (OpenSpec.ofChange linkSilenceSpec)

/-- ITS FALSE NEIGHBOUR: 'it returns false'. Refute it at one input. -/
def linkSilenceWrong : ChangeSpec := { name := "linkSilence", fn := fun _ => fun
  | [d1, d2, d3, d4] => { results := [.lit (.bool false)], args := [d1, d2, d3, d4] }
  | _ => none }
def LinkSilenceWrongFalsely : Prop := linkSilenceRow.holds Tryz.pinned (OpenSpec.ofChange linkSilenceWrong)

/-- 'glowwormlaw20.LinkPair': WHATEVER THE INPUT: true; the input reads as it did. -/
def linkPairSpec : ChangeSpec := { name := "linkPair", fn := fun _ => fun
  | [d1, d2] => { results := [.lit (.bool true)], args := [d1, d2] }
  | _ => none }
def linkPairRow : OpenClaim := { program := "ytbkgcdncdaeiaaagreatdoor", sum := "833b9ef0c6990b55c720e80dd3badd7822aa75e50ad5a7ca878ff02c8994883b", func := "glowworm/glowwormlaw20.LinkPair", spec := "linkPair", unfollowed := true, recurses := true, named := ["math/bits.deBruijn32tab", "unicode/utf8.first", "unicode/utf8.acceptRanges"], apart := false, laid := [("math/bits.deBruijn32tab", laid_math_bits_deBruijn32tab), ("unicode/utf8.acceptRanges", laid_unicode_utf8_acceptRanges), ("unicode/utf8.first", laid_unicode_utf8_first)] }
def LinkPairSaid : Prop := linkPairRow.holds Tryz.pinned (OpenSpec.ofChange linkPairSpec)

/-- ITS FALSE NEIGHBOUR: 'it returns false'. Refute it at one input. -/
def linkPairWrong : ChangeSpec := { name := "linkPair", fn := fun _ => fun
  | [d1, d2] => { results := [.lit (.bool false)], args := [d1, d2] }
  | _ => none }
def LinkPairWrongFalsely : Prop := linkPairRow.holds Tryz.pinned (OpenSpec.ofChange linkPairWrong)

/-- 'glowwormlaw20.LinkBrings': WHATEVER THE INPUT: true; the input reads as it did. -/
def linkBringsSpec : ChangeSpec := { name := "linkBrings", fn := fun _ => fun
  | [d1, d2, d3, d4] => { results := [.lit (.bool true)], args := [d1, d2, d3, d4] }
  | _ => none }
def linkBringsRow : OpenClaim := { program := "ytbkgcdncdaeiaaagreatdoor", sum := "833b9ef0c6990b55c720e80dd3badd7822aa75e50ad5a7ca878ff02c8994883b", func := "glowworm/glowwormlaw20.LinkBrings", spec := "linkBrings", unfollowed := true, recurses := true, named := ["math/bits.deBruijn32tab", "unicode/utf8.first", "unicode/utf8.acceptRanges"], apart := false, laid := [("math/bits.deBruijn32tab", laid_math_bits_deBruijn32tab), ("unicode/utf8.acceptRanges", laid_unicode_utf8_acceptRanges), ("unicode/utf8.first", laid_unicode_utf8_first)] }
def LinkBringsSaid : Prop := linkBringsRow.holds Tryz.pinned (OpenSpec.ofChange linkBringsSpec)

/-- ITS FALSE NEIGHBOUR: 'it returns false'. Refute it at one input. -/
def linkBringsWrong : ChangeSpec := { name := "linkBrings", fn := fun _ => fun
  | [d1, d2, d3, d4] => { results := [.lit (.bool false)], args := [d1, d2, d3, d4] }
  | _ => none }
def LinkBringsWrongFalsely : Prop := linkBringsRow.holds Tryz.pinned (OpenSpec.ofChange linkBringsWrong)

/-- 'glowwormlaw20.LinkCall': WHATEVER THE INPUT: true; the input reads as it did. -/
def linkCallSpec : ChangeSpec := { name := "linkCall", fn := fun _ => fun
  | [d1, d2, d3] => { results := [.lit (.bool true)], args := [d1, d2, d3] }
  | _ => none }
def linkCallRow : OpenClaim := { program := "ytbkgcdncdaeiaaagreatdoor", sum := "833b9ef0c6990b55c720e80dd3badd7822aa75e50ad5a7ca878ff02c8994883b", func := "glowworm/glowwormlaw20.LinkCall", spec := "linkCall", unfollowed := true, recurses := true, named := ["math/bits.deBruijn32tab", "unicode/utf8.first", "unicode/utf8.acceptRanges"], apart := false, laid := [("math/bits.deBruijn32tab", laid_math_bits_deBruijn32tab), ("unicode/utf8.acceptRanges", laid_unicode_utf8_acceptRanges), ("unicode/utf8.first", laid_unicode_utf8_first)] }
def LinkCallSaid : Prop := linkCallRow.holds Tryz.pinned (OpenSpec.ofChange linkCallSpec)

/-- ITS FALSE NEIGHBOUR: 'it returns false'. Refute it at one input. -/
def linkCallWrong : ChangeSpec := { name := "linkCall", fn := fun _ => fun
  | [d1, d2, d3] => { results := [.lit (.bool false)], args := [d1, d2, d3] }
  | _ => none }
def LinkCallWrongFalsely : Prop := linkCallRow.holds Tryz.pinned (OpenSpec.ofChange linkCallWrong)

/-- 'glowwormlaw20.LinkAsk': WHATEVER THE INPUT: true; the input reads as it did. -/
def linkAskSpec : ChangeSpec := { name := "linkAsk", fn := fun _ => fun
  | [d1, d2, d3, d4] => { results := [.lit (.bool true)], args := [d1, d2, d3, d4] }
  | _ => none }
def linkAskRow : OpenClaim := { program := "ytbkgcdncdaeiaaagreatdoor", sum := "833b9ef0c6990b55c720e80dd3badd7822aa75e50ad5a7ca878ff02c8994883b", func := "glowworm/glowwormlaw20.LinkAsk", spec := "linkAsk", unfollowed := true, recurses := true, named := ["math/bits.deBruijn32tab", "unicode/utf8.first", "unicode/utf8.acceptRanges"], apart := false, laid := [("math/bits.deBruijn32tab", laid_math_bits_deBruijn32tab), ("unicode/utf8.acceptRanges", laid_unicode_utf8_acceptRanges), ("unicode/utf8.first", laid_unicode_utf8_first)] }
def LinkAskSaid : Prop := linkAskRow.holds Tryz.pinned (OpenSpec.ofChange linkAskSpec)

/-- ITS FALSE NEIGHBOUR: 'it returns false'. Refute it at one input. -/
def linkAskWrong : ChangeSpec := { name := "linkAsk", fn := fun _ => fun
  | [d1, d2, d3, d4] => { results := [.lit (.bool false)], args := [d1, d2, d3, d4] }
  | _ => none }
def LinkAskWrongFalsely : Prop := linkAskRow.holds Tryz.pinned (OpenSpec.ofChange linkAskWrong)

/-- 'glowwormlaw20.LinkForeign': WHATEVER THE INPUT: true; the input reads as it did. -/
def linkForeignSpec : ChangeSpec := { name := "linkForeign", fn := fun _ => fun
  | [d1, d2, d3, d4, d5, d6] => { results := [.lit (.bool true)], args := [d1, d2, d3, d4, d5, d6] }
  | _ => none }
def linkForeignRow : OpenClaim := { program := "ytbkgcdncdaeiaaagreatdoor", sum := "833b9ef0c6990b55c720e80dd3badd7822aa75e50ad5a7ca878ff02c8994883b", func := "glowworm/glowwormlaw20.LinkForeign", spec := "linkForeign", unfollowed := true, recurses := true, named := ["math/bits.deBruijn32tab", "unicode/utf8.first", "unicode/utf8.acceptRanges"], apart := false, laid := [("math/bits.deBruijn32tab", laid_math_bits_deBruijn32tab), ("unicode/utf8.acceptRanges", laid_unicode_utf8_acceptRanges), ("unicode/utf8.first", laid_unicode_utf8_first)] }
def LinkForeignSaid : Prop := linkForeignRow.holds Tryz.pinned (OpenSpec.ofChange linkForeignSpec)

/-- ITS FALSE NEIGHBOUR: 'it returns false'. Refute it at one input. -/
def linkForeignWrong : ChangeSpec := { name := "linkForeign", fn := fun _ => fun
  | [d1, d2, d3, d4, d5, d6] => { results := [.lit (.bool false)], args := [d1, d2, d3, d4, d5, d6] }
  | _ => none }
def LinkForeignWrongFalsely : Prop := linkForeignRow.holds Tryz.pinned (OpenSpec.ofChange linkForeignWrong)

/-- 'glowwormlaw20.LinkAgain': WHATEVER THE INPUT: true; the input reads as it did. -/
def linkAgainSpec : ChangeSpec := { name := "linkAgain", fn := fun _ => fun
  | [d1, d2, d3] => { results := [.lit (.bool true)], args := [d1, d2, d3] }
  | _ => none }
def linkAgainRow : OpenClaim := { program := "ytbkgcdncdaeiaaagreatdoor", sum := "833b9ef0c6990b55c720e80dd3badd7822aa75e50ad5a7ca878ff02c8994883b", func := "glowworm/glowwormlaw20.LinkAgain", spec := "linkAgain", unfollowed := true, recurses := true, named := ["math/bits.deBruijn32tab", "unicode/utf8.first", "unicode/utf8.acceptRanges"], apart := false, laid := [("math/bits.deBruijn32tab", laid_math_bits_deBruijn32tab), ("unicode/utf8.acceptRanges", laid_unicode_utf8_acceptRanges), ("unicode/utf8.first", laid_unicode_utf8_first)] }
def LinkAgainSaid : Prop := linkAgainRow.holds Tryz.pinned (OpenSpec.ofChange linkAgainSpec)

/-- ITS FALSE NEIGHBOUR: 'it returns false'. Refute it at one input. -/
def linkAgainWrong : ChangeSpec := { name := "linkAgain", fn := fun _ => fun
  | [d1, d2, d3] => { results := [.lit (.bool false)], args := [d1, d2, d3] }
  | _ => none }
def LinkAgainWrongFalsely : Prop := linkAgainRow.holds Tryz.pinned (OpenSpec.ofChange linkAgainWrong)

/-- 'glowwormlaw20.LinkUnfree': WHATEVER THE INPUT: true; the input reads as it did. -/
def linkUnfreeSpec : ChangeSpec := { name := "linkUnfree", fn := fun _ => fun
  | [d1, d2, d3] => { results := [.lit (.bool true)], args := [d1, d2, d3] }
  | _ => none }
def linkUnfreeRow : OpenClaim := { program := "ytbkgcdncdaeiaaagreatdoor", sum := "833b9ef0c6990b55c720e80dd3badd7822aa75e50ad5a7ca878ff02c8994883b", func := "glowworm/glowwormlaw20.LinkUnfree", spec := "linkUnfree", unfollowed := true, recurses := true, named := ["math/bits.deBruijn32tab", "unicode/utf8.first", "unicode/utf8.acceptRanges"], apart := false, laid := [("math/bits.deBruijn32tab", laid_math_bits_deBruijn32tab), ("unicode/utf8.acceptRanges", laid_unicode_utf8_acceptRanges), ("unicode/utf8.first", laid_unicode_utf8_first)] }
def LinkUnfreeSaid : Prop := linkUnfreeRow.holds Tryz.pinned (OpenSpec.ofChange linkUnfreeSpec)

/-- ITS FALSE NEIGHBOUR: 'it returns false'. Refute it at one input. -/
def linkUnfreeWrong : ChangeSpec := { name := "linkUnfree", fn := fun _ => fun
  | [d1, d2, d3] => { results := [.lit (.bool false)], args := [d1, d2, d3] }
  | _ => none }
def LinkUnfreeWrongFalsely : Prop := linkUnfreeRow.holds Tryz.pinned (OpenSpec.ofChange linkUnfreeWrong)

/-- 'glowwormlaw20.LinkPoll': WHATEVER THE INPUT: true; the input reads as it did. -/
def linkPollSpec : ChangeSpec := { name := "linkPoll", fn := fun _ => fun
  | [d1, d2] => { results := [.lit (.bool true)], args := [d1, d2] }
  | _ => none }
def linkPollRow : OpenClaim := { program := "ytbkgcdncdaeiaaagreatdoor", sum := "833b9ef0c6990b55c720e80dd3badd7822aa75e50ad5a7ca878ff02c8994883b", func := "glowworm/glowwormlaw20.LinkPoll", spec := "linkPoll", unfollowed := true, recurses := true, named := ["math/bits.deBruijn32tab", "unicode/utf8.first", "unicode/utf8.acceptRanges"], apart := false, laid := [("math/bits.deBruijn32tab", laid_math_bits_deBruijn32tab), ("unicode/utf8.acceptRanges", laid_unicode_utf8_acceptRanges), ("unicode/utf8.first", laid_unicode_utf8_first)] }
def LinkPollSaid : Prop := linkPollRow.holds Tryz.pinned (OpenSpec.ofChange linkPollSpec)

/-- ITS FALSE NEIGHBOUR: 'it returns false'. Refute it at one input. -/
def linkPollWrong : ChangeSpec := { name := "linkPoll", fn := fun _ => fun
  | [d1, d2] => { results := [.lit (.bool false)], args := [d1, d2] }
  | _ => none }
def LinkPollWrongFalsely : Prop := linkPollRow.holds Tryz.pinned (OpenSpec.ofChange linkPollWrong)

/-- 'glowwormlaw20.LinkDisc': WHATEVER THE INPUT: true; the input reads as it did. -/
def linkDiscSpec : ChangeSpec := { name := "linkDisc", fn := fun _ => fun
  | [d1, d2] => { results := [.lit (.bool true)], args := [d1, d2] }
  | _ => none }
def linkDiscRow : OpenClaim := { program := "ytbkgcdncdaeiaaagreatdoor", sum := "833b9ef0c6990b55c720e80dd3badd7822aa75e50ad5a7ca878ff02c8994883b", func := "glowworm/glowwormlaw20.LinkDisc", spec := "linkDisc", unfollowed := true, recurses := true, named := ["math/bits.deBruijn32tab", "unicode/utf8.first", "unicode/utf8.acceptRanges"], apart := false, laid := [("math/bits.deBruijn32tab", laid_math_bits_deBruijn32tab), ("unicode/utf8.acceptRanges", laid_unicode_utf8_acceptRanges), ("unicode/utf8.first", laid_unicode_utf8_first)] }
def LinkDiscSaid : Prop := linkDiscRow.holds Tryz.pinned (OpenSpec.ofChange linkDiscSpec)

/-- ITS FALSE NEIGHBOUR: 'it returns false'. Refute it at one input. -/
def linkDiscWrong : ChangeSpec := { name := "linkDisc", fn := fun _ => fun
  | [d1, d2] => { results := [.lit (.bool false)], args := [d1, d2] }
  | _ => none }
def LinkDiscWrongFalsely : Prop := linkDiscRow.holds Tryz.pinned (OpenSpec.ofChange linkDiscWrong)

/-- 'glowwormlaw20.LinkReset': WHATEVER THE INPUT: true; the input reads as it did. -/
def linkResetSpec : ChangeSpec := { name := "linkReset", fn := fun _ => fun
  | [d1, d2, d3, d4] => { results := [.lit (.bool true)], args := [d1, d2, d3, d4] }
  | _ => none }
def linkResetRow : OpenClaim := { program := "ytbkgcdncdaeiaaagreatdoor", sum := "833b9ef0c6990b55c720e80dd3badd7822aa75e50ad5a7ca878ff02c8994883b", func := "glowworm/glowwormlaw20.LinkReset", spec := "linkReset", unfollowed := true, recurses := true, named := ["math/bits.deBruijn32tab", "unicode/utf8.first", "unicode/utf8.acceptRanges"], apart := false, laid := [("math/bits.deBruijn32tab", laid_math_bits_deBruijn32tab), ("unicode/utf8.acceptRanges", laid_unicode_utf8_acceptRanges), ("unicode/utf8.first", laid_unicode_utf8_first)] }
def LinkResetSaid : Prop := linkResetRow.holds Tryz.pinned (OpenSpec.ofChange linkResetSpec)

/-- ITS FALSE NEIGHBOUR: 'it returns false'. Refute it at one input. -/
def linkResetWrong : ChangeSpec := { name := "linkReset", fn := fun _ => fun
  | [d1, d2, d3, d4] => { results := [.lit (.bool false)], args := [d1, d2, d3, d4] }
  | _ => none }
def LinkResetWrongFalsely : Prop := linkResetRow.holds Tryz.pinned (OpenSpec.ofChange linkResetWrong)

/-- 'glowwormlaw20.LinkChange': WHATEVER THE INPUT: true; the input reads as it did. -/
def linkChangeSpec : ChangeSpec := { name := "linkChange", fn := fun _ => fun
  | [d1, d2, d3] => { results := [.lit (.bool true)], args := [d1, d2, d3] }
  | _ => none }
def linkChangeRow : OpenClaim := { program := "ytbkgcdncdaeiaaagreatdoor", sum := "833b9ef0c6990b55c720e80dd3badd7822aa75e50ad5a7ca878ff02c8994883b", func := "glowworm/glowwormlaw20.LinkChange", spec := "linkChange", unfollowed := true, recurses := true, named := ["math/bits.deBruijn32tab", "unicode/utf8.first", "unicode/utf8.acceptRanges"], apart := false, laid := [("math/bits.deBruijn32tab", laid_math_bits_deBruijn32tab), ("unicode/utf8.acceptRanges", laid_unicode_utf8_acceptRanges), ("unicode/utf8.first", laid_unicode_utf8_first)] }
def LinkChangeSaid : Prop := linkChangeRow.holds Tryz.pinned (OpenSpec.ofChange linkChangeSpec)

/-- ITS FALSE NEIGHBOUR: 'it returns false'. Refute it at one input. -/
def linkChangeWrong : ChangeSpec := { name := "linkChange", fn := fun _ => fun
  | [d1, d2, d3] => { results := [.lit (.bool false)], args := [d1, d2, d3] }
  | _ => none }
def LinkChangeWrongFalsely : Prop := linkChangeRow.holds Tryz.pinned (OpenSpec.ofChange linkChangeWrong)

/-- 'glowwormlaw20.LinkNext': WHATEVER THE INPUT: true; the input reads as it did. -/
def linkNextSpec : ChangeSpec := { name := "linkNext", fn := fun _ => fun
  | [d1, d2] => { results := [.lit (.bool true)], args := [d1, d2] }
  | _ => none }
def linkNextRow : OpenClaim := { program := "ytbkgcdncdaeiaaagreatdoor", sum := "833b9ef0c6990b55c720e80dd3badd7822aa75e50ad5a7ca878ff02c8994883b", func := "glowworm/glowwormlaw20.LinkNext", spec := "linkNext", unfollowed := true, recurses := true, named := ["math/bits.deBruijn32tab", "unicode/utf8.first", "unicode/utf8.acceptRanges"], apart := false, laid := [("math/bits.deBruijn32tab", laid_math_bits_deBruijn32tab), ("unicode/utf8.acceptRanges", laid_unicode_utf8_acceptRanges), ("unicode/utf8.first", laid_unicode_utf8_first)] }
def LinkNextSaid : Prop := linkNextRow.holds Tryz.pinned (OpenSpec.ofChange linkNextSpec)

/-- ITS FALSE NEIGHBOUR: 'it returns false'. Refute it at one input. -/
def linkNextWrong : ChangeSpec := { name := "linkNext", fn := fun _ => fun
  | [d1, d2] => { results := [.lit (.bool false)], args := [d1, d2] }
  | _ => none }
def LinkNextWrongFalsely : Prop := linkNextRow.holds Tryz.pinned (OpenSpec.ofChange linkNextWrong)

/-- 'glowwormlaw20.LinkMe': WHATEVER THE INPUT: true; the input reads as it did. -/
def linkMeSpec : ChangeSpec := { name := "linkMe", fn := fun _ => fun
  | [d1, d2, d3] => { results := [.lit (.bool true)], args := [d1, d2, d3] }
  | _ => none }
def linkMeRow : OpenClaim := { program := "ytbkgcdncdaeiaaagreatdoor", sum := "833b9ef0c6990b55c720e80dd3badd7822aa75e50ad5a7ca878ff02c8994883b", func := "glowworm/glowwormlaw20.LinkMe", spec := "linkMe", unfollowed := true, recurses := true, named := ["math/bits.deBruijn32tab", "unicode/utf8.first", "unicode/utf8.acceptRanges"], apart := false, laid := [("math/bits.deBruijn32tab", laid_math_bits_deBruijn32tab), ("unicode/utf8.acceptRanges", laid_unicode_utf8_acceptRanges), ("unicode/utf8.first", laid_unicode_utf8_first)] }
def LinkMeSaid : Prop := linkMeRow.holds Tryz.pinned (OpenSpec.ofChange linkMeSpec)

/-- ITS FALSE NEIGHBOUR: 'it returns false'. Refute it at one input. -/
def linkMeWrong : ChangeSpec := { name := "linkMe", fn := fun _ => fun
  | [d1, d2, d3] => { results := [.lit (.bool false)], args := [d1, d2, d3] }
  | _ => none }
def LinkMeWrongFalsely : Prop := linkMeRow.holds Tryz.pinned (OpenSpec.ofChange linkMeWrong)

/-- 'glowwormlaw20.StationXid': WHATEVER THE INPUT: true; the input reads as it did. -/
def stationXidSpec : ChangeSpec := { name := "stationXid", fn := fun _ => fun
  | [d1, d2, d3] => { results := [.lit (.bool true)], args := [d1, d2, d3] }
  | _ => none }
def stationXidRow : OpenClaim := { program := "ytbkgcdncdaeiaaagreatdoor", sum := "833b9ef0c6990b55c720e80dd3badd7822aa75e50ad5a7ca878ff02c8994883b", func := "glowworm/glowwormlaw20.StationXid", spec := "stationXid", unfollowed := true, recurses := true, named := ["math/bits.deBruijn32tab", "unicode/utf8.first", "unicode/utf8.acceptRanges"], apart := false, laid := [("math/bits.deBruijn32tab", laid_math_bits_deBruijn32tab), ("unicode/utf8.acceptRanges", laid_unicode_utf8_acceptRanges), ("unicode/utf8.first", laid_unicode_utf8_first)] }
def StationXidSaid : Prop := stationXidRow.holds Tryz.pinned (OpenSpec.ofChange stationXidSpec)

/-- ITS FALSE NEIGHBOUR: 'it returns false'. Refute it at one input. -/
def stationXidWrong : ChangeSpec := { name := "stationXid", fn := fun _ => fun
  | [d1, d2, d3] => { results := [.lit (.bool false)], args := [d1, d2, d3] }
  | _ => none }
def StationXidWrongFalsely : Prop := stationXidRow.holds Tryz.pinned (OpenSpec.ofChange stationXidWrong)

/-- 'glowwormlaw20.StationRound': WHATEVER THE INPUT: true; the input reads as it did. -/
def stationRoundSpec : ChangeSpec := { name := "stationRound", fn := fun _ => fun
  | [d1, d2] => { results := [.lit (.bool true)], args := [d1, d2] }
  | _ => none }
def stationRoundRow : OpenClaim := { program := "ytbkgcdncdaeiaaagreatdoor", sum := "833b9ef0c6990b55c720e80dd3badd7822aa75e50ad5a7ca878ff02c8994883b", func := "glowworm/glowwormlaw20.StationRound", spec := "stationRound", unfollowed := true, recurses := true, named := ["math/bits.deBruijn32tab", "unicode/utf8.first", "unicode/utf8.acceptRanges"], apart := false, laid := [("math/bits.deBruijn32tab", laid_math_bits_deBruijn32tab), ("unicode/utf8.acceptRanges", laid_unicode_utf8_acceptRanges), ("unicode/utf8.first", laid_unicode_utf8_first)] }
def StationRoundSaid : Prop := stationRoundRow.holds Tryz.pinned (OpenSpec.ofChange stationRoundSpec)

/-- ITS FALSE NEIGHBOUR: 'it returns false'. Refute it at one input. -/
def stationRoundWrong : ChangeSpec := { name := "stationRound", fn := fun _ => fun
  | [d1, d2] => { results := [.lit (.bool false)], args := [d1, d2] }
  | _ => none }
def StationRoundWrongFalsely : Prop := stationRoundRow.holds Tryz.pinned (OpenSpec.ofChange stationRoundWrong)

/- THE SECOND FORM. 'bulk': how many values and letters a reading holds, each counted each time it is reached (what is shared counts as often as it is met; a slice's spare places count too). A statement '..UptoSaid' is the law's where the arguments, and the package variables that the reading takes, are together of bulk at most 1048576: NARROWER than '..Said'. Prove '..Said' where nothing that the law and all that it calls make is longer than what came in: it says more and counts as full. Else prove '..UptoSaid'. A law counts once. -/
mutual
def uptoBulk {H : Type} : DataW H → Nat
  | .lit (.string bytes) => bytes.length + 1
  | .lit _ => 1
  | .nil => 1
  | .ptr d => uptoBulk d + 1
  | .slice elems spare => uptoBulkAll elems + uptoBulkAll spare + 1
  | .agg parts => uptoBulkAll parts + 1
  | .iface _ d => uptoBulk d + 1
  | .map entries => uptoBulkEntries entries + 1
  | .held _ => 1
def uptoBulkAll {H : Type} : List (DataW H) → Nat
  | [] => 0
  | d :: r => uptoBulk d + uptoBulkAll r
def uptoBulkEntries {H : Type} : List (Lit × DataW H) → Nat
  | [] => 0
  | x :: r => uptoBulkEntry x + uptoBulkEntries r
def uptoBulkEntry {H : Type} : Lit × DataW H → Nat
  | (.string bytes, d) => bytes.length + uptoBulk d + 1
  | (_, d) => uptoBulk d + 1
 end
def uptoSmall : (H : Type) → List (DataW H) → Bool := fun _ ds => decide (uptoBulkAll ds ≤ 1048576)
def OpenSpec.upto (s : _root_.Go.ChangeSpec) : _root_.Go.OpenSpec := { _root_.Go.OpenSpec.ofChange s with cond := some uptoSmall }

/-- 'glowwormlaw20.LinkSilence', WHERE WHAT IT READS IS OF BULK AT MOST 1048576: true; the input reads as it did. -/
def linkSilenceUptoRow : OpenClaim := { program := "ytbkgcdncdaeiaaagreatdoor", sum := "833b9ef0c6990b55c720e80dd3badd7822aa75e50ad5a7ca878ff02c8994883b", func := "glowworm/glowwormlaw20.LinkSilence", spec := "linkSilence", unfollowed := true, recurses := true, named := ["math/bits.deBruijn32tab", "unicode/utf8.first", "unicode/utf8.acceptRanges"], apart := false, laid := [("math/bits.deBruijn32tab", laid_math_bits_deBruijn32tab), ("unicode/utf8.acceptRanges", laid_unicode_utf8_acceptRanges), ("unicode/utf8.first", laid_unicode_utf8_first)], narrowed := true }
def LinkSilenceUptoSaid : Prop := linkSilenceUptoRow.holds Tryz.pinned (OpenSpec.upto linkSilenceSpec)

/-- 'glowwormlaw20.LinkPair', WHERE WHAT IT READS IS OF BULK AT MOST 1048576: true; the input reads as it did. -/
def linkPairUptoRow : OpenClaim := { program := "ytbkgcdncdaeiaaagreatdoor", sum := "833b9ef0c6990b55c720e80dd3badd7822aa75e50ad5a7ca878ff02c8994883b", func := "glowworm/glowwormlaw20.LinkPair", spec := "linkPair", unfollowed := true, recurses := true, named := ["math/bits.deBruijn32tab", "unicode/utf8.first", "unicode/utf8.acceptRanges"], apart := false, laid := [("math/bits.deBruijn32tab", laid_math_bits_deBruijn32tab), ("unicode/utf8.acceptRanges", laid_unicode_utf8_acceptRanges), ("unicode/utf8.first", laid_unicode_utf8_first)], narrowed := true }
def LinkPairUptoSaid : Prop := linkPairUptoRow.holds Tryz.pinned (OpenSpec.upto linkPairSpec)

/-- 'glowwormlaw20.LinkBrings', WHERE WHAT IT READS IS OF BULK AT MOST 1048576: true; the input reads as it did. -/
def linkBringsUptoRow : OpenClaim := { program := "ytbkgcdncdaeiaaagreatdoor", sum := "833b9ef0c6990b55c720e80dd3badd7822aa75e50ad5a7ca878ff02c8994883b", func := "glowworm/glowwormlaw20.LinkBrings", spec := "linkBrings", unfollowed := true, recurses := true, named := ["math/bits.deBruijn32tab", "unicode/utf8.first", "unicode/utf8.acceptRanges"], apart := false, laid := [("math/bits.deBruijn32tab", laid_math_bits_deBruijn32tab), ("unicode/utf8.acceptRanges", laid_unicode_utf8_acceptRanges), ("unicode/utf8.first", laid_unicode_utf8_first)], narrowed := true }
def LinkBringsUptoSaid : Prop := linkBringsUptoRow.holds Tryz.pinned (OpenSpec.upto linkBringsSpec)

/-- 'glowwormlaw20.LinkCall', WHERE WHAT IT READS IS OF BULK AT MOST 1048576: true; the input reads as it did. -/
def linkCallUptoRow : OpenClaim := { program := "ytbkgcdncdaeiaaagreatdoor", sum := "833b9ef0c6990b55c720e80dd3badd7822aa75e50ad5a7ca878ff02c8994883b", func := "glowworm/glowwormlaw20.LinkCall", spec := "linkCall", unfollowed := true, recurses := true, named := ["math/bits.deBruijn32tab", "unicode/utf8.first", "unicode/utf8.acceptRanges"], apart := false, laid := [("math/bits.deBruijn32tab", laid_math_bits_deBruijn32tab), ("unicode/utf8.acceptRanges", laid_unicode_utf8_acceptRanges), ("unicode/utf8.first", laid_unicode_utf8_first)], narrowed := true }
def LinkCallUptoSaid : Prop := linkCallUptoRow.holds Tryz.pinned (OpenSpec.upto linkCallSpec)

/-- 'glowwormlaw20.LinkAsk', WHERE WHAT IT READS IS OF BULK AT MOST 1048576: true; the input reads as it did. -/
def linkAskUptoRow : OpenClaim := { program := "ytbkgcdncdaeiaaagreatdoor", sum := "833b9ef0c6990b55c720e80dd3badd7822aa75e50ad5a7ca878ff02c8994883b", func := "glowworm/glowwormlaw20.LinkAsk", spec := "linkAsk", unfollowed := true, recurses := true, named := ["math/bits.deBruijn32tab", "unicode/utf8.first", "unicode/utf8.acceptRanges"], apart := false, laid := [("math/bits.deBruijn32tab", laid_math_bits_deBruijn32tab), ("unicode/utf8.acceptRanges", laid_unicode_utf8_acceptRanges), ("unicode/utf8.first", laid_unicode_utf8_first)], narrowed := true }
def LinkAskUptoSaid : Prop := linkAskUptoRow.holds Tryz.pinned (OpenSpec.upto linkAskSpec)

/-- 'glowwormlaw20.LinkForeign', WHERE WHAT IT READS IS OF BULK AT MOST 1048576: true; the input reads as it did. -/
def linkForeignUptoRow : OpenClaim := { program := "ytbkgcdncdaeiaaagreatdoor", sum := "833b9ef0c6990b55c720e80dd3badd7822aa75e50ad5a7ca878ff02c8994883b", func := "glowworm/glowwormlaw20.LinkForeign", spec := "linkForeign", unfollowed := true, recurses := true, named := ["math/bits.deBruijn32tab", "unicode/utf8.first", "unicode/utf8.acceptRanges"], apart := false, laid := [("math/bits.deBruijn32tab", laid_math_bits_deBruijn32tab), ("unicode/utf8.acceptRanges", laid_unicode_utf8_acceptRanges), ("unicode/utf8.first", laid_unicode_utf8_first)], narrowed := true }
def LinkForeignUptoSaid : Prop := linkForeignUptoRow.holds Tryz.pinned (OpenSpec.upto linkForeignSpec)

/-- 'glowwormlaw20.LinkAgain', WHERE WHAT IT READS IS OF BULK AT MOST 1048576: true; the input reads as it did. -/
def linkAgainUptoRow : OpenClaim := { program := "ytbkgcdncdaeiaaagreatdoor", sum := "833b9ef0c6990b55c720e80dd3badd7822aa75e50ad5a7ca878ff02c8994883b", func := "glowworm/glowwormlaw20.LinkAgain", spec := "linkAgain", unfollowed := true, recurses := true, named := ["math/bits.deBruijn32tab", "unicode/utf8.first", "unicode/utf8.acceptRanges"], apart := false, laid := [("math/bits.deBruijn32tab", laid_math_bits_deBruijn32tab), ("unicode/utf8.acceptRanges", laid_unicode_utf8_acceptRanges), ("unicode/utf8.first", laid_unicode_utf8_first)], narrowed := true }
def LinkAgainUptoSaid : Prop := linkAgainUptoRow.holds Tryz.pinned (OpenSpec.upto linkAgainSpec)

/-- 'glowwormlaw20.LinkUnfree', WHERE WHAT IT READS IS OF BULK AT MOST 1048576: true; the input reads as it did. -/
def linkUnfreeUptoRow : OpenClaim := { program := "ytbkgcdncdaeiaaagreatdoor", sum := "833b9ef0c6990b55c720e80dd3badd7822aa75e50ad5a7ca878ff02c8994883b", func := "glowworm/glowwormlaw20.LinkUnfree", spec := "linkUnfree", unfollowed := true, recurses := true, named := ["math/bits.deBruijn32tab", "unicode/utf8.first", "unicode/utf8.acceptRanges"], apart := false, laid := [("math/bits.deBruijn32tab", laid_math_bits_deBruijn32tab), ("unicode/utf8.acceptRanges", laid_unicode_utf8_acceptRanges), ("unicode/utf8.first", laid_unicode_utf8_first)], narrowed := true }
def LinkUnfreeUptoSaid : Prop := linkUnfreeUptoRow.holds Tryz.pinned (OpenSpec.upto linkUnfreeSpec)

/-- 'glowwormlaw20.LinkPoll', WHERE WHAT IT READS IS OF BULK AT MOST 1048576: true; the input reads as it did. -/
def linkPollUptoRow : OpenClaim := { program := "ytbkgcdncdaeiaaagreatdoor", sum := "833b9ef0c6990b55c720e80dd3badd7822aa75e50ad5a7ca878ff02c8994883b", func := "glowworm/glowwormlaw20.LinkPoll", spec := "linkPoll", unfollowed := true, recurses := true, named := ["math/bits.deBruijn32tab", "unicode/utf8.first", "unicode/utf8.acceptRanges"], apart := false, laid := [("math/bits.deBruijn32tab", laid_math_bits_deBruijn32tab), ("unicode/utf8.acceptRanges", laid_unicode_utf8_acceptRanges), ("unicode/utf8.first", laid_unicode_utf8_first)], narrowed := true }
def LinkPollUptoSaid : Prop := linkPollUptoRow.holds Tryz.pinned (OpenSpec.upto linkPollSpec)

/-- 'glowwormlaw20.LinkDisc', WHERE WHAT IT READS IS OF BULK AT MOST 1048576: true; the input reads as it did. -/
def linkDiscUptoRow : OpenClaim := { program := "ytbkgcdncdaeiaaagreatdoor", sum := "833b9ef0c6990b55c720e80dd3badd7822aa75e50ad5a7ca878ff02c8994883b", func := "glowworm/glowwormlaw20.LinkDisc", spec := "linkDisc", unfollowed := true, recurses := true, named := ["math/bits.deBruijn32tab", "unicode/utf8.first", "unicode/utf8.acceptRanges"], apart := false, laid := [("math/bits.deBruijn32tab", laid_math_bits_deBruijn32tab), ("unicode/utf8.acceptRanges", laid_unicode_utf8_acceptRanges), ("unicode/utf8.first", laid_unicode_utf8_first)], narrowed := true }
def LinkDiscUptoSaid : Prop := linkDiscUptoRow.holds Tryz.pinned (OpenSpec.upto linkDiscSpec)

/-- 'glowwormlaw20.LinkReset', WHERE WHAT IT READS IS OF BULK AT MOST 1048576: true; the input reads as it did. -/
def linkResetUptoRow : OpenClaim := { program := "ytbkgcdncdaeiaaagreatdoor", sum := "833b9ef0c6990b55c720e80dd3badd7822aa75e50ad5a7ca878ff02c8994883b", func := "glowworm/glowwormlaw20.LinkReset", spec := "linkReset", unfollowed := true, recurses := true, named := ["math/bits.deBruijn32tab", "unicode/utf8.first", "unicode/utf8.acceptRanges"], apart := false, laid := [("math/bits.deBruijn32tab", laid_math_bits_deBruijn32tab), ("unicode/utf8.acceptRanges", laid_unicode_utf8_acceptRanges), ("unicode/utf8.first", laid_unicode_utf8_first)], narrowed := true }
def LinkResetUptoSaid : Prop := linkResetUptoRow.holds Tryz.pinned (OpenSpec.upto linkResetSpec)

/-- 'glowwormlaw20.LinkChange', WHERE WHAT IT READS IS OF BULK AT MOST 1048576: true; the input reads as it did. -/
def linkChangeUptoRow : OpenClaim := { program := "ytbkgcdncdaeiaaagreatdoor", sum := "833b9ef0c6990b55c720e80dd3badd7822aa75e50ad5a7ca878ff02c8994883b", func := "glowworm/glowwormlaw20.LinkChange", spec := "linkChange", unfollowed := true, recurses := true, named := ["math/bits.deBruijn32tab", "unicode/utf8.first", "unicode/utf8.acceptRanges"], apart := false, laid := [("math/bits.deBruijn32tab", laid_math_bits_deBruijn32tab), ("unicode/utf8.acceptRanges", laid_unicode_utf8_acceptRanges), ("unicode/utf8.first", laid_unicode_utf8_first)], narrowed := true }
def LinkChangeUptoSaid : Prop := linkChangeUptoRow.holds Tryz.pinned (OpenSpec.upto linkChangeSpec)

/-- 'glowwormlaw20.LinkNext', WHERE WHAT IT READS IS OF BULK AT MOST 1048576: true; the input reads as it did. -/
def linkNextUptoRow : OpenClaim := { program := "ytbkgcdncdaeiaaagreatdoor", sum := "833b9ef0c6990b55c720e80dd3badd7822aa75e50ad5a7ca878ff02c8994883b", func := "glowworm/glowwormlaw20.LinkNext", spec := "linkNext", unfollowed := true, recurses := true, named := ["math/bits.deBruijn32tab", "unicode/utf8.first", "unicode/utf8.acceptRanges"], apart := false, laid := [("math/bits.deBruijn32tab", laid_math_bits_deBruijn32tab), ("unicode/utf8.acceptRanges", laid_unicode_utf8_acceptRanges), ("unicode/utf8.first", laid_unicode_utf8_first)], narrowed := true }
def LinkNextUptoSaid : Prop := linkNextUptoRow.holds Tryz.pinned (OpenSpec.upto linkNextSpec)

/-- 'glowwormlaw20.LinkMe', WHERE WHAT IT READS IS OF BULK AT MOST 1048576: true; the input reads as it did. -/
def linkMeUptoRow : OpenClaim := { program := "ytbkgcdncdaeiaaagreatdoor", sum := "833b9ef0c6990b55c720e80dd3badd7822aa75e50ad5a7ca878ff02c8994883b", func := "glowworm/glowwormlaw20.LinkMe", spec := "linkMe", unfollowed := true, recurses := true, named := ["math/bits.deBruijn32tab", "unicode/utf8.first", "unicode/utf8.acceptRanges"], apart := false, laid := [("math/bits.deBruijn32tab", laid_math_bits_deBruijn32tab), ("unicode/utf8.acceptRanges", laid_unicode_utf8_acceptRanges), ("unicode/utf8.first", laid_unicode_utf8_first)], narrowed := true }
def LinkMeUptoSaid : Prop := linkMeUptoRow.holds Tryz.pinned (OpenSpec.upto linkMeSpec)

/-- 'glowwormlaw20.StationXid', WHERE WHAT IT READS IS OF BULK AT MOST 1048576: true; the input reads as it did. -/
def stationXidUptoRow : OpenClaim := { program := "ytbkgcdncdaeiaaagreatdoor", sum := "833b9ef0c6990b55c720e80dd3badd7822aa75e50ad5a7ca878ff02c8994883b", func := "glowworm/glowwormlaw20.StationXid", spec := "stationXid", unfollowed := true, recurses := true, named := ["math/bits.deBruijn32tab", "unicode/utf8.first", "unicode/utf8.acceptRanges"], apart := false, laid := [("math/bits.deBruijn32tab", laid_math_bits_deBruijn32tab), ("unicode/utf8.acceptRanges", laid_unicode_utf8_acceptRanges), ("unicode/utf8.first", laid_unicode_utf8_first)], narrowed := true }
def StationXidUptoSaid : Prop := stationXidUptoRow.holds Tryz.pinned (OpenSpec.upto stationXidSpec)

/-- 'glowwormlaw20.StationRound', WHERE WHAT IT READS IS OF BULK AT MOST 1048576: true; the input reads as it did. -/
def stationRoundUptoRow : OpenClaim := { program := "ytbkgcdncdaeiaaagreatdoor", sum := "833b9ef0c6990b55c720e80dd3badd7822aa75e50ad5a7ca878ff02c8994883b", func := "glowworm/glowwormlaw20.StationRound", spec := "stationRound", unfollowed := true, recurses := true, named := ["math/bits.deBruijn32tab", "unicode/utf8.first", "unicode/utf8.acceptRanges"], apart := false, laid := [("math/bits.deBruijn32tab", laid_math_bits_deBruijn32tab), ("unicode/utf8.acceptRanges", laid_unicode_utf8_acceptRanges), ("unicode/utf8.first", laid_unicode_utf8_first)], narrowed := true }
def StationRoundUptoSaid : Prop := stationRoundUptoRow.holds Tryz.pinned (OpenSpec.upto stationRoundSpec)

end Rows
end Go.Proofs.YtbkgcdncdaeiaaaGreatDoor
