/-
  NARROWER THAN 'FOR EVERY INPUT', by the rows' own cells (each row's printed sentence says how): ReplyAll: laid · ReplyOnce: laid · BoxAll: laid · LogClash: laid · QueryTimes: laid · QueryDeaf: laid · ReplyAnew: laid · ReplyLate: laid · BoxOrder: laid · BoxTurn: laid · QueryOwn: laid · ReplyTwo: laid · QueryAll: laid · BoxNone: laid · LogOrder: laid.
  DERIVED. THE GIVEN ROWS OF THIS SEAT. 15 by the template 'for every input the law returns true; each argument reads behind the call as it read before'; 0 by the template 'total and deterministic' (their statements: YtjnhaaolbcmdbaaGreatDoorTotals.lean).
  GIVEN WITH THE SEED: the statements are not yours to turn. If you find one false, say at which input.
  Laid BY PROGRAM, IN A SANDBOX (cutbox-rows.mjs): the forced cells as the released guide's own fill.sh prints them over the translation e9b9c54bc80864ff… (all of the seat's roots in one cut). By AI agents, Wed Nov 11 2026. No macro, syntax, notation, axiom, sorry.
-/
import Derived.Test.YtjnhaaolbcmdbaaGreatDoorChecked
import GoSem.PinnedTables
import GoSem.Claim
import GoSem.ClaimJoined
import GoSem.ClaimMapViews
import Derived.JoinedTies
import Derived.KernelRfl
namespace Go.Proofs.YtjnhaaolbcmdbaaGreatDoor
/- THE CELL 'sum', in the pinned program and in every row, IS THE sha256 OF THE DUMP (.gsa) THAT YtjnhaaolbcmdbaaGreatDoorProg.lean LOADS. Nothing in Lean hashes anything: it is a label: what it is worth is what the hold of that sum in a sandbox is worth. -/
noncomputable def Tryz.pinned : Pinned := { name := "ytjnhaaolbcmdbaagreatdoor", sum := "e9b9c54bc80864ff8e436cc2ecbca3142a97ca4a88cdce6c15e82b9c0ef435c5", checked := Tryz.checked }
namespace Rows
def none {H : Type} : Left H := { results := [], args := [] }

/- WHAT THE LISTED PACKAGE-LEVEL VARIABLES READ AS WHEN THE CALL BEGINS. Each datum BY PROGRAM (the guide's laid-datum.mjs) off the statement by which the dump's own 'gosem.cut.vars' lays the variable. In a bare row this is a premise. The card (YtjnhaaolbcmdbaaGreatDoorCards.lean) ties it to the program's text. -/
def laid_math_bits_deBruijn32tab {H : Type} : DataW H := .agg [.lit (.int .u8 0), .lit (.int .u8 1), .lit (.int .u8 28), .lit (.int .u8 2), .lit (.int .u8 29), .lit (.int .u8 14), .lit (.int .u8 24), .lit (.int .u8 3), .lit (.int .u8 30), .lit (.int .u8 22), .lit (.int .u8 20), .lit (.int .u8 15), .lit (.int .u8 25), .lit (.int .u8 17), .lit (.int .u8 4), .lit (.int .u8 8), .lit (.int .u8 31), .lit (.int .u8 27), .lit (.int .u8 13), .lit (.int .u8 23), .lit (.int .u8 21), .lit (.int .u8 19), .lit (.int .u8 16), .lit (.int .u8 7), .lit (.int .u8 26), .lit (.int .u8 12), .lit (.int .u8 18), .lit (.int .u8 6), .lit (.int .u8 11), .lit (.int .u8 5), .lit (.int .u8 10), .lit (.int .u8 9)]
def laid_unicode_utf8_acceptRanges {H : Type} : DataW H := .agg [.agg [.lit (.int .u8 128), .lit (.int .u8 191)], .agg [.lit (.int .u8 160), .lit (.int .u8 191)], .agg [.lit (.int .u8 128), .lit (.int .u8 159)], .agg [.lit (.int .u8 144), .lit (.int .u8 191)], .agg [.lit (.int .u8 128), .lit (.int .u8 143)], .agg [.lit (.int .u8 0), .lit (.int .u8 0)], .agg [.lit (.int .u8 0), .lit (.int .u8 0)], .agg [.lit (.int .u8 0), .lit (.int .u8 0)], .agg [.lit (.int .u8 0), .lit (.int .u8 0)], .agg [.lit (.int .u8 0), .lit (.int .u8 0)], .agg [.lit (.int .u8 0), .lit (.int .u8 0)], .agg [.lit (.int .u8 0), .lit (.int .u8 0)], .agg [.lit (.int .u8 0), .lit (.int .u8 0)], .agg [.lit (.int .u8 0), .lit (.int .u8 0)], .agg [.lit (.int .u8 0), .lit (.int .u8 0)], .agg [.lit (.int .u8 0), .lit (.int .u8 0)]]
/-- One of Go's own tables, pinned by name: the form's constant. -/
def laid_unicode_utf8_first : DataW Unit := Go.Pinned.utf8First

/-- 'glowwormlaw16.ReplyAll': WHATEVER THE INPUT: true; the input reads as it did. -/
def replyAllSpec : ChangeSpec := { name := "replyAll", fn := fun _ => fun
  | [d1, d2, d3, d4] => { results := [.lit (.bool true)], args := [d1, d2, d3, d4] }
  | _ => none }
def replyAllRow : OpenClaim := { program := "ytjnhaaolbcmdbaagreatdoor", sum := "e9b9c54bc80864ff8e436cc2ecbca3142a97ca4a88cdce6c15e82b9c0ef435c5", func := "glowworm/glowwormlaw16.ReplyAll", spec := "replyAll", unfollowed := true, recurses := true, named := ["math/bits.deBruijn32tab", "unicode/utf8.first", "unicode/utf8.acceptRanges"], apart := false, laid := [("math/bits.deBruijn32tab", laid_math_bits_deBruijn32tab), ("unicode/utf8.acceptRanges", laid_unicode_utf8_acceptRanges), ("unicode/utf8.first", laid_unicode_utf8_first)] }
def ReplyAllSaid : Prop := replyAllRow.holds Tryz.pinned (OpenSpec.ofChange replyAllSpec)

/-- ITS FALSE NEIGHBOUR: 'it returns false'. Refute it at one input. -/
def replyAllWrong : ChangeSpec := { name := "replyAll", fn := fun _ => fun
  | [d1, d2, d3, d4] => { results := [.lit (.bool false)], args := [d1, d2, d3, d4] }
  | _ => none }
def ReplyAllWrongFalsely : Prop := replyAllRow.holds Tryz.pinned (OpenSpec.ofChange replyAllWrong)

/-- 'glowwormlaw16.ReplyOnce': WHATEVER THE INPUT: true; the input reads as it did. -/
def replyOnceSpec : ChangeSpec := { name := "replyOnce", fn := fun _ => fun
  | [d1, d2, d3, d4] => { results := [.lit (.bool true)], args := [d1, d2, d3, d4] }
  | _ => none }
def replyOnceRow : OpenClaim := { program := "ytjnhaaolbcmdbaagreatdoor", sum := "e9b9c54bc80864ff8e436cc2ecbca3142a97ca4a88cdce6c15e82b9c0ef435c5", func := "glowworm/glowwormlaw16.ReplyOnce", spec := "replyOnce", unfollowed := true, recurses := true, named := ["math/bits.deBruijn32tab", "unicode/utf8.first", "unicode/utf8.acceptRanges"], apart := false, laid := [("math/bits.deBruijn32tab", laid_math_bits_deBruijn32tab), ("unicode/utf8.acceptRanges", laid_unicode_utf8_acceptRanges), ("unicode/utf8.first", laid_unicode_utf8_first)] }
def ReplyOnceSaid : Prop := replyOnceRow.holds Tryz.pinned (OpenSpec.ofChange replyOnceSpec)

/-- ITS FALSE NEIGHBOUR: 'it returns false'. Refute it at one input. -/
def replyOnceWrong : ChangeSpec := { name := "replyOnce", fn := fun _ => fun
  | [d1, d2, d3, d4] => { results := [.lit (.bool false)], args := [d1, d2, d3, d4] }
  | _ => none }
def ReplyOnceWrongFalsely : Prop := replyOnceRow.holds Tryz.pinned (OpenSpec.ofChange replyOnceWrong)

/-- 'glowwormlaw16.BoxAll': WHATEVER THE INPUT: true; the input reads as it did. -/
def boxAllSpec : ChangeSpec := { name := "boxAll", fn := fun _ => fun
  | [d1, d2] => { results := [.lit (.bool true)], args := [d1, d2] }
  | _ => none }
def boxAllRow : OpenClaim := { program := "ytjnhaaolbcmdbaagreatdoor", sum := "e9b9c54bc80864ff8e436cc2ecbca3142a97ca4a88cdce6c15e82b9c0ef435c5", func := "glowworm/glowwormlaw16.BoxAll", spec := "boxAll", unfollowed := true, recurses := true, named := ["math/bits.deBruijn32tab", "unicode/utf8.first", "unicode/utf8.acceptRanges"], apart := false, laid := [("math/bits.deBruijn32tab", laid_math_bits_deBruijn32tab), ("unicode/utf8.acceptRanges", laid_unicode_utf8_acceptRanges), ("unicode/utf8.first", laid_unicode_utf8_first)] }
def BoxAllSaid : Prop := boxAllRow.holds Tryz.pinned (OpenSpec.ofChange boxAllSpec)

/-- ITS FALSE NEIGHBOUR: 'it returns false'. Refute it at one input. -/
def boxAllWrong : ChangeSpec := { name := "boxAll", fn := fun _ => fun
  | [d1, d2] => { results := [.lit (.bool false)], args := [d1, d2] }
  | _ => none }
def BoxAllWrongFalsely : Prop := boxAllRow.holds Tryz.pinned (OpenSpec.ofChange boxAllWrong)

/-- 'glowwormlaw16.LogClash': WHATEVER THE INPUT: true; the input reads as it did. -/
def logClashSpec : ChangeSpec := { name := "logClash", fn := fun _ => fun
  | [d1, d2, d3] => { results := [.lit (.bool true)], args := [d1, d2, d3] }
  | _ => none }
def logClashRow : OpenClaim := { program := "ytjnhaaolbcmdbaagreatdoor", sum := "e9b9c54bc80864ff8e436cc2ecbca3142a97ca4a88cdce6c15e82b9c0ef435c5", func := "glowworm/glowwormlaw16.LogClash", spec := "logClash", unfollowed := true, recurses := true, named := ["math/bits.deBruijn32tab", "unicode/utf8.first", "unicode/utf8.acceptRanges"], apart := false, laid := [("math/bits.deBruijn32tab", laid_math_bits_deBruijn32tab), ("unicode/utf8.acceptRanges", laid_unicode_utf8_acceptRanges), ("unicode/utf8.first", laid_unicode_utf8_first)] }
def LogClashSaid : Prop := logClashRow.holds Tryz.pinned (OpenSpec.ofChange logClashSpec)

/-- ITS FALSE NEIGHBOUR: 'it returns false'. Refute it at one input. -/
def logClashWrong : ChangeSpec := { name := "logClash", fn := fun _ => fun
  | [d1, d2, d3] => { results := [.lit (.bool false)], args := [d1, d2, d3] }
  | _ => none }
def LogClashWrongFalsely : Prop := logClashRow.holds Tryz.pinned (OpenSpec.ofChange logClashWrong)

/-- 'glowwormlaw16.QueryTimes': WHATEVER THE INPUT: true; the input reads as it did. -/
def queryTimesSpec : ChangeSpec := { name := "queryTimes", fn := fun _ => fun
  | [d1, d2] => { results := [.lit (.bool true)], args := [d1, d2] }
  | _ => none }
def queryTimesRow : OpenClaim := { program := "ytjnhaaolbcmdbaagreatdoor", sum := "e9b9c54bc80864ff8e436cc2ecbca3142a97ca4a88cdce6c15e82b9c0ef435c5", func := "glowworm/glowwormlaw16.QueryTimes", spec := "queryTimes", unfollowed := true, recurses := true, named := ["math/bits.deBruijn32tab", "unicode/utf8.first", "unicode/utf8.acceptRanges"], apart := false, laid := [("math/bits.deBruijn32tab", laid_math_bits_deBruijn32tab), ("unicode/utf8.acceptRanges", laid_unicode_utf8_acceptRanges), ("unicode/utf8.first", laid_unicode_utf8_first)] }
def QueryTimesSaid : Prop := queryTimesRow.holds Tryz.pinned (OpenSpec.ofChange queryTimesSpec)

/-- ITS FALSE NEIGHBOUR: 'it returns false'. Refute it at one input. -/
def queryTimesWrong : ChangeSpec := { name := "queryTimes", fn := fun _ => fun
  | [d1, d2] => { results := [.lit (.bool false)], args := [d1, d2] }
  | _ => none }
def QueryTimesWrongFalsely : Prop := queryTimesRow.holds Tryz.pinned (OpenSpec.ofChange queryTimesWrong)

/-- 'glowwormlaw16.QueryDeaf': WHATEVER THE INPUT: true; the input reads as it did. -/
def queryDeafSpec : ChangeSpec := { name := "queryDeaf", fn := fun _ => fun
  | [d1, d2, d3] => { results := [.lit (.bool true)], args := [d1, d2, d3] }
  | _ => none }
def queryDeafRow : OpenClaim := { program := "ytjnhaaolbcmdbaagreatdoor", sum := "e9b9c54bc80864ff8e436cc2ecbca3142a97ca4a88cdce6c15e82b9c0ef435c5", func := "glowworm/glowwormlaw16.QueryDeaf", spec := "queryDeaf", unfollowed := true, recurses := true, named := ["math/bits.deBruijn32tab", "unicode/utf8.first", "unicode/utf8.acceptRanges"], apart := false, laid := [("math/bits.deBruijn32tab", laid_math_bits_deBruijn32tab), ("unicode/utf8.acceptRanges", laid_unicode_utf8_acceptRanges), ("unicode/utf8.first", laid_unicode_utf8_first)] }
def QueryDeafSaid : Prop := queryDeafRow.holds Tryz.pinned (OpenSpec.ofChange queryDeafSpec)

/-- ITS FALSE NEIGHBOUR: 'it returns false'. Refute it at one input. -/
def queryDeafWrong : ChangeSpec := { name := "queryDeaf", fn := fun _ => fun
  | [d1, d2, d3] => { results := [.lit (.bool false)], args := [d1, d2, d3] }
  | _ => none }
def QueryDeafWrongFalsely : Prop := queryDeafRow.holds Tryz.pinned (OpenSpec.ofChange queryDeafWrong)

/-- 'glowwormlaw16.ReplyAnew': WHATEVER THE INPUT: true; the input reads as it did. -/
def replyAnewSpec : ChangeSpec := { name := "replyAnew", fn := fun _ => fun
  | [d1, d2, d3] => { results := [.lit (.bool true)], args := [d1, d2, d3] }
  | _ => none }
def replyAnewRow : OpenClaim := { program := "ytjnhaaolbcmdbaagreatdoor", sum := "e9b9c54bc80864ff8e436cc2ecbca3142a97ca4a88cdce6c15e82b9c0ef435c5", func := "glowworm/glowwormlaw16.ReplyAnew", spec := "replyAnew", unfollowed := true, recurses := true, named := ["math/bits.deBruijn32tab", "unicode/utf8.first", "unicode/utf8.acceptRanges"], apart := false, laid := [("math/bits.deBruijn32tab", laid_math_bits_deBruijn32tab), ("unicode/utf8.acceptRanges", laid_unicode_utf8_acceptRanges), ("unicode/utf8.first", laid_unicode_utf8_first)] }
def ReplyAnewSaid : Prop := replyAnewRow.holds Tryz.pinned (OpenSpec.ofChange replyAnewSpec)

/-- ITS FALSE NEIGHBOUR: 'it returns false'. Refute it at one input. -/
def replyAnewWrong : ChangeSpec := { name := "replyAnew", fn := fun _ => fun
  | [d1, d2, d3] => { results := [.lit (.bool false)], args := [d1, d2, d3] }
  | _ => none }
def ReplyAnewWrongFalsely : Prop := replyAnewRow.holds Tryz.pinned (OpenSpec.ofChange replyAnewWrong)

/-- 'glowwormlaw16.ReplyLate': WHATEVER THE INPUT: true; the input reads as it did. -/
def replyLateSpec : ChangeSpec := { name := "replyLate", fn := fun _ => fun
  | [d1, d2, d3, d4] => { results := [.lit (.bool true)], args := [d1, d2, d3, d4] }
  | _ => none }
def replyLateRow : OpenClaim := { program := "ytjnhaaolbcmdbaagreatdoor", sum := "e9b9c54bc80864ff8e436cc2ecbca3142a97ca4a88cdce6c15e82b9c0ef435c5", func := "glowworm/glowwormlaw16.ReplyLate", spec := "replyLate", unfollowed := true, recurses := true, named := ["math/bits.deBruijn32tab", "unicode/utf8.first", "unicode/utf8.acceptRanges"], apart := false, laid := [("math/bits.deBruijn32tab", laid_math_bits_deBruijn32tab), ("unicode/utf8.acceptRanges", laid_unicode_utf8_acceptRanges), ("unicode/utf8.first", laid_unicode_utf8_first)] }
def ReplyLateSaid : Prop := replyLateRow.holds Tryz.pinned (OpenSpec.ofChange replyLateSpec)

/-- ITS FALSE NEIGHBOUR: 'it returns false'. Refute it at one input. -/
def replyLateWrong : ChangeSpec := { name := "replyLate", fn := fun _ => fun
  | [d1, d2, d3, d4] => { results := [.lit (.bool false)], args := [d1, d2, d3, d4] }
  | _ => none }
def ReplyLateWrongFalsely : Prop := replyLateRow.holds Tryz.pinned (OpenSpec.ofChange replyLateWrong)

/-- 'glowwormlaw16.BoxOrder': WHATEVER THE INPUT: true; the input reads as it did. -/
def boxOrderSpec : ChangeSpec := { name := "boxOrder", fn := fun _ => fun
  | [d] => { results := [.lit (.bool true)], args := [d] }
  | _ => none }
def boxOrderRow : OpenClaim := { program := "ytjnhaaolbcmdbaagreatdoor", sum := "e9b9c54bc80864ff8e436cc2ecbca3142a97ca4a88cdce6c15e82b9c0ef435c5", func := "glowworm/glowwormlaw16.BoxOrder", spec := "boxOrder", unfollowed := true, recurses := true, named := ["math/bits.deBruijn32tab", "unicode/utf8.first", "unicode/utf8.acceptRanges"], apart := false, laid := [("math/bits.deBruijn32tab", laid_math_bits_deBruijn32tab), ("unicode/utf8.acceptRanges", laid_unicode_utf8_acceptRanges), ("unicode/utf8.first", laid_unicode_utf8_first)] }
def BoxOrderSaid : Prop := boxOrderRow.holds Tryz.pinned (OpenSpec.ofChange boxOrderSpec)

/-- ITS FALSE NEIGHBOUR: 'it returns false'. Refute it at one input. -/
def boxOrderWrong : ChangeSpec := { name := "boxOrder", fn := fun _ => fun
  | [d] => { results := [.lit (.bool false)], args := [d] }
  | _ => none }
def BoxOrderWrongFalsely : Prop := boxOrderRow.holds Tryz.pinned (OpenSpec.ofChange boxOrderWrong)

/-- 'glowwormlaw16.BoxTurn': WHATEVER THE INPUT: true; the input reads as it did. -/
def boxTurnSpec : ChangeSpec := { name := "boxTurn", fn := fun _ => fun
  | [d1, d2, d3, d4] => { results := [.lit (.bool true)], args := [d1, d2, d3, d4] }
  | _ => none }
def boxTurnRow : OpenClaim := { program := "ytjnhaaolbcmdbaagreatdoor", sum := "e9b9c54bc80864ff8e436cc2ecbca3142a97ca4a88cdce6c15e82b9c0ef435c5", func := "glowworm/glowwormlaw16.BoxTurn", spec := "boxTurn", unfollowed := true, recurses := true, named := ["math/bits.deBruijn32tab", "unicode/utf8.first", "unicode/utf8.acceptRanges"], apart := false, laid := [("math/bits.deBruijn32tab", laid_math_bits_deBruijn32tab), ("unicode/utf8.acceptRanges", laid_unicode_utf8_acceptRanges), ("unicode/utf8.first", laid_unicode_utf8_first)] }
def BoxTurnSaid : Prop := boxTurnRow.holds Tryz.pinned (OpenSpec.ofChange boxTurnSpec)

/-- ITS FALSE NEIGHBOUR: 'it returns false'. Refute it at one input. -/
def boxTurnWrong : ChangeSpec := { name := "boxTurn", fn := fun _ => fun
  | [d1, d2, d3, d4] => { results := [.lit (.bool false)], args := [d1, d2, d3, d4] }
  | _ => none }
def BoxTurnWrongFalsely : Prop := boxTurnRow.holds Tryz.pinned (OpenSpec.ofChange boxTurnWrong)

/-- 'glowwormlaw16.QueryOwn': WHATEVER THE INPUT: true; the input reads as it did. -/
def queryOwnSpec : ChangeSpec := { name := "queryOwn", fn := fun _ => fun
  | [d1, d2, d3] => { results := [.lit (.bool true)], args := [d1, d2, d3] }
  | _ => none }
def queryOwnRow : OpenClaim := { program := "ytjnhaaolbcmdbaagreatdoor", sum := "e9b9c54bc80864ff8e436cc2ecbca3142a97ca4a88cdce6c15e82b9c0ef435c5", func := "glowworm/glowwormlaw16.QueryOwn", spec := "queryOwn", unfollowed := true, recurses := true, named := ["math/bits.deBruijn32tab", "unicode/utf8.first", "unicode/utf8.acceptRanges"], apart := false, laid := [("math/bits.deBruijn32tab", laid_math_bits_deBruijn32tab), ("unicode/utf8.acceptRanges", laid_unicode_utf8_acceptRanges), ("unicode/utf8.first", laid_unicode_utf8_first)] }
def QueryOwnSaid : Prop := queryOwnRow.holds Tryz.pinned (OpenSpec.ofChange queryOwnSpec)

/-- ITS FALSE NEIGHBOUR: 'it returns false'. Refute it at one input. -/
def queryOwnWrong : ChangeSpec := { name := "queryOwn", fn := fun _ => fun
  | [d1, d2, d3] => { results := [.lit (.bool false)], args := [d1, d2, d3] }
  | _ => none }
def QueryOwnWrongFalsely : Prop := queryOwnRow.holds Tryz.pinned (OpenSpec.ofChange queryOwnWrong)

/-- 'glowwormlaw16.ReplyTwo': WHATEVER THE INPUT: true; the input reads as it did. -/
def replyTwoSpec : ChangeSpec := { name := "replyTwo", fn := fun _ => fun
  | [d1, d2, d3, d4] => { results := [.lit (.bool true)], args := [d1, d2, d3, d4] }
  | _ => none }
def replyTwoRow : OpenClaim := { program := "ytjnhaaolbcmdbaagreatdoor", sum := "e9b9c54bc80864ff8e436cc2ecbca3142a97ca4a88cdce6c15e82b9c0ef435c5", func := "glowworm/glowwormlaw16.ReplyTwo", spec := "replyTwo", unfollowed := true, recurses := true, named := ["math/bits.deBruijn32tab", "unicode/utf8.first", "unicode/utf8.acceptRanges"], apart := false, laid := [("math/bits.deBruijn32tab", laid_math_bits_deBruijn32tab), ("unicode/utf8.acceptRanges", laid_unicode_utf8_acceptRanges), ("unicode/utf8.first", laid_unicode_utf8_first)] }
def ReplyTwoSaid : Prop := replyTwoRow.holds Tryz.pinned (OpenSpec.ofChange replyTwoSpec)

/-- ITS FALSE NEIGHBOUR: 'it returns false'. Refute it at one input. -/
def replyTwoWrong : ChangeSpec := { name := "replyTwo", fn := fun _ => fun
  | [d1, d2, d3, d4] => { results := [.lit (.bool false)], args := [d1, d2, d3, d4] }
  | _ => none }
def ReplyTwoWrongFalsely : Prop := replyTwoRow.holds Tryz.pinned (OpenSpec.ofChange replyTwoWrong)

/-- 'glowwormlaw16.QueryAll': WHATEVER THE INPUT: true; the input reads as it did. -/
def queryAllSpec : ChangeSpec := { name := "queryAll", fn := fun _ => fun
  | [d1, d2, d3, d4, d5] => { results := [.lit (.bool true)], args := [d1, d2, d3, d4, d5] }
  | _ => none }
def queryAllRow : OpenClaim := { program := "ytjnhaaolbcmdbaagreatdoor", sum := "e9b9c54bc80864ff8e436cc2ecbca3142a97ca4a88cdce6c15e82b9c0ef435c5", func := "glowworm/glowwormlaw16.QueryAll", spec := "queryAll", unfollowed := true, recurses := true, named := ["math/bits.deBruijn32tab", "unicode/utf8.first", "unicode/utf8.acceptRanges"], apart := false, laid := [("math/bits.deBruijn32tab", laid_math_bits_deBruijn32tab), ("unicode/utf8.acceptRanges", laid_unicode_utf8_acceptRanges), ("unicode/utf8.first", laid_unicode_utf8_first)] }
def QueryAllSaid : Prop := queryAllRow.holds Tryz.pinned (OpenSpec.ofChange queryAllSpec)

/-- ITS FALSE NEIGHBOUR: 'it returns false'. Refute it at one input. -/
def queryAllWrong : ChangeSpec := { name := "queryAll", fn := fun _ => fun
  | [d1, d2, d3, d4, d5] => { results := [.lit (.bool false)], args := [d1, d2, d3, d4, d5] }
  | _ => none }
def QueryAllWrongFalsely : Prop := queryAllRow.holds Tryz.pinned (OpenSpec.ofChange queryAllWrong)

/-- 'glowwormlaw16.BoxNone': WHATEVER THE INPUT: true; the input reads as it did. -/
def boxNoneSpec : ChangeSpec := { name := "boxNone", fn := fun _ => fun
  | [] => { results := [.lit (.bool true)], args := [] }
  | _ => none }
def boxNoneRow : OpenClaim := { program := "ytjnhaaolbcmdbaagreatdoor", sum := "e9b9c54bc80864ff8e436cc2ecbca3142a97ca4a88cdce6c15e82b9c0ef435c5", func := "glowworm/glowwormlaw16.BoxNone", spec := "boxNone", unfollowed := true, recurses := true, named := ["math/bits.deBruijn32tab", "unicode/utf8.first", "unicode/utf8.acceptRanges"], apart := false, laid := [("math/bits.deBruijn32tab", laid_math_bits_deBruijn32tab), ("unicode/utf8.acceptRanges", laid_unicode_utf8_acceptRanges), ("unicode/utf8.first", laid_unicode_utf8_first)] }
def BoxNoneSaid : Prop := boxNoneRow.holds Tryz.pinned (OpenSpec.ofChange boxNoneSpec)

/-- ITS FALSE NEIGHBOUR: 'it returns false'. Refute it at one input. -/
def boxNoneWrong : ChangeSpec := { name := "boxNone", fn := fun _ => fun
  | [] => { results := [.lit (.bool false)], args := [] }
  | _ => none }
def BoxNoneWrongFalsely : Prop := boxNoneRow.holds Tryz.pinned (OpenSpec.ofChange boxNoneWrong)

/-- 'glowwormlaw16.LogOrder': WHATEVER THE INPUT: true; the input reads as it did. -/
def logOrderSpec : ChangeSpec := { name := "logOrder", fn := fun _ => fun
  | [d] => { results := [.lit (.bool true)], args := [d] }
  | _ => none }
def logOrderRow : OpenClaim := { program := "ytjnhaaolbcmdbaagreatdoor", sum := "e9b9c54bc80864ff8e436cc2ecbca3142a97ca4a88cdce6c15e82b9c0ef435c5", func := "glowworm/glowwormlaw16.LogOrder", spec := "logOrder", unfollowed := true, recurses := true, named := ["math/bits.deBruijn32tab", "unicode/utf8.first", "unicode/utf8.acceptRanges"], apart := false, laid := [("math/bits.deBruijn32tab", laid_math_bits_deBruijn32tab), ("unicode/utf8.acceptRanges", laid_unicode_utf8_acceptRanges), ("unicode/utf8.first", laid_unicode_utf8_first)] }
def LogOrderSaid : Prop := logOrderRow.holds Tryz.pinned (OpenSpec.ofChange logOrderSpec)

/-- ITS FALSE NEIGHBOUR: 'it returns false'. Refute it at one input. -/
def logOrderWrong : ChangeSpec := { name := "logOrder", fn := fun _ => fun
  | [d] => { results := [.lit (.bool false)], args := [d] }
  | _ => none }
def LogOrderWrongFalsely : Prop := logOrderRow.holds Tryz.pinned (OpenSpec.ofChange logOrderWrong)

/- THE SECOND FORM. 'bulk': how many values and letters a reading holds, each counted each time it is reached (what is shared counts as often as it is met; a slice's spare places count too). A statement '..UptoSaid' is the law's where the arguments, and the package variables that the reading takes, are together of bulk at most 1048576: NARROWER than '..Said'. Prove '..Said' where nothing that the law and all that it calls make is longer than what came in: it says more and counts as full. Else prove '..UptoSaid'. A law counts once. -/
mutual
def uptoBulk {H : Type} : DataW H → Nat
  | .lit (.string bytes) => bytes.length + 1
  | .lit _ => 1
  | .nil => 1
  | .ptr d => uptoBulk d + 1
  | .slice elems spare => uptoBulkAll elems + uptoBulkAll spare + 1
  | .agg parts => uptoBulkAll parts + 1
  | .iface _ d => uptoBulk d + 1
  | .map entries => uptoBulkEntries entries + 1
  | .held _ => 1
def uptoBulkAll {H : Type} : List (DataW H) → Nat
  | [] => 0
  | d :: r => uptoBulk d + uptoBulkAll r
def uptoBulkEntries {H : Type} : List (Lit × DataW H) → Nat
  | [] => 0
  | x :: r => uptoBulkEntry x + uptoBulkEntries r
def uptoBulkEntry {H : Type} : Lit × DataW H → Nat
  | (.string bytes, d) => bytes.length + uptoBulk d + 1
  | (_, d) => uptoBulk d + 1
 end
def uptoSmall : (H : Type) → List (DataW H) → Bool := fun _ ds => decide (uptoBulkAll ds ≤ 1048576)
def OpenSpec.upto (s : _root_.Go.ChangeSpec) : _root_.Go.OpenSpec := { _root_.Go.OpenSpec.ofChange s with cond := some uptoSmall }

/-- 'glowwormlaw16.ReplyAll', WHERE WHAT IT READS IS OF BULK AT MOST 1048576: true; the input reads as it did. -/
def replyAllUptoRow : OpenClaim := { program := "ytjnhaaolbcmdbaagreatdoor", sum := "e9b9c54bc80864ff8e436cc2ecbca3142a97ca4a88cdce6c15e82b9c0ef435c5", func := "glowworm/glowwormlaw16.ReplyAll", spec := "replyAll", unfollowed := true, recurses := true, named := ["math/bits.deBruijn32tab", "unicode/utf8.first", "unicode/utf8.acceptRanges"], apart := false, laid := [("math/bits.deBruijn32tab", laid_math_bits_deBruijn32tab), ("unicode/utf8.acceptRanges", laid_unicode_utf8_acceptRanges), ("unicode/utf8.first", laid_unicode_utf8_first)], narrowed := true }
def ReplyAllUptoSaid : Prop := replyAllUptoRow.holds Tryz.pinned (OpenSpec.upto replyAllSpec)

/-- 'glowwormlaw16.ReplyOnce', WHERE WHAT IT READS IS OF BULK AT MOST 1048576: true; the input reads as it did. -/
def replyOnceUptoRow : OpenClaim := { program := "ytjnhaaolbcmdbaagreatdoor", sum := "e9b9c54bc80864ff8e436cc2ecbca3142a97ca4a88cdce6c15e82b9c0ef435c5", func := "glowworm/glowwormlaw16.ReplyOnce", spec := "replyOnce", unfollowed := true, recurses := true, named := ["math/bits.deBruijn32tab", "unicode/utf8.first", "unicode/utf8.acceptRanges"], apart := false, laid := [("math/bits.deBruijn32tab", laid_math_bits_deBruijn32tab), ("unicode/utf8.acceptRanges", laid_unicode_utf8_acceptRanges), ("unicode/utf8.first", laid_unicode_utf8_first)], narrowed := true }
def ReplyOnceUptoSaid : Prop := replyOnceUptoRow.holds Tryz.pinned (OpenSpec.upto replyOnceSpec)

/-- 'glowwormlaw16.BoxAll', WHERE WHAT IT READS IS OF BULK AT MOST 1048576: true; the input reads as it did. -/
def boxAllUptoRow : OpenClaim := { program := "ytjnhaaolbcmdbaagreatdoor", sum := "e9b9c54bc80864ff8e436cc2ecbca3142a97ca4a88cdce6c15e82b9c0ef435c5", func := "glowworm/glowwormlaw16.BoxAll", spec := "boxAll", unfollowed := true, recurses := true, named := ["math/bits.deBruijn32tab", "unicode/utf8.first", "unicode/utf8.acceptRanges"], apart := false, laid := [("math/bits.deBruijn32tab", laid_math_bits_deBruijn32tab), ("unicode/utf8.acceptRanges", laid_unicode_utf8_acceptRanges), ("unicode/utf8.first", laid_unicode_utf8_first)], narrowed := true }
def BoxAllUptoSaid : Prop := boxAllUptoRow.holds Tryz.pinned (OpenSpec.upto boxAllSpec)

/-- 'glowwormlaw16.LogClash', WHERE WHAT IT READS IS OF BULK AT MOST 1048576: true; the input reads as it did. -/
def logClashUptoRow : OpenClaim := { program := "ytjnhaaolbcmdbaagreatdoor", sum := "e9b9c54bc80864ff8e436cc2ecbca3142a97ca4a88cdce6c15e82b9c0ef435c5", func := "glowworm/glowwormlaw16.LogClash", spec := "logClash", unfollowed := true, recurses := true, named := ["math/bits.deBruijn32tab", "unicode/utf8.first", "unicode/utf8.acceptRanges"], apart := false, laid := [("math/bits.deBruijn32tab", laid_math_bits_deBruijn32tab), ("unicode/utf8.acceptRanges", laid_unicode_utf8_acceptRanges), ("unicode/utf8.first", laid_unicode_utf8_first)], narrowed := true }
def LogClashUptoSaid : Prop := logClashUptoRow.holds Tryz.pinned (OpenSpec.upto logClashSpec)

/-- 'glowwormlaw16.QueryTimes', WHERE WHAT IT READS IS OF BULK AT MOST 1048576: true; the input reads as it did. -/
def queryTimesUptoRow : OpenClaim := { program := "ytjnhaaolbcmdbaagreatdoor", sum := "e9b9c54bc80864ff8e436cc2ecbca3142a97ca4a88cdce6c15e82b9c0ef435c5", func := "glowworm/glowwormlaw16.QueryTimes", spec := "queryTimes", unfollowed := true, recurses := true, named := ["math/bits.deBruijn32tab", "unicode/utf8.first", "unicode/utf8.acceptRanges"], apart := false, laid := [("math/bits.deBruijn32tab", laid_math_bits_deBruijn32tab), ("unicode/utf8.acceptRanges", laid_unicode_utf8_acceptRanges), ("unicode/utf8.first", laid_unicode_utf8_first)], narrowed := true }
def QueryTimesUptoSaid : Prop := queryTimesUptoRow.holds Tryz.pinned (OpenSpec.upto queryTimesSpec)

/-- 'glowwormlaw16.QueryDeaf', WHERE WHAT IT READS IS OF BULK AT MOST 1048576: true; the input reads as it did. -/
def queryDeafUptoRow : OpenClaim := { program := "ytjnhaaolbcmdbaagreatdoor", sum := "e9b9c54bc80864ff8e436cc2ecbca3142a97ca4a88cdce6c15e82b9c0ef435c5", func := "glowworm/glowwormlaw16.QueryDeaf", spec := "queryDeaf", unfollowed := true, recurses := true, named := ["math/bits.deBruijn32tab", "unicode/utf8.first", "unicode/utf8.acceptRanges"], apart := false, laid := [("math/bits.deBruijn32tab", laid_math_bits_deBruijn32tab), ("unicode/utf8.acceptRanges", laid_unicode_utf8_acceptRanges), ("unicode/utf8.first", laid_unicode_utf8_first)], narrowed := true }
def QueryDeafUptoSaid : Prop := queryDeafUptoRow.holds Tryz.pinned (OpenSpec.upto queryDeafSpec)

/-- 'glowwormlaw16.ReplyAnew', WHERE WHAT IT READS IS OF BULK AT MOST 1048576: true; the input reads as it did. -/
def replyAnewUptoRow : OpenClaim := { program := "ytjnhaaolbcmdbaagreatdoor", sum := "e9b9c54bc80864ff8e436cc2ecbca3142a97ca4a88cdce6c15e82b9c0ef435c5", func := "glowworm/glowwormlaw16.ReplyAnew", spec := "replyAnew", unfollowed := true, recurses := true, named := ["math/bits.deBruijn32tab", "unicode/utf8.first", "unicode/utf8.acceptRanges"], apart := false, laid := [("math/bits.deBruijn32tab", laid_math_bits_deBruijn32tab), ("unicode/utf8.acceptRanges", laid_unicode_utf8_acceptRanges), ("unicode/utf8.first", laid_unicode_utf8_first)], narrowed := true }
def ReplyAnewUptoSaid : Prop := replyAnewUptoRow.holds Tryz.pinned (OpenSpec.upto replyAnewSpec)

/-- 'glowwormlaw16.ReplyLate', WHERE WHAT IT READS IS OF BULK AT MOST 1048576: true; the input reads as it did. -/
def replyLateUptoRow : OpenClaim := { program := "ytjnhaaolbcmdbaagreatdoor", sum := "e9b9c54bc80864ff8e436cc2ecbca3142a97ca4a88cdce6c15e82b9c0ef435c5", func := "glowworm/glowwormlaw16.ReplyLate", spec := "replyLate", unfollowed := true, recurses := true, named := ["math/bits.deBruijn32tab", "unicode/utf8.first", "unicode/utf8.acceptRanges"], apart := false, laid := [("math/bits.deBruijn32tab", laid_math_bits_deBruijn32tab), ("unicode/utf8.acceptRanges", laid_unicode_utf8_acceptRanges), ("unicode/utf8.first", laid_unicode_utf8_first)], narrowed := true }
def ReplyLateUptoSaid : Prop := replyLateUptoRow.holds Tryz.pinned (OpenSpec.upto replyLateSpec)

/-- 'glowwormlaw16.BoxOrder', WHERE WHAT IT READS IS OF BULK AT MOST 1048576: true; the input reads as it did. -/
def boxOrderUptoRow : OpenClaim := { program := "ytjnhaaolbcmdbaagreatdoor", sum := "e9b9c54bc80864ff8e436cc2ecbca3142a97ca4a88cdce6c15e82b9c0ef435c5", func := "glowworm/glowwormlaw16.BoxOrder", spec := "boxOrder", unfollowed := true, recurses := true, named := ["math/bits.deBruijn32tab", "unicode/utf8.first", "unicode/utf8.acceptRanges"], apart := false, laid := [("math/bits.deBruijn32tab", laid_math_bits_deBruijn32tab), ("unicode/utf8.acceptRanges", laid_unicode_utf8_acceptRanges), ("unicode/utf8.first", laid_unicode_utf8_first)], narrowed := true }
def BoxOrderUptoSaid : Prop := boxOrderUptoRow.holds Tryz.pinned (OpenSpec.upto boxOrderSpec)

/-- 'glowwormlaw16.BoxTurn', WHERE WHAT IT READS IS OF BULK AT MOST 1048576: true; the input reads as it did. -/
def boxTurnUptoRow : OpenClaim := { program := "ytjnhaaolbcmdbaagreatdoor", sum := "e9b9c54bc80864ff8e436cc2ecbca3142a97ca4a88cdce6c15e82b9c0ef435c5", func := "glowworm/glowwormlaw16.BoxTurn", spec := "boxTurn", unfollowed := true, recurses := true, named := ["math/bits.deBruijn32tab", "unicode/utf8.first", "unicode/utf8.acceptRanges"], apart := false, laid := [("math/bits.deBruijn32tab", laid_math_bits_deBruijn32tab), ("unicode/utf8.acceptRanges", laid_unicode_utf8_acceptRanges), ("unicode/utf8.first", laid_unicode_utf8_first)], narrowed := true }
def BoxTurnUptoSaid : Prop := boxTurnUptoRow.holds Tryz.pinned (OpenSpec.upto boxTurnSpec)

/-- 'glowwormlaw16.QueryOwn', WHERE WHAT IT READS IS OF BULK AT MOST 1048576: true; the input reads as it did. -/
def queryOwnUptoRow : OpenClaim := { program := "ytjnhaaolbcmdbaagreatdoor", sum := "e9b9c54bc80864ff8e436cc2ecbca3142a97ca4a88cdce6c15e82b9c0ef435c5", func := "glowworm/glowwormlaw16.QueryOwn", spec := "queryOwn", unfollowed := true, recurses := true, named := ["math/bits.deBruijn32tab", "unicode/utf8.first", "unicode/utf8.acceptRanges"], apart := false, laid := [("math/bits.deBruijn32tab", laid_math_bits_deBruijn32tab), ("unicode/utf8.acceptRanges", laid_unicode_utf8_acceptRanges), ("unicode/utf8.first", laid_unicode_utf8_first)], narrowed := true }
def QueryOwnUptoSaid : Prop := queryOwnUptoRow.holds Tryz.pinned (OpenSpec.upto queryOwnSpec)

/-- 'glowwormlaw16.ReplyTwo', WHERE WHAT IT READS IS OF BULK AT MOST 1048576: true; the input reads as it did. -/
def replyTwoUptoRow : OpenClaim := { program := "ytjnhaaolbcmdbaagreatdoor", sum := "e9b9c54bc80864ff8e436cc2ecbca3142a97ca4a88cdce6c15e82b9c0ef435c5", func := "glowworm/glowwormlaw16.ReplyTwo", spec := "replyTwo", unfollowed := true, recurses := true, named := ["math/bits.deBruijn32tab", "unicode/utf8.first", "unicode/utf8.acceptRanges"], apart := false, laid := [("math/bits.deBruijn32tab", laid_math_bits_deBruijn32tab), ("unicode/utf8.acceptRanges", laid_unicode_utf8_acceptRanges), ("unicode/utf8.first", laid_unicode_utf8_first)], narrowed := true }
def ReplyTwoUptoSaid : Prop := replyTwoUptoRow.holds Tryz.pinned (OpenSpec.upto replyTwoSpec)

/-- 'glowwormlaw16.QueryAll', WHERE WHAT IT READS IS OF BULK AT MOST 1048576: true; the input reads as it did. -/
def queryAllUptoRow : OpenClaim := { program := "ytjnhaaolbcmdbaagreatdoor", sum := "e9b9c54bc80864ff8e436cc2ecbca3142a97ca4a88cdce6c15e82b9c0ef435c5", func := "glowworm/glowwormlaw16.QueryAll", spec := "queryAll", unfollowed := true, recurses := true, named := ["math/bits.deBruijn32tab", "unicode/utf8.first", "unicode/utf8.acceptRanges"], apart := false, laid := [("math/bits.deBruijn32tab", laid_math_bits_deBruijn32tab), ("unicode/utf8.acceptRanges", laid_unicode_utf8_acceptRanges), ("unicode/utf8.first", laid_unicode_utf8_first)], narrowed := true }
def QueryAllUptoSaid : Prop := queryAllUptoRow.holds Tryz.pinned (OpenSpec.upto queryAllSpec)

/-- 'glowwormlaw16.BoxNone', WHERE WHAT IT READS IS OF BULK AT MOST 1048576: true; the input reads as it did. -/
def boxNoneUptoRow : OpenClaim := { program := "ytjnhaaolbcmdbaagreatdoor", sum := "e9b9c54bc80864ff8e436cc2ecbca3142a97ca4a88cdce6c15e82b9c0ef435c5", func := "glowworm/glowwormlaw16.BoxNone", spec := "boxNone", unfollowed := true, recurses := true, named := ["math/bits.deBruijn32tab", "unicode/utf8.first", "unicode/utf8.acceptRanges"], apart := false, laid := [("math/bits.deBruijn32tab", laid_math_bits_deBruijn32tab), ("unicode/utf8.acceptRanges", laid_unicode_utf8_acceptRanges), ("unicode/utf8.first", laid_unicode_utf8_first)], narrowed := true }
def BoxNoneUptoSaid : Prop := boxNoneUptoRow.holds Tryz.pinned (OpenSpec.upto boxNoneSpec)

/-- 'glowwormlaw16.LogOrder', WHERE WHAT IT READS IS OF BULK AT MOST 1048576: true; the input reads as it did. -/
def logOrderUptoRow : OpenClaim := { program := "ytjnhaaolbcmdbaagreatdoor", sum := "e9b9c54bc80864ff8e436cc2ecbca3142a97ca4a88cdce6c15e82b9c0ef435c5", func := "glowworm/glowwormlaw16.LogOrder", spec := "logOrder", unfollowed := true, recurses := true, named := ["math/bits.deBruijn32tab", "unicode/utf8.first", "unicode/utf8.acceptRanges"], apart := false, laid := [("math/bits.deBruijn32tab", laid_math_bits_deBruijn32tab), ("unicode/utf8.acceptRanges", laid_unicode_utf8_acceptRanges), ("unicode/utf8.first", laid_unicode_utf8_first)], narrowed := true }
def LogOrderUptoSaid : Prop := logOrderUptoRow.holds Tryz.pinned (OpenSpec.upto logOrderSpec)

end Rows
end Go.Proofs.YtjnhaaolbcmdbaaGreatDoor
