/-
  NARROWER THAN 'FOR EVERY INPUT', by the rows' own cells (each row's printed sentence says how): LinkSilence: laid · LinkDisc: laid · LinkUnfree: laid · LinkNext: laid · LinkPair: laid · LinkReset: laid.
  DERIVED. THE GIVEN ROWS OF THIS SEAT. 6 by the template 'for every input the law returns true; each argument reads behind the call as it read before'; 0 by the template 'total and deterministic' (their statements: YtjcninlcdnkofaaGreatDoorTotals.lean).
  GIVEN WITH THE SEED: the statements are not yours to turn. If you find one false, say at which input.
  Laid BY PROGRAM, IN A SANDBOX (cutbox-rows.mjs): the forced cells as the released guide's own fill.sh prints them over the translation d709005740a694fa… (all of the seat's roots in one cut). By AI agents, Wed Nov 11 2026. No macro, syntax, notation, axiom, sorry.
-/
import Derived.Test.YtjcninlcdnkofaaGreatDoorChecked
import GoSem.PinnedTables
import GoSem.Claim
import GoSem.ClaimJoined
import GoSem.ClaimMapViews
import Derived.JoinedTies
import Derived.KernelRfl
namespace Go.Proofs.YtjcninlcdnkofaaGreatDoor
/- THE CELL 'sum', in the pinned program and in every row, IS THE sha256 OF THE DUMP (.gsa) THAT YtjcninlcdnkofaaGreatDoorProg.lean LOADS. Nothing in Lean hashes anything: it is a label: what it is worth is what the hold of that sum in a sandbox is worth. -/
noncomputable def Tryz.pinned : Pinned := { name := "ytjcninlcdnkofaagreatdoor", sum := "d709005740a694fa1c2fd9df517ae6ae6e94325d4a784cc83e4493293bbcb713", checked := Tryz.checked }
namespace Rows
def none {H : Type} : Left H := { results := [], args := [] }

/- WHAT THE LISTED PACKAGE-LEVEL VARIABLES READ AS WHEN THE CALL BEGINS. Each datum BY PROGRAM (the guide's laid-datum.mjs) off the statement by which the dump's own 'gosem.cut.vars' lays the variable. In a bare row this is a premise. The card (YtjcninlcdnkofaaGreatDoorCards.lean) ties it to the program's text. -/
def laid_math_bits_deBruijn32tab {H : Type} : DataW H := .agg [.lit (.int .u8 0), .lit (.int .u8 1), .lit (.int .u8 28), .lit (.int .u8 2), .lit (.int .u8 29), .lit (.int .u8 14), .lit (.int .u8 24), .lit (.int .u8 3), .lit (.int .u8 30), .lit (.int .u8 22), .lit (.int .u8 20), .lit (.int .u8 15), .lit (.int .u8 25), .lit (.int .u8 17), .lit (.int .u8 4), .lit (.int .u8 8), .lit (.int .u8 31), .lit (.int .u8 27), .lit (.int .u8 13), .lit (.int .u8 23), .lit (.int .u8 21), .lit (.int .u8 19), .lit (.int .u8 16), .lit (.int .u8 7), .lit (.int .u8 26), .lit (.int .u8 12), .lit (.int .u8 18), .lit (.int .u8 6), .lit (.int .u8 11), .lit (.int .u8 5), .lit (.int .u8 10), .lit (.int .u8 9)]
def laid_unicode_utf8_acceptRanges {H : Type} : DataW H := .agg [.agg [.lit (.int .u8 128), .lit (.int .u8 191)], .agg [.lit (.int .u8 160), .lit (.int .u8 191)], .agg [.lit (.int .u8 128), .lit (.int .u8 159)], .agg [.lit (.int .u8 144), .lit (.int .u8 191)], .agg [.lit (.int .u8 128), .lit (.int .u8 143)], .agg [.lit (.int .u8 0), .lit (.int .u8 0)], .agg [.lit (.int .u8 0), .lit (.int .u8 0)], .agg [.lit (.int .u8 0), .lit (.int .u8 0)], .agg [.lit (.int .u8 0), .lit (.int .u8 0)], .agg [.lit (.int .u8 0), .lit (.int .u8 0)], .agg [.lit (.int .u8 0), .lit (.int .u8 0)], .agg [.lit (.int .u8 0), .lit (.int .u8 0)], .agg [.lit (.int .u8 0), .lit (.int .u8 0)], .agg [.lit (.int .u8 0), .lit (.int .u8 0)], .agg [.lit (.int .u8 0), .lit (.int .u8 0)], .agg [.lit (.int .u8 0), .lit (.int .u8 0)]]
/-- One of Go's own tables, pinned by name: the form's constant. -/
def laid_unicode_utf8_first : DataW Unit := Go.Pinned.utf8First

/-- 'glowwormlaw20.LinkSilence': WHATEVER THE INPUT: true; the input reads as it did. -/
def linkSilenceSpec : ChangeSpec := { name := "linkSilence", fn := fun _ => fun
  | [d1, d2, d3, d4] => { results := [.lit (.bool true)], args := [d1, d2, d3, d4] }
  | _ => none }
def linkSilenceRow : OpenClaim := { program := "ytjcninlcdnkofaagreatdoor", sum := "d709005740a694fa1c2fd9df517ae6ae6e94325d4a784cc83e4493293bbcb713", func := "glowworm/glowwormlaw20.LinkSilence", spec := "linkSilence", unfollowed := true, recurses := true, named := ["math/bits.deBruijn32tab", "unicode/utf8.first", "unicode/utf8.acceptRanges"], apart := false, laid := [("math/bits.deBruijn32tab", laid_math_bits_deBruijn32tab), ("unicode/utf8.acceptRanges", laid_unicode_utf8_acceptRanges), ("unicode/utf8.first", laid_unicode_utf8_first)] }
def LinkSilenceSaid : Prop := linkSilenceRow.holds Tryz.pinned (OpenSpec.ofChange linkSilenceSpec)

/-- ITS FALSE NEIGHBOUR: 'it returns false'. Refute it at one input. -/
def linkSilenceWrong : ChangeSpec := { name := "linkSilence", fn := fun _ => fun
  | [d1, d2, d3, d4] => { results := [.lit (.bool false)], args := [d1, d2, d3, d4] }
  | _ => none }
def LinkSilenceWrongFalsely : Prop := linkSilenceRow.holds Tryz.pinned (OpenSpec.ofChange linkSilenceWrong)

/-- 'glowwormlaw20.LinkDisc': WHATEVER THE INPUT: true; the input reads as it did. -/
def linkDiscSpec : ChangeSpec := { name := "linkDisc", fn := fun _ => fun
  | [d1, d2] => { results := [.lit (.bool true)], args := [d1, d2] }
  | _ => none }
def linkDiscRow : OpenClaim := { program := "ytjcninlcdnkofaagreatdoor", sum := "d709005740a694fa1c2fd9df517ae6ae6e94325d4a784cc83e4493293bbcb713", func := "glowworm/glowwormlaw20.LinkDisc", spec := "linkDisc", unfollowed := true, recurses := true, named := ["math/bits.deBruijn32tab", "unicode/utf8.first", "unicode/utf8.acceptRanges"], apart := false, laid := [("math/bits.deBruijn32tab", laid_math_bits_deBruijn32tab), ("unicode/utf8.acceptRanges", laid_unicode_utf8_acceptRanges), ("unicode/utf8.first", laid_unicode_utf8_first)] }
def LinkDiscSaid : Prop := linkDiscRow.holds Tryz.pinned (OpenSpec.ofChange linkDiscSpec)

/-- ITS FALSE NEIGHBOUR: 'it returns false'. Refute it at one input. -/
def linkDiscWrong : ChangeSpec := { name := "linkDisc", fn := fun _ => fun
  | [d1, d2] => { results := [.lit (.bool false)], args := [d1, d2] }
  | _ => none }
def LinkDiscWrongFalsely : Prop := linkDiscRow.holds Tryz.pinned (OpenSpec.ofChange linkDiscWrong)

/-- 'glowwormlaw20.LinkUnfree': WHATEVER THE INPUT: true; the input reads as it did. -/
def linkUnfreeSpec : ChangeSpec := { name := "linkUnfree", fn := fun _ => fun
  | [d1, d2, d3] => { results := [.lit (.bool true)], args := [d1, d2, d3] }
  | _ => none }
def linkUnfreeRow : OpenClaim := { program := "ytjcninlcdnkofaagreatdoor", sum := "d709005740a694fa1c2fd9df517ae6ae6e94325d4a784cc83e4493293bbcb713", func := "glowworm/glowwormlaw20.LinkUnfree", spec := "linkUnfree", unfollowed := true, recurses := true, named := ["math/bits.deBruijn32tab", "unicode/utf8.first", "unicode/utf8.acceptRanges"], apart := false, laid := [("math/bits.deBruijn32tab", laid_math_bits_deBruijn32tab), ("unicode/utf8.acceptRanges", laid_unicode_utf8_acceptRanges), ("unicode/utf8.first", laid_unicode_utf8_first)] }
def LinkUnfreeSaid : Prop := linkUnfreeRow.holds Tryz.pinned (OpenSpec.ofChange linkUnfreeSpec)

/-- ITS FALSE NEIGHBOUR: 'it returns false'. Refute it at one input. -/
def linkUnfreeWrong : ChangeSpec := { name := "linkUnfree", fn := fun _ => fun
  | [d1, d2, d3] => { results := [.lit (.bool false)], args := [d1, d2, d3] }
  | _ => none }
def LinkUnfreeWrongFalsely : Prop := linkUnfreeRow.holds Tryz.pinned (OpenSpec.ofChange linkUnfreeWrong)

/-- 'glowwormlaw20.LinkNext': WHATEVER THE INPUT: true; the input reads as it did. -/
def linkNextSpec : ChangeSpec := { name := "linkNext", fn := fun _ => fun
  | [d1, d2] => { results := [.lit (.bool true)], args := [d1, d2] }
  | _ => none }
def linkNextRow : OpenClaim := { program := "ytjcninlcdnkofaagreatdoor", sum := "d709005740a694fa1c2fd9df517ae6ae6e94325d4a784cc83e4493293bbcb713", func := "glowworm/glowwormlaw20.LinkNext", spec := "linkNext", unfollowed := true, recurses := true, named := ["math/bits.deBruijn32tab", "unicode/utf8.first", "unicode/utf8.acceptRanges"], apart := false, laid := [("math/bits.deBruijn32tab", laid_math_bits_deBruijn32tab), ("unicode/utf8.acceptRanges", laid_unicode_utf8_acceptRanges), ("unicode/utf8.first", laid_unicode_utf8_first)] }
def LinkNextSaid : Prop := linkNextRow.holds Tryz.pinned (OpenSpec.ofChange linkNextSpec)

/-- ITS FALSE NEIGHBOUR: 'it returns false'. Refute it at one input. -/
def linkNextWrong : ChangeSpec := { name := "linkNext", fn := fun _ => fun
  | [d1, d2] => { results := [.lit (.bool false)], args := [d1, d2] }
  | _ => none }
def LinkNextWrongFalsely : Prop := linkNextRow.holds Tryz.pinned (OpenSpec.ofChange linkNextWrong)

/-- 'glowwormlaw20.LinkPair': WHATEVER THE INPUT: true; the input reads as it did. -/
def linkPairSpec : ChangeSpec := { name := "linkPair", fn := fun _ => fun
  | [d1, d2] => { results := [.lit (.bool true)], args := [d1, d2] }
  | _ => none }
def linkPairRow : OpenClaim := { program := "ytjcninlcdnkofaagreatdoor", sum := "d709005740a694fa1c2fd9df517ae6ae6e94325d4a784cc83e4493293bbcb713", func := "glowworm/glowwormlaw20.LinkPair", spec := "linkPair", unfollowed := true, recurses := true, named := ["math/bits.deBruijn32tab", "unicode/utf8.first", "unicode/utf8.acceptRanges"], apart := false, laid := [("math/bits.deBruijn32tab", laid_math_bits_deBruijn32tab), ("unicode/utf8.acceptRanges", laid_unicode_utf8_acceptRanges), ("unicode/utf8.first", laid_unicode_utf8_first)] }
def LinkPairSaid : Prop := linkPairRow.holds Tryz.pinned (OpenSpec.ofChange linkPairSpec)

/-- ITS FALSE NEIGHBOUR: 'it returns false'. Refute it at one input. -/
def linkPairWrong : ChangeSpec := { name := "linkPair", fn := fun _ => fun
  | [d1, d2] => { results := [.lit (.bool false)], args := [d1, d2] }
  | _ => none }
def LinkPairWrongFalsely : Prop := linkPairRow.holds Tryz.pinned (OpenSpec.ofChange linkPairWrong)

/-- 'glowwormlaw20.LinkReset': WHATEVER THE INPUT: true; the input reads as it did. -/
def linkResetSpec : ChangeSpec := { name := "linkReset", fn := fun _ => fun
  | [d1, d2, d3, d4] => { results := [.lit (.bool true)], args := [d1, d2, d3, d4] }
  | _ => none }
def linkResetRow : OpenClaim := { program := "ytjcninlcdnkofaagreatdoor", sum := "d709005740a694fa1c2fd9df517ae6ae6e94325d4a784cc83e4493293bbcb713", func := "glowworm/glowwormlaw20.LinkReset", spec := "linkReset", unfollowed := true, recurses := true, named := ["math/bits.deBruijn32tab", "unicode/utf8.first", "unicode/utf8.acceptRanges"], apart := false, laid := [("math/bits.deBruijn32tab", laid_math_bits_deBruijn32tab), ("unicode/utf8.acceptRanges", laid_unicode_utf8_acceptRanges), ("unicode/utf8.first", laid_unicode_utf8_first)] }
def LinkResetSaid : Prop := linkResetRow.holds Tryz.pinned (OpenSpec.ofChange linkResetSpec)

/-- ITS FALSE NEIGHBOUR: 'it returns false'. Refute it at one input. -/
def linkResetWrong : ChangeSpec := { name := "linkReset", fn := fun _ => fun
  | [d1, d2, d3, d4] => { results := [.lit (.bool false)], args := [d1, d2, d3, d4] }
  | _ => none }
def LinkResetWrongFalsely : Prop := linkResetRow.holds Tryz.pinned (OpenSpec.ofChange linkResetWrong)

/- THE SECOND FORM. 'bulk': how many values and letters a reading holds, each counted each time it is reached (what is shared counts as often as it is met; a slice's spare places count too). A statement '..UptoSaid' is the law's where the arguments, and the package variables that the reading takes, are together of bulk at most 1048576: NARROWER than '..Said'. Prove '..Said' where nothing that the law and all that it calls make is longer than what came in: it says more and counts as full. Else prove '..UptoSaid'. A law counts once. -/
mutual
def uptoBulk {H : Type} : DataW H → Nat
  | .lit (.string bytes) => bytes.length + 1
  | .lit _ => 1
  | .nil => 1
  | .ptr d => uptoBulk d + 1
  | .slice elems spare => uptoBulkAll elems + uptoBulkAll spare + 1
  | .agg parts => uptoBulkAll parts + 1
  | .iface _ d => uptoBulk d + 1
  | .map entries => uptoBulkEntries entries + 1
  | .held _ => 1
def uptoBulkAll {H : Type} : List (DataW H) → Nat
  | [] => 0
  | d :: r => uptoBulk d + uptoBulkAll r
def uptoBulkEntries {H : Type} : List (Lit × DataW H) → Nat
  | [] => 0
  | x :: r => uptoBulkEntry x + uptoBulkEntries r
def uptoBulkEntry {H : Type} : Lit × DataW H → Nat
  | (.string bytes, d) => bytes.length + uptoBulk d + 1
  | (_, d) => uptoBulk d + 1
 end
def uptoSmall : (H : Type) → List (DataW H) → Bool := fun _ ds => decide (uptoBulkAll ds ≤ 1048576)
def OpenSpec.upto (s : _root_.Go.ChangeSpec) : _root_.Go.OpenSpec := { _root_.Go.OpenSpec.ofChange s with cond := some uptoSmall }

/-- 'glowwormlaw20.LinkSilence', WHERE WHAT IT READS IS OF BULK AT MOST 1048576: true; the input reads as it did. -/
def linkSilenceUptoRow : OpenClaim := { program := "ytjcninlcdnkofaagreatdoor", sum := "d709005740a694fa1c2fd9df517ae6ae6e94325d4a784cc83e4493293bbcb713", func := "glowworm/glowwormlaw20.LinkSilence", spec := "linkSilence", unfollowed := true, recurses := true, named := ["math/bits.deBruijn32tab", "unicode/utf8.first", "unicode/utf8.acceptRanges"], apart := false, laid := [("math/bits.deBruijn32tab", laid_math_bits_deBruijn32tab), ("unicode/utf8.acceptRanges", laid_unicode_utf8_acceptRanges), ("unicode/utf8.first", laid_unicode_utf8_first)], narrowed := true }
def LinkSilenceUptoSaid : Prop := linkSilenceUptoRow.holds Tryz.pinned (OpenSpec.upto linkSilenceSpec)

/-- 'glowwormlaw20.LinkDisc', WHERE WHAT IT READS IS OF BULK AT MOST 1048576: true; the input reads as it did. -/
def linkDiscUptoRow : OpenClaim := { program := "ytjcninlcdnkofaagreatdoor", sum := "d709005740a694fa1c2fd9df517ae6ae6e94325d4a784cc83e4493293bbcb713", func := "glowworm/glowwormlaw20.LinkDisc", spec := "linkDisc", unfollowed := true, recurses := true, named := ["math/bits.deBruijn32tab", "unicode/utf8.first", "unicode/utf8.acceptRanges"], apart := false, laid := [("math/bits.deBruijn32tab", laid_math_bits_deBruijn32tab), ("unicode/utf8.acceptRanges", laid_unicode_utf8_acceptRanges), ("unicode/utf8.first", laid_unicode_utf8_first)], narrowed := true }
def LinkDiscUptoSaid : Prop := linkDiscUptoRow.holds Tryz.pinned (OpenSpec.upto linkDiscSpec)

/-- 'glowwormlaw20.LinkUnfree', WHERE WHAT IT READS IS OF BULK AT MOST 1048576: true; the input reads as it did. -/
def linkUnfreeUptoRow : OpenClaim := { program := "ytjcninlcdnkofaagreatdoor", sum := "d709005740a694fa1c2fd9df517ae6ae6e94325d4a784cc83e4493293bbcb713", func := "glowworm/glowwormlaw20.LinkUnfree", spec := "linkUnfree", unfollowed := true, recurses := true, named := ["math/bits.deBruijn32tab", "unicode/utf8.first", "unicode/utf8.acceptRanges"], apart := false, laid := [("math/bits.deBruijn32tab", laid_math_bits_deBruijn32tab), ("unicode/utf8.acceptRanges", laid_unicode_utf8_acceptRanges), ("unicode/utf8.first", laid_unicode_utf8_first)], narrowed := true }
def LinkUnfreeUptoSaid : Prop := linkUnfreeUptoRow.holds Tryz.pinned (OpenSpec.upto linkUnfreeSpec)

/-- 'glowwormlaw20.LinkNext', WHERE WHAT IT READS IS OF BULK AT MOST 1048576: true; the input reads as it did. -/
def linkNextUptoRow : OpenClaim := { program := "ytjcninlcdnkofaagreatdoor", sum := "d709005740a694fa1c2fd9df517ae6ae6e94325d4a784cc83e4493293bbcb713", func := "glowworm/glowwormlaw20.LinkNext", spec := "linkNext", unfollowed := true, recurses := true, named := ["math/bits.deBruijn32tab", "unicode/utf8.first", "unicode/utf8.acceptRanges"], apart := false, laid := [("math/bits.deBruijn32tab", laid_math_bits_deBruijn32tab), ("unicode/utf8.acceptRanges", laid_unicode_utf8_acceptRanges), ("unicode/utf8.first", laid_unicode_utf8_first)], narrowed := true }
def LinkNextUptoSaid : Prop := linkNextUptoRow.holds Tryz.pinned (OpenSpec.upto linkNextSpec)

/-- 'glowwormlaw20.LinkPair', WHERE WHAT IT READS IS OF BULK AT MOST 1048576: true; the input reads as it did. -/
def linkPairUptoRow : OpenClaim := { program := "ytjcninlcdnkofaagreatdoor", sum := "d709005740a694fa1c2fd9df517ae6ae6e94325d4a784cc83e4493293bbcb713", func := "glowworm/glowwormlaw20.LinkPair", spec := "linkPair", unfollowed := true, recurses := true, named := ["math/bits.deBruijn32tab", "unicode/utf8.first", "unicode/utf8.acceptRanges"], apart := false, laid := [("math/bits.deBruijn32tab", laid_math_bits_deBruijn32tab), ("unicode/utf8.acceptRanges", laid_unicode_utf8_acceptRanges), ("unicode/utf8.first", laid_unicode_utf8_first)], narrowed := true }
def LinkPairUptoSaid : Prop := linkPairUptoRow.holds Tryz.pinned (OpenSpec.upto linkPairSpec)

/-- 'glowwormlaw20.LinkReset', WHERE WHAT IT READS IS OF BULK AT MOST 1048576: true; the input reads as it did. -/
def linkResetUptoRow : OpenClaim := { program := "ytjcninlcdnkofaagreatdoor", sum := "d709005740a694fa1c2fd9df517ae6ae6e94325d4a784cc83e4493293bbcb713", func := "glowworm/glowwormlaw20.LinkReset", spec := "linkReset", unfollowed := true, recurses := true, named := ["math/bits.deBruijn32tab", "unicode/utf8.first", "unicode/utf8.acceptRanges"], apart := false, laid := [("math/bits.deBruijn32tab", laid_math_bits_deBruijn32tab), ("unicode/utf8.acceptRanges", laid_unicode_utf8_acceptRanges), ("unicode/utf8.first", laid_unicode_utf8_first)], narrowed := true }
def LinkResetUptoSaid : Prop := linkResetUptoRow.holds Tryz.pinned (OpenSpec.upto linkResetSpec)

end Rows
end Go.Proofs.YtjcninlcdnkofaaGreatDoor
