/-
  NARROWER THAN 'FOR EVERY INPUT', by the rows' own cells (each row's printed sentence says how): DimacsBeside: laid · DimacsProofs: laid · DimacsAnswers: laid · DimacsBack: laid.
  DERIVED. THE GIVEN ROWS OF THIS SEAT. 4 by the template 'for every input the law returns true; each argument reads behind the call as it read before'; 0 by the template 'total and deterministic' (their statements: YtgfbmidpiamkhaaDoorTotals.lean).
  GIVEN WITH THE SEED: the statements are not yours to turn. If you find one false, say at which input.
  Laid BY PROGRAM, IN A SANDBOX (cutbox-rows.mjs): the forced cells as the released guide's own fill.sh prints them over the translation f38321b6629e0afd… (all of the seat's roots in one cut). By AI agents, Wed Nov 11 2026. No macro, syntax, notation, axiom, sorry.
-/
import Derived.Test.YtgfbmidpiamkhaaDoorChecked
import GoSem.PinnedTables
import GoSem.Claim
import GoSem.ClaimJoined
import GoSem.ClaimMapViews
import Derived.JoinedTies
import Derived.KernelRfl
namespace Go.Proofs.YtgfbmidpiamkhaaDoor
/- THE CELL 'sum', in the pinned program and in every row, IS THE sha256 OF THE DUMP (.gsa) THAT YtgfbmidpiamkhaaDoorProg.lean LOADS. Nothing in Lean hashes anything: it is a label: what it is worth is what the hold of that sum in a sandbox is worth. -/
noncomputable def Tryd.pinned : Pinned := { name := "ytgfbmidpiamkhaadoor", sum := "f38321b6629e0afda2c2d338f9c3adbafe70a6f54d905e296c9d2e18d9e98dd5", checked := Tryd.checked }
namespace Rows
def none {H : Type} : Left H := { results := [], args := [] }

/- WHAT THE LISTED PACKAGE-LEVEL VARIABLES READ AS WHEN THE CALL BEGINS. Each datum BY PROGRAM (the guide's laid-datum.mjs) off the statement by which the dump's own 'gosem.cut.vars' lays the variable. In a bare row this is a premise. The card (YtgfbmidpiamkhaaDoorCards.lean) ties it to the program's text. -/
def laid_unicode_utf8_acceptRanges {H : Type} : DataW H := .agg [.agg [.lit (.int .u8 128), .lit (.int .u8 191)], .agg [.lit (.int .u8 160), .lit (.int .u8 191)], .agg [.lit (.int .u8 128), .lit (.int .u8 159)], .agg [.lit (.int .u8 144), .lit (.int .u8 191)], .agg [.lit (.int .u8 128), .lit (.int .u8 143)], .agg [.lit (.int .u8 0), .lit (.int .u8 0)], .agg [.lit (.int .u8 0), .lit (.int .u8 0)], .agg [.lit (.int .u8 0), .lit (.int .u8 0)], .agg [.lit (.int .u8 0), .lit (.int .u8 0)], .agg [.lit (.int .u8 0), .lit (.int .u8 0)], .agg [.lit (.int .u8 0), .lit (.int .u8 0)], .agg [.lit (.int .u8 0), .lit (.int .u8 0)], .agg [.lit (.int .u8 0), .lit (.int .u8 0)], .agg [.lit (.int .u8 0), .lit (.int .u8 0)], .agg [.lit (.int .u8 0), .lit (.int .u8 0)], .agg [.lit (.int .u8 0), .lit (.int .u8 0)]]
/-- One of Go's own tables, pinned by name: the form's constant. -/
def laid_unicode_utf8_first : DataW Unit := Go.Pinned.utf8First

/-- 'pomacelaw28.DimacsBeside': WHATEVER THE INPUT: true; the input reads as it did. -/
def dimacsBesideSpec : ChangeSpec := { name := "dimacsBeside", fn := fun _ => fun
  | [d1, d2, d3] => { results := [.lit (.bool true)], args := [d1, d2, d3] }
  | _ => none }
def dimacsBesideRow : OpenClaim := { program := "ytgfbmidpiamkhaadoor", sum := "f38321b6629e0afda2c2d338f9c3adbafe70a6f54d905e296c9d2e18d9e98dd5", func := "pomace/pomacelaw28.DimacsBeside", spec := "dimacsBeside", inPlace := ["internal/bytealg.CountString", "internal/bytealg.IndexByteString", "internal/bytealg.IndexString", "internal/abi.NoEscape"], unfollowed := true, recurses := true, named := ["unicode/utf8.first", "unicode/utf8.acceptRanges", "internal/bytealg.MaxLen"], apart := false, laid := [("unicode/utf8.acceptRanges", laid_unicode_utf8_acceptRanges), ("unicode/utf8.first", laid_unicode_utf8_first)] }
def DimacsBesideSaid : Prop := dimacsBesideRow.holds Tryd.pinned (OpenSpec.ofChange dimacsBesideSpec)

/-- ITS FALSE NEIGHBOUR: 'it returns false'. Refute it at one input. -/
def dimacsBesideWrong : ChangeSpec := { name := "dimacsBeside", fn := fun _ => fun
  | [d1, d2, d3] => { results := [.lit (.bool false)], args := [d1, d2, d3] }
  | _ => none }
def DimacsBesideWrongFalsely : Prop := dimacsBesideRow.holds Tryd.pinned (OpenSpec.ofChange dimacsBesideWrong)

/-- 'pomacelaw28.DimacsProofs': WHATEVER THE INPUT: true; the input reads as it did. -/
def dimacsProofsSpec : ChangeSpec := { name := "dimacsProofs", fn := fun _ => fun
  | [d1, d2] => { results := [.lit (.bool true)], args := [d1, d2] }
  | _ => none }
def dimacsProofsRow : OpenClaim := { program := "ytgfbmidpiamkhaadoor", sum := "f38321b6629e0afda2c2d338f9c3adbafe70a6f54d905e296c9d2e18d9e98dd5", func := "pomace/pomacelaw28.DimacsProofs", spec := "dimacsProofs", inPlace := ["internal/bytealg.CountString", "internal/bytealg.IndexByteString", "internal/bytealg.IndexString", "internal/abi.NoEscape"], unfollowed := true, recurses := true, named := ["unicode/utf8.first", "unicode/utf8.acceptRanges", "internal/bytealg.MaxLen"], apart := false, laid := [("unicode/utf8.acceptRanges", laid_unicode_utf8_acceptRanges), ("unicode/utf8.first", laid_unicode_utf8_first)] }
def DimacsProofsSaid : Prop := dimacsProofsRow.holds Tryd.pinned (OpenSpec.ofChange dimacsProofsSpec)

/-- ITS FALSE NEIGHBOUR: 'it returns false'. Refute it at one input. -/
def dimacsProofsWrong : ChangeSpec := { name := "dimacsProofs", fn := fun _ => fun
  | [d1, d2] => { results := [.lit (.bool false)], args := [d1, d2] }
  | _ => none }
def DimacsProofsWrongFalsely : Prop := dimacsProofsRow.holds Tryd.pinned (OpenSpec.ofChange dimacsProofsWrong)

/-- 'pomacelaw28.DimacsAnswers': WHATEVER THE INPUT: true; the input reads as it did. -/
def dimacsAnswersSpec : ChangeSpec := { name := "dimacsAnswers", fn := fun _ => fun
  | [d1, d2] => { results := [.lit (.bool true)], args := [d1, d2] }
  | _ => none }
def dimacsAnswersRow : OpenClaim := { program := "ytgfbmidpiamkhaadoor", sum := "f38321b6629e0afda2c2d338f9c3adbafe70a6f54d905e296c9d2e18d9e98dd5", func := "pomace/pomacelaw28.DimacsAnswers", spec := "dimacsAnswers", inPlace := ["internal/bytealg.CountString", "internal/bytealg.IndexByteString", "internal/bytealg.IndexString", "internal/abi.NoEscape"], unfollowed := true, recurses := true, named := ["unicode/utf8.first", "unicode/utf8.acceptRanges", "internal/bytealg.MaxLen"], apart := false, laid := [("unicode/utf8.acceptRanges", laid_unicode_utf8_acceptRanges), ("unicode/utf8.first", laid_unicode_utf8_first)] }
def DimacsAnswersSaid : Prop := dimacsAnswersRow.holds Tryd.pinned (OpenSpec.ofChange dimacsAnswersSpec)

/-- ITS FALSE NEIGHBOUR: 'it returns false'. Refute it at one input. -/
def dimacsAnswersWrong : ChangeSpec := { name := "dimacsAnswers", fn := fun _ => fun
  | [d1, d2] => { results := [.lit (.bool false)], args := [d1, d2] }
  | _ => none }
def DimacsAnswersWrongFalsely : Prop := dimacsAnswersRow.holds Tryd.pinned (OpenSpec.ofChange dimacsAnswersWrong)

/-- 'pomacelaw28.DimacsBack': WHATEVER THE INPUT: true; the input reads as it did. -/
def dimacsBackSpec : ChangeSpec := { name := "dimacsBack", fn := fun _ => fun
  | [d1, d2, d3] => { results := [.lit (.bool true)], args := [d1, d2, d3] }
  | _ => none }
def dimacsBackRow : OpenClaim := { program := "ytgfbmidpiamkhaadoor", sum := "f38321b6629e0afda2c2d338f9c3adbafe70a6f54d905e296c9d2e18d9e98dd5", func := "pomace/pomacelaw28.DimacsBack", spec := "dimacsBack", inPlace := ["internal/bytealg.CountString", "internal/bytealg.IndexByteString", "internal/bytealg.IndexString", "internal/abi.NoEscape"], unfollowed := true, recurses := true, named := ["unicode/utf8.first", "unicode/utf8.acceptRanges", "internal/bytealg.MaxLen"], apart := false, laid := [("unicode/utf8.acceptRanges", laid_unicode_utf8_acceptRanges), ("unicode/utf8.first", laid_unicode_utf8_first)] }
def DimacsBackSaid : Prop := dimacsBackRow.holds Tryd.pinned (OpenSpec.ofChange dimacsBackSpec)

/-- ITS FALSE NEIGHBOUR: 'it returns false'. Refute it at one input. -/
def dimacsBackWrong : ChangeSpec := { name := "dimacsBack", fn := fun _ => fun
  | [d1, d2, d3] => { results := [.lit (.bool false)], args := [d1, d2, d3] }
  | _ => none }
def DimacsBackWrongFalsely : Prop := dimacsBackRow.holds Tryd.pinned (OpenSpec.ofChange dimacsBackWrong)

/- THE SECOND FORM. 'bulk': how many values and letters a reading holds, each counted each time it is reached (what is shared counts as often as it is met; a slice's spare places count too). A statement '..UptoSaid' is the law's where the arguments, and the package variables that the reading takes, are together of bulk at most 1048576: NARROWER than '..Said'. Prove '..Said' where nothing that the law and all that it calls make is longer than what came in: it says more and counts as full. Else prove '..UptoSaid'. A law counts once. -/
mutual
def uptoBulk {H : Type} : DataW H → Nat
  | .lit (.string bytes) => bytes.length + 1
  | .lit _ => 1
  | .nil => 1
  | .ptr d => uptoBulk d + 1
  | .slice elems spare => uptoBulkAll elems + uptoBulkAll spare + 1
  | .agg parts => uptoBulkAll parts + 1
  | .iface _ d => uptoBulk d + 1
  | .map entries => uptoBulkEntries entries + 1
  | .held _ => 1
def uptoBulkAll {H : Type} : List (DataW H) → Nat
  | [] => 0
  | d :: r => uptoBulk d + uptoBulkAll r
def uptoBulkEntries {H : Type} : List (Lit × DataW H) → Nat
  | [] => 0
  | x :: r => uptoBulkEntry x + uptoBulkEntries r
def uptoBulkEntry {H : Type} : Lit × DataW H → Nat
  | (.string bytes, d) => bytes.length + uptoBulk d + 1
  | (_, d) => uptoBulk d + 1
 end
def uptoSmall : (H : Type) → List (DataW H) → Bool := fun _ ds => decide (uptoBulkAll ds ≤ 1048576)
def OpenSpec.upto (s : _root_.Go.ChangeSpec) : _root_.Go.OpenSpec := { _root_.Go.OpenSpec.ofChange s with cond := some uptoSmall }

/-- 'pomacelaw28.DimacsBeside', WHERE WHAT IT READS IS OF BULK AT MOST 1048576: true; the input reads as it did. -/
def dimacsBesideUptoRow : OpenClaim := { program := "ytgfbmidpiamkhaadoor", sum := "f38321b6629e0afda2c2d338f9c3adbafe70a6f54d905e296c9d2e18d9e98dd5", func := "pomace/pomacelaw28.DimacsBeside", spec := "dimacsBeside", inPlace := ["internal/bytealg.CountString", "internal/bytealg.IndexByteString", "internal/bytealg.IndexString", "internal/abi.NoEscape"], unfollowed := true, recurses := true, named := ["unicode/utf8.first", "unicode/utf8.acceptRanges", "internal/bytealg.MaxLen"], apart := false, laid := [("unicode/utf8.acceptRanges", laid_unicode_utf8_acceptRanges), ("unicode/utf8.first", laid_unicode_utf8_first)], narrowed := true }
def DimacsBesideUptoSaid : Prop := dimacsBesideUptoRow.holds Tryd.pinned (OpenSpec.upto dimacsBesideSpec)

/-- 'pomacelaw28.DimacsProofs', WHERE WHAT IT READS IS OF BULK AT MOST 1048576: true; the input reads as it did. -/
def dimacsProofsUptoRow : OpenClaim := { program := "ytgfbmidpiamkhaadoor", sum := "f38321b6629e0afda2c2d338f9c3adbafe70a6f54d905e296c9d2e18d9e98dd5", func := "pomace/pomacelaw28.DimacsProofs", spec := "dimacsProofs", inPlace := ["internal/bytealg.CountString", "internal/bytealg.IndexByteString", "internal/bytealg.IndexString", "internal/abi.NoEscape"], unfollowed := true, recurses := true, named := ["unicode/utf8.first", "unicode/utf8.acceptRanges", "internal/bytealg.MaxLen"], apart := false, laid := [("unicode/utf8.acceptRanges", laid_unicode_utf8_acceptRanges), ("unicode/utf8.first", laid_unicode_utf8_first)], narrowed := true }
def DimacsProofsUptoSaid : Prop := dimacsProofsUptoRow.holds Tryd.pinned (OpenSpec.upto dimacsProofsSpec)

/-- 'pomacelaw28.DimacsAnswers', WHERE WHAT IT READS IS OF BULK AT MOST 1048576: true; the input reads as it did. -/
def dimacsAnswersUptoRow : OpenClaim := { program := "ytgfbmidpiamkhaadoor", sum := "f38321b6629e0afda2c2d338f9c3adbafe70a6f54d905e296c9d2e18d9e98dd5", func := "pomace/pomacelaw28.DimacsAnswers", spec := "dimacsAnswers", inPlace := ["internal/bytealg.CountString", "internal/bytealg.IndexByteString", "internal/bytealg.IndexString", "internal/abi.NoEscape"], unfollowed := true, recurses := true, named := ["unicode/utf8.first", "unicode/utf8.acceptRanges", "internal/bytealg.MaxLen"], apart := false, laid := [("unicode/utf8.acceptRanges", laid_unicode_utf8_acceptRanges), ("unicode/utf8.first", laid_unicode_utf8_first)], narrowed := true }
def DimacsAnswersUptoSaid : Prop := dimacsAnswersUptoRow.holds Tryd.pinned (OpenSpec.upto dimacsAnswersSpec)

/-- 'pomacelaw28.DimacsBack', WHERE WHAT IT READS IS OF BULK AT MOST 1048576: true; the input reads as it did. -/
def dimacsBackUptoRow : OpenClaim := { program := "ytgfbmidpiamkhaadoor", sum := "f38321b6629e0afda2c2d338f9c3adbafe70a6f54d905e296c9d2e18d9e98dd5", func := "pomace/pomacelaw28.DimacsBack", spec := "dimacsBack", inPlace := ["internal/bytealg.CountString", "internal/bytealg.IndexByteString", "internal/bytealg.IndexString", "internal/abi.NoEscape"], unfollowed := true, recurses := true, named := ["unicode/utf8.first", "unicode/utf8.acceptRanges", "internal/bytealg.MaxLen"], apart := false, laid := [("unicode/utf8.acceptRanges", laid_unicode_utf8_acceptRanges), ("unicode/utf8.first", laid_unicode_utf8_first)], narrowed := true }
def DimacsBackUptoSaid : Prop := dimacsBackUptoRow.holds Tryd.pinned (OpenSpec.upto dimacsBackSpec)

end Rows
end Go.Proofs.YtgfbmidpiamkhaaDoor
