/-
  NARROWER THAN 'FOR EVERY INPUT', by the rows' own cells (each row's printed sentence says how): CoordMatches: laid · CoordDerives: laid · CoordTogether: laid · CoordCompares: laid · CoordIds: laid · CoordScopes: laid · CoordParses: laid · CoordPrints: laid.
  DERIVED. THE GIVEN ROWS OF THIS SEAT. 8 by the template 'for every input the law returns true; each argument reads behind the call as it read before'; 0 by the template 'total and deterministic' (their statements: YtldhgdoeehnbjaaDoorTotals.lean).
  GIVEN WITH THE SEED: the statements are not yours to turn. If you find one false, say at which input.
  Laid BY PROGRAM, IN A SANDBOX (cutbox-rows.mjs): the forced cells as the released guide's own fill.sh prints them over the translation c8186e98677013cc… (all of the seat's roots in one cut). By AI agents, Wed Nov 11 2026. No macro, syntax, notation, axiom, sorry.
-/
import Derived.Test.YtldhgdoeehnbjaaDoorChecked
import GoSem.PinnedTables
import GoSem.Claim
import GoSem.ClaimJoined
import GoSem.ClaimMapViews
import Derived.JoinedTies
import Derived.KernelRfl
namespace Go.Proofs.YtldhgdoeehnbjaaDoor
/- THE CELL 'sum', in the pinned program and in every row, IS THE sha256 OF THE DUMP (.gsa) THAT YtldhgdoeehnbjaaDoorProg.lean LOADS. Nothing in Lean hashes anything: it is a label: what it is worth is what the hold of that sum in a sandbox is worth. -/
noncomputable def Tryd.pinned : Pinned := { name := "ytldhgdoeehnbjaadoor", sum := "c8186e98677013ccb72cf00ea5a81912f702046588b819ddbfb277925bcdbf29", checked := Tryd.checked }
namespace Rows
def none {H : Type} : Left H := { results := [], args := [] }

/- WHAT THE LISTED PACKAGE-LEVEL VARIABLES READ AS WHEN THE CALL BEGINS. Each datum BY PROGRAM (the guide's laid-datum.mjs) off the statement by which the dump's own 'gosem.cut.vars' lays the variable. In a bare row this is a premise. The card (YtldhgdoeehnbjaaDoorCards.lean) ties it to the program's text. -/
def laid_unicode_utf8_acceptRanges {H : Type} : DataW H := .agg [.agg [.lit (.int .u8 128), .lit (.int .u8 191)], .agg [.lit (.int .u8 160), .lit (.int .u8 191)], .agg [.lit (.int .u8 128), .lit (.int .u8 159)], .agg [.lit (.int .u8 144), .lit (.int .u8 191)], .agg [.lit (.int .u8 128), .lit (.int .u8 143)], .agg [.lit (.int .u8 0), .lit (.int .u8 0)], .agg [.lit (.int .u8 0), .lit (.int .u8 0)], .agg [.lit (.int .u8 0), .lit (.int .u8 0)], .agg [.lit (.int .u8 0), .lit (.int .u8 0)], .agg [.lit (.int .u8 0), .lit (.int .u8 0)], .agg [.lit (.int .u8 0), .lit (.int .u8 0)], .agg [.lit (.int .u8 0), .lit (.int .u8 0)], .agg [.lit (.int .u8 0), .lit (.int .u8 0)], .agg [.lit (.int .u8 0), .lit (.int .u8 0)], .agg [.lit (.int .u8 0), .lit (.int .u8 0)], .agg [.lit (.int .u8 0), .lit (.int .u8 0)]]
/-- One of Go's own tables, pinned by name: the form's constant. -/
def laid_unicode_utf8_first : DataW Unit := Go.Pinned.utf8First

/-- 'pomacelaw06.CoordMatches': WHATEVER THE INPUT: true; the input reads as it did. -/
def coordMatchesSpec : ChangeSpec := { name := "coordMatches", fn := fun _ => fun
  | [d1, d2] => { results := [.lit (.bool true)], args := [d1, d2] }
  | _ => none }
def coordMatchesRow : OpenClaim := { program := "ytldhgdoeehnbjaadoor", sum := "c8186e98677013ccb72cf00ea5a81912f702046588b819ddbfb277925bcdbf29", func := "pomace/pomacelaw06.CoordMatches", spec := "coordMatches", inPlace := ["internal/bytealg.CountString", "internal/bytealg.IndexByteString", "internal/bytealg.IndexString"], named := ["unicode/utf8.first", "unicode/utf8.acceptRanges", "internal/bytealg.MaxLen"], apart := false, laid := [("unicode/utf8.acceptRanges", laid_unicode_utf8_acceptRanges), ("unicode/utf8.first", laid_unicode_utf8_first)] }
def CoordMatchesSaid : Prop := coordMatchesRow.holds Tryd.pinned (OpenSpec.ofChange coordMatchesSpec)

/-- ITS FALSE NEIGHBOUR: 'it returns false'. Refute it at one input. -/
def coordMatchesWrong : ChangeSpec := { name := "coordMatches", fn := fun _ => fun
  | [d1, d2] => { results := [.lit (.bool false)], args := [d1, d2] }
  | _ => none }
def CoordMatchesWrongFalsely : Prop := coordMatchesRow.holds Tryd.pinned (OpenSpec.ofChange coordMatchesWrong)

/-- 'pomacelaw06.CoordDerives': WHATEVER THE INPUT: true; the input reads as it did. -/
def coordDerivesSpec : ChangeSpec := { name := "coordDerives", fn := fun _ => fun
  | [d1, d2] => { results := [.lit (.bool true)], args := [d1, d2] }
  | _ => none }
def coordDerivesRow : OpenClaim := { program := "ytldhgdoeehnbjaadoor", sum := "c8186e98677013ccb72cf00ea5a81912f702046588b819ddbfb277925bcdbf29", func := "pomace/pomacelaw06.CoordDerives", spec := "coordDerives", inPlace := ["internal/bytealg.CountString", "internal/bytealg.IndexByteString", "internal/bytealg.IndexString"], named := ["unicode/utf8.first", "unicode/utf8.acceptRanges", "internal/bytealg.MaxLen"], apart := false, laid := [("unicode/utf8.acceptRanges", laid_unicode_utf8_acceptRanges), ("unicode/utf8.first", laid_unicode_utf8_first)] }
def CoordDerivesSaid : Prop := coordDerivesRow.holds Tryd.pinned (OpenSpec.ofChange coordDerivesSpec)

/-- ITS FALSE NEIGHBOUR: 'it returns false'. Refute it at one input. -/
def coordDerivesWrong : ChangeSpec := { name := "coordDerives", fn := fun _ => fun
  | [d1, d2] => { results := [.lit (.bool false)], args := [d1, d2] }
  | _ => none }
def CoordDerivesWrongFalsely : Prop := coordDerivesRow.holds Tryd.pinned (OpenSpec.ofChange coordDerivesWrong)

/-- 'pomacelaw06.CoordTogether': WHATEVER THE INPUT: true; the input reads as it did. -/
def coordTogetherSpec : ChangeSpec := { name := "coordTogether", fn := fun _ => fun
  | [d1, d2, d3] => { results := [.lit (.bool true)], args := [d1, d2, d3] }
  | _ => none }
def coordTogetherRow : OpenClaim := { program := "ytldhgdoeehnbjaadoor", sum := "c8186e98677013ccb72cf00ea5a81912f702046588b819ddbfb277925bcdbf29", func := "pomace/pomacelaw06.CoordTogether", spec := "coordTogether", inPlace := ["internal/bytealg.CountString", "internal/bytealg.IndexByteString", "internal/bytealg.IndexString"], named := ["unicode/utf8.first", "unicode/utf8.acceptRanges", "internal/bytealg.MaxLen"], apart := false, laid := [("unicode/utf8.acceptRanges", laid_unicode_utf8_acceptRanges), ("unicode/utf8.first", laid_unicode_utf8_first)] }
def CoordTogetherSaid : Prop := coordTogetherRow.holds Tryd.pinned (OpenSpec.ofChange coordTogetherSpec)

/-- ITS FALSE NEIGHBOUR: 'it returns false'. Refute it at one input. -/
def coordTogetherWrong : ChangeSpec := { name := "coordTogether", fn := fun _ => fun
  | [d1, d2, d3] => { results := [.lit (.bool false)], args := [d1, d2, d3] }
  | _ => none }
def CoordTogetherWrongFalsely : Prop := coordTogetherRow.holds Tryd.pinned (OpenSpec.ofChange coordTogetherWrong)

/-- 'pomacelaw06.CoordCompares': WHATEVER THE INPUT: true; the input reads as it did. -/
def coordComparesSpec : ChangeSpec := { name := "coordCompares", fn := fun _ => fun
  | [d] => { results := [.lit (.bool true)], args := [d] }
  | _ => none }
def coordComparesRow : OpenClaim := { program := "ytldhgdoeehnbjaadoor", sum := "c8186e98677013ccb72cf00ea5a81912f702046588b819ddbfb277925bcdbf29", func := "pomace/pomacelaw06.CoordCompares", spec := "coordCompares", inPlace := ["internal/bytealg.CountString", "internal/bytealg.IndexByteString", "internal/bytealg.IndexString", "internal/bytealg.abigen_runtime_cmpstring"], named := ["unicode/utf8.first", "unicode/utf8.acceptRanges", "internal/bytealg.MaxLen"], apart := false, laid := [("unicode/utf8.acceptRanges", laid_unicode_utf8_acceptRanges), ("unicode/utf8.first", laid_unicode_utf8_first)] }
def CoordComparesSaid : Prop := coordComparesRow.holds Tryd.pinned (OpenSpec.ofChange coordComparesSpec)

/-- ITS FALSE NEIGHBOUR: 'it returns false'. Refute it at one input. -/
def coordComparesWrong : ChangeSpec := { name := "coordCompares", fn := fun _ => fun
  | [d] => { results := [.lit (.bool false)], args := [d] }
  | _ => none }
def CoordComparesWrongFalsely : Prop := coordComparesRow.holds Tryd.pinned (OpenSpec.ofChange coordComparesWrong)

/-- 'pomacelaw06.CoordIds': WHATEVER THE INPUT: true; the input reads as it did. -/
def coordIdsSpec : ChangeSpec := { name := "coordIds", fn := fun _ => fun
  | [d1, d2, d3] => { results := [.lit (.bool true)], args := [d1, d2, d3] }
  | _ => none }
def coordIdsRow : OpenClaim := { program := "ytldhgdoeehnbjaadoor", sum := "c8186e98677013ccb72cf00ea5a81912f702046588b819ddbfb277925bcdbf29", func := "pomace/pomacelaw06.CoordIds", spec := "coordIds", inPlace := ["internal/bytealg.CountString", "internal/bytealg.IndexByteString", "internal/bytealg.IndexString"], named := ["unicode/utf8.first", "unicode/utf8.acceptRanges", "internal/bytealg.MaxLen"], apart := false, laid := [("unicode/utf8.acceptRanges", laid_unicode_utf8_acceptRanges), ("unicode/utf8.first", laid_unicode_utf8_first)] }
def CoordIdsSaid : Prop := coordIdsRow.holds Tryd.pinned (OpenSpec.ofChange coordIdsSpec)

/-- ITS FALSE NEIGHBOUR: 'it returns false'. Refute it at one input. -/
def coordIdsWrong : ChangeSpec := { name := "coordIds", fn := fun _ => fun
  | [d1, d2, d3] => { results := [.lit (.bool false)], args := [d1, d2, d3] }
  | _ => none }
def CoordIdsWrongFalsely : Prop := coordIdsRow.holds Tryd.pinned (OpenSpec.ofChange coordIdsWrong)

/-- 'pomacelaw06.CoordScopes': WHATEVER THE INPUT: true; the input reads as it did. -/
def coordScopesSpec : ChangeSpec := { name := "coordScopes", fn := fun _ => fun
  | [d1, d2] => { results := [.lit (.bool true)], args := [d1, d2] }
  | _ => none }
def coordScopesRow : OpenClaim := { program := "ytldhgdoeehnbjaadoor", sum := "c8186e98677013ccb72cf00ea5a81912f702046588b819ddbfb277925bcdbf29", func := "pomace/pomacelaw06.CoordScopes", spec := "coordScopes", inPlace := ["internal/bytealg.CountString", "internal/bytealg.IndexByteString", "internal/bytealg.IndexString"], named := ["unicode/utf8.first", "unicode/utf8.acceptRanges", "internal/bytealg.MaxLen"], apart := false, laid := [("unicode/utf8.acceptRanges", laid_unicode_utf8_acceptRanges), ("unicode/utf8.first", laid_unicode_utf8_first)] }
def CoordScopesSaid : Prop := coordScopesRow.holds Tryd.pinned (OpenSpec.ofChange coordScopesSpec)

/-- ITS FALSE NEIGHBOUR: 'it returns false'. Refute it at one input. -/
def coordScopesWrong : ChangeSpec := { name := "coordScopes", fn := fun _ => fun
  | [d1, d2] => { results := [.lit (.bool false)], args := [d1, d2] }
  | _ => none }
def CoordScopesWrongFalsely : Prop := coordScopesRow.holds Tryd.pinned (OpenSpec.ofChange coordScopesWrong)

/-- 'pomacelaw06.CoordParses': WHATEVER THE INPUT: true; the input reads as it did. -/
def coordParsesSpec : ChangeSpec := { name := "coordParses", fn := fun _ => fun
  | [d] => { results := [.lit (.bool true)], args := [d] }
  | _ => none }
def coordParsesRow : OpenClaim := { program := "ytldhgdoeehnbjaadoor", sum := "c8186e98677013ccb72cf00ea5a81912f702046588b819ddbfb277925bcdbf29", func := "pomace/pomacelaw06.CoordParses", spec := "coordParses", inPlace := ["internal/bytealg.CountString", "internal/bytealg.IndexByteString", "internal/bytealg.IndexString"], named := ["unicode/utf8.first", "unicode/utf8.acceptRanges", "internal/bytealg.MaxLen"], apart := false, laid := [("unicode/utf8.acceptRanges", laid_unicode_utf8_acceptRanges), ("unicode/utf8.first", laid_unicode_utf8_first)] }
def CoordParsesSaid : Prop := coordParsesRow.holds Tryd.pinned (OpenSpec.ofChange coordParsesSpec)

/-- ITS FALSE NEIGHBOUR: 'it returns false'. Refute it at one input. -/
def coordParsesWrong : ChangeSpec := { name := "coordParses", fn := fun _ => fun
  | [d] => { results := [.lit (.bool false)], args := [d] }
  | _ => none }
def CoordParsesWrongFalsely : Prop := coordParsesRow.holds Tryd.pinned (OpenSpec.ofChange coordParsesWrong)

/-- 'pomacelaw06.CoordPrints': WHATEVER THE INPUT: true; the input reads as it did. -/
def coordPrintsSpec : ChangeSpec := { name := "coordPrints", fn := fun _ => fun
  | [d1, d2] => { results := [.lit (.bool true)], args := [d1, d2] }
  | _ => none }
def coordPrintsRow : OpenClaim := { program := "ytldhgdoeehnbjaadoor", sum := "c8186e98677013ccb72cf00ea5a81912f702046588b819ddbfb277925bcdbf29", func := "pomace/pomacelaw06.CoordPrints", spec := "coordPrints", inPlace := ["internal/bytealg.CountString", "internal/bytealg.IndexByteString", "internal/bytealg.IndexString"], named := ["unicode/utf8.first", "unicode/utf8.acceptRanges", "internal/bytealg.MaxLen"], apart := false, laid := [("unicode/utf8.acceptRanges", laid_unicode_utf8_acceptRanges), ("unicode/utf8.first", laid_unicode_utf8_first)] }
def CoordPrintsSaid : Prop := coordPrintsRow.holds Tryd.pinned (OpenSpec.ofChange coordPrintsSpec)

/-- ITS FALSE NEIGHBOUR: 'it returns false'. Refute it at one input. -/
def coordPrintsWrong : ChangeSpec := { name := "coordPrints", fn := fun _ => fun
  | [d1, d2] => { results := [.lit (.bool false)], args := [d1, d2] }
  | _ => none }
def CoordPrintsWrongFalsely : Prop := coordPrintsRow.holds Tryd.pinned (OpenSpec.ofChange coordPrintsWrong)

/- THE SECOND FORM. 'bulk': how many values and letters a reading holds, each counted each time it is reached (what is shared counts as often as it is met; a slice's spare places count too). A statement '..UptoSaid' is the law's where the arguments, and the package variables that the reading takes, are together of bulk at most 1048576: NARROWER than '..Said'. Prove '..Said' where nothing that the law and all that it calls make is longer than what came in: it says more and counts as full. Else prove '..UptoSaid'. A law counts once. -/
mutual
def uptoBulk {H : Type} : DataW H → Nat
  | .lit (.string bytes) => bytes.length + 1
  | .lit _ => 1
  | .nil => 1
  | .ptr d => uptoBulk d + 1
  | .slice elems spare => uptoBulkAll elems + uptoBulkAll spare + 1
  | .agg parts => uptoBulkAll parts + 1
  | .iface _ d => uptoBulk d + 1
  | .map entries => uptoBulkEntries entries + 1
  | .held _ => 1
def uptoBulkAll {H : Type} : List (DataW H) → Nat
  | [] => 0
  | d :: r => uptoBulk d + uptoBulkAll r
def uptoBulkEntries {H : Type} : List (Lit × DataW H) → Nat
  | [] => 0
  | x :: r => uptoBulkEntry x + uptoBulkEntries r
def uptoBulkEntry {H : Type} : Lit × DataW H → Nat
  | (.string bytes, d) => bytes.length + uptoBulk d + 1
  | (_, d) => uptoBulk d + 1
 end
def uptoSmall : (H : Type) → List (DataW H) → Bool := fun _ ds => decide (uptoBulkAll ds ≤ 1048576)
def OpenSpec.upto (s : _root_.Go.ChangeSpec) : _root_.Go.OpenSpec := { _root_.Go.OpenSpec.ofChange s with cond := some uptoSmall }

/-- 'pomacelaw06.CoordMatches', WHERE WHAT IT READS IS OF BULK AT MOST 1048576: true; the input reads as it did. -/
def coordMatchesUptoRow : OpenClaim := { program := "ytldhgdoeehnbjaadoor", sum := "c8186e98677013ccb72cf00ea5a81912f702046588b819ddbfb277925bcdbf29", func := "pomace/pomacelaw06.CoordMatches", spec := "coordMatches", inPlace := ["internal/bytealg.CountString", "internal/bytealg.IndexByteString", "internal/bytealg.IndexString"], named := ["unicode/utf8.first", "unicode/utf8.acceptRanges", "internal/bytealg.MaxLen"], apart := false, laid := [("unicode/utf8.acceptRanges", laid_unicode_utf8_acceptRanges), ("unicode/utf8.first", laid_unicode_utf8_first)], narrowed := true }
def CoordMatchesUptoSaid : Prop := coordMatchesUptoRow.holds Tryd.pinned (OpenSpec.upto coordMatchesSpec)

/-- 'pomacelaw06.CoordDerives', WHERE WHAT IT READS IS OF BULK AT MOST 1048576: true; the input reads as it did. -/
def coordDerivesUptoRow : OpenClaim := { program := "ytldhgdoeehnbjaadoor", sum := "c8186e98677013ccb72cf00ea5a81912f702046588b819ddbfb277925bcdbf29", func := "pomace/pomacelaw06.CoordDerives", spec := "coordDerives", inPlace := ["internal/bytealg.CountString", "internal/bytealg.IndexByteString", "internal/bytealg.IndexString"], named := ["unicode/utf8.first", "unicode/utf8.acceptRanges", "internal/bytealg.MaxLen"], apart := false, laid := [("unicode/utf8.acceptRanges", laid_unicode_utf8_acceptRanges), ("unicode/utf8.first", laid_unicode_utf8_first)], narrowed := true }
def CoordDerivesUptoSaid : Prop := coordDerivesUptoRow.holds Tryd.pinned (OpenSpec.upto coordDerivesSpec)

/-- 'pomacelaw06.CoordTogether', WHERE WHAT IT READS IS OF BULK AT MOST 1048576: true; the input reads as it did. -/
def coordTogetherUptoRow : OpenClaim := { program := "ytldhgdoeehnbjaadoor", sum := "c8186e98677013ccb72cf00ea5a81912f702046588b819ddbfb277925bcdbf29", func := "pomace/pomacelaw06.CoordTogether", spec := "coordTogether", inPlace := ["internal/bytealg.CountString", "internal/bytealg.IndexByteString", "internal/bytealg.IndexString"], named := ["unicode/utf8.first", "unicode/utf8.acceptRanges", "internal/bytealg.MaxLen"], apart := false, laid := [("unicode/utf8.acceptRanges", laid_unicode_utf8_acceptRanges), ("unicode/utf8.first", laid_unicode_utf8_first)], narrowed := true }
def CoordTogetherUptoSaid : Prop := coordTogetherUptoRow.holds Tryd.pinned (OpenSpec.upto coordTogetherSpec)

/-- 'pomacelaw06.CoordCompares', WHERE WHAT IT READS IS OF BULK AT MOST 1048576: true; the input reads as it did. -/
def coordComparesUptoRow : OpenClaim := { program := "ytldhgdoeehnbjaadoor", sum := "c8186e98677013ccb72cf00ea5a81912f702046588b819ddbfb277925bcdbf29", func := "pomace/pomacelaw06.CoordCompares", spec := "coordCompares", inPlace := ["internal/bytealg.CountString", "internal/bytealg.IndexByteString", "internal/bytealg.IndexString", "internal/bytealg.abigen_runtime_cmpstring"], named := ["unicode/utf8.first", "unicode/utf8.acceptRanges", "internal/bytealg.MaxLen"], apart := false, laid := [("unicode/utf8.acceptRanges", laid_unicode_utf8_acceptRanges), ("unicode/utf8.first", laid_unicode_utf8_first)], narrowed := true }
def CoordComparesUptoSaid : Prop := coordComparesUptoRow.holds Tryd.pinned (OpenSpec.upto coordComparesSpec)

/-- 'pomacelaw06.CoordIds', WHERE WHAT IT READS IS OF BULK AT MOST 1048576: true; the input reads as it did. -/
def coordIdsUptoRow : OpenClaim := { program := "ytldhgdoeehnbjaadoor", sum := "c8186e98677013ccb72cf00ea5a81912f702046588b819ddbfb277925bcdbf29", func := "pomace/pomacelaw06.CoordIds", spec := "coordIds", inPlace := ["internal/bytealg.CountString", "internal/bytealg.IndexByteString", "internal/bytealg.IndexString"], named := ["unicode/utf8.first", "unicode/utf8.acceptRanges", "internal/bytealg.MaxLen"], apart := false, laid := [("unicode/utf8.acceptRanges", laid_unicode_utf8_acceptRanges), ("unicode/utf8.first", laid_unicode_utf8_first)], narrowed := true }
def CoordIdsUptoSaid : Prop := coordIdsUptoRow.holds Tryd.pinned (OpenSpec.upto coordIdsSpec)

/-- 'pomacelaw06.CoordScopes', WHERE WHAT IT READS IS OF BULK AT MOST 1048576: true; the input reads as it did. -/
def coordScopesUptoRow : OpenClaim := { program := "ytldhgdoeehnbjaadoor", sum := "c8186e98677013ccb72cf00ea5a81912f702046588b819ddbfb277925bcdbf29", func := "pomace/pomacelaw06.CoordScopes", spec := "coordScopes", inPlace := ["internal/bytealg.CountString", "internal/bytealg.IndexByteString", "internal/bytealg.IndexString"], named := ["unicode/utf8.first", "unicode/utf8.acceptRanges", "internal/bytealg.MaxLen"], apart := false, laid := [("unicode/utf8.acceptRanges", laid_unicode_utf8_acceptRanges), ("unicode/utf8.first", laid_unicode_utf8_first)], narrowed := true }
def CoordScopesUptoSaid : Prop := coordScopesUptoRow.holds Tryd.pinned (OpenSpec.upto coordScopesSpec)

/-- 'pomacelaw06.CoordParses', WHERE WHAT IT READS IS OF BULK AT MOST 1048576: true; the input reads as it did. -/
def coordParsesUptoRow : OpenClaim := { program := "ytldhgdoeehnbjaadoor", sum := "c8186e98677013ccb72cf00ea5a81912f702046588b819ddbfb277925bcdbf29", func := "pomace/pomacelaw06.CoordParses", spec := "coordParses", inPlace := ["internal/bytealg.CountString", "internal/bytealg.IndexByteString", "internal/bytealg.IndexString"], named := ["unicode/utf8.first", "unicode/utf8.acceptRanges", "internal/bytealg.MaxLen"], apart := false, laid := [("unicode/utf8.acceptRanges", laid_unicode_utf8_acceptRanges), ("unicode/utf8.first", laid_unicode_utf8_first)], narrowed := true }
def CoordParsesUptoSaid : Prop := coordParsesUptoRow.holds Tryd.pinned (OpenSpec.upto coordParsesSpec)

/-- 'pomacelaw06.CoordPrints', WHERE WHAT IT READS IS OF BULK AT MOST 1048576: true; the input reads as it did. -/
def coordPrintsUptoRow : OpenClaim := { program := "ytldhgdoeehnbjaadoor", sum := "c8186e98677013ccb72cf00ea5a81912f702046588b819ddbfb277925bcdbf29", func := "pomace/pomacelaw06.CoordPrints", spec := "coordPrints", inPlace := ["internal/bytealg.CountString", "internal/bytealg.IndexByteString", "internal/bytealg.IndexString"], named := ["unicode/utf8.first", "unicode/utf8.acceptRanges", "internal/bytealg.MaxLen"], apart := false, laid := [("unicode/utf8.acceptRanges", laid_unicode_utf8_acceptRanges), ("unicode/utf8.first", laid_unicode_utf8_first)], narrowed := true }
def CoordPrintsUptoSaid : Prop := coordPrintsUptoRow.holds Tryd.pinned (OpenSpec.upto coordPrintsSpec)

end Rows
end Go.Proofs.YtldhgdoeehnbjaaDoor
