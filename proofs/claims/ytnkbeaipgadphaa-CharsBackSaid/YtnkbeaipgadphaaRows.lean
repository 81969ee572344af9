/-
  No cell of these rows narrows 'for every input' (looked for: loops, veiled, ifaces, maps, wideKeys, modest, calm, conditions, laid).
  DERIVED. THE GIVEN ROWS OF THIS SEAT. 10 by the template 'for every input the law returns true; each argument reads behind the call as it read before'; 0 by the template 'total and deterministic' (their statements: YtnkbeaipgadphaaTotals.lean).
  GIVEN WITH THE SEED: the statements are not yours to turn. If you find one false, say at which input.
  Laid BY PROGRAM, IN A SANDBOX (cutbox-rows.mjs): the forced cells as the released guide's own fill.sh prints them over the translation 262cd44e8fc14a4e… (all of the seat's roots in one cut). By AI agents, Wed Nov 11 2026. No macro, syntax, notation, axiom, sorry.
-/
import Derived.Test.YtnkbeaipgadphaaChecked
import GoSem.Claim
import GoSem.ClaimJoined
import GoSem.ClaimMapViews
import Derived.JoinedTies
import Derived.KernelRfl
namespace Go.Proofs.Ytnkbeaipgadphaa
/- THE CELL 'sum', in the pinned program and in every row, IS THE sha256 OF THE DUMP (.gsa) THAT YtnkbeaipgadphaaProg.lean LOADS. Nothing in Lean hashes anything: it is a label: what it is worth is what the hold of that sum in a sandbox is worth. -/
noncomputable def Try.pinned : Pinned := { name := "ytnkbeaipgadphaa", sum := "262cd44e8fc14a4e5c70c4d11b2307620bf9a6218a70318f667f90d0d0319f47", checked := Try.checked }
namespace Rows
def none {H : Type} : Left H := { results := [], args := [] }

/-- 'pomacelaw01.CharsLetters': WHATEVER THE INPUT: true; the input reads as it did. -/
def charsLettersSpec : ChangeSpec := { name := "charsLetters", fn := fun _ => fun
  | [d] => { results := [.lit (.bool true)], args := [d] }
  | _ => none }
def charsLettersRow : OpenClaim := { program := "ytnkbeaipgadphaa", sum := "262cd44e8fc14a4e5c70c4d11b2307620bf9a6218a70318f667f90d0d0319f47", func := "pomace/pomacelaw01.CharsLetters", spec := "charsLetters", inPlace := ["internal/abi.NoEscape", "internal/bytealg.CountString", "internal/bytealg.IndexByteString", "internal/bytealg.IndexString"], unfollowed := true, recurses := true, named := ["internal/bytealg.MaxLen"], apart := false }
def CharsLettersSaid : Prop := charsLettersRow.holds Try.pinned (OpenSpec.ofChange charsLettersSpec)

/-- ITS FALSE NEIGHBOUR: 'it returns false'. Refute it at one input. -/
def charsLettersWrong : ChangeSpec := { name := "charsLetters", fn := fun _ => fun
  | [d] => { results := [.lit (.bool false)], args := [d] }
  | _ => none }
def CharsLettersWrongFalsely : Prop := charsLettersRow.holds Try.pinned (OpenSpec.ofChange charsLettersWrong)

/-- 'pomacelaw01.CharsApart': WHATEVER THE INPUT: true; the input reads as it did. -/
def charsApartSpec : ChangeSpec := { name := "charsApart", fn := fun _ => fun
  | [d1, d2] => { results := [.lit (.bool true)], args := [d1, d2] }
  | _ => none }
def charsApartRow : OpenClaim := { program := "ytnkbeaipgadphaa", sum := "262cd44e8fc14a4e5c70c4d11b2307620bf9a6218a70318f667f90d0d0319f47", func := "pomace/pomacelaw01.CharsApart", spec := "charsApart", inPlace := ["internal/abi.NoEscape", "internal/bytealg.CountString", "internal/bytealg.IndexByteString", "internal/bytealg.IndexString"], unfollowed := true, recurses := true, named := ["internal/bytealg.MaxLen"], apart := false }
def CharsApartSaid : Prop := charsApartRow.holds Try.pinned (OpenSpec.ofChange charsApartSpec)

/-- ITS FALSE NEIGHBOUR: 'it returns false'. Refute it at one input. -/
def charsApartWrong : ChangeSpec := { name := "charsApart", fn := fun _ => fun
  | [d1, d2] => { results := [.lit (.bool false)], args := [d1, d2] }
  | _ => none }
def CharsApartWrongFalsely : Prop := charsApartRow.holds Try.pinned (OpenSpec.ofChange charsApartWrong)

/-- 'pomacelaw01.CharsRefs': WHATEVER THE INPUT: true; the input reads as it did. -/
def charsRefsSpec : ChangeSpec := { name := "charsRefs", fn := fun _ => fun
  | [d] => { results := [.lit (.bool true)], args := [d] }
  | _ => none }
def charsRefsRow : OpenClaim := { program := "ytnkbeaipgadphaa", sum := "262cd44e8fc14a4e5c70c4d11b2307620bf9a6218a70318f667f90d0d0319f47", func := "pomace/pomacelaw01.CharsRefs", spec := "charsRefs", inPlace := ["internal/abi.NoEscape", "internal/bytealg.CountString", "internal/bytealg.IndexByteString", "internal/bytealg.IndexString"], unfollowed := true, recurses := true, named := ["internal/bytealg.MaxLen"], apart := false }
def CharsRefsSaid : Prop := charsRefsRow.holds Try.pinned (OpenSpec.ofChange charsRefsSpec)

/-- ITS FALSE NEIGHBOUR: 'it returns false'. Refute it at one input. -/
def charsRefsWrong : ChangeSpec := { name := "charsRefs", fn := fun _ => fun
  | [d] => { results := [.lit (.bool false)], args := [d] }
  | _ => none }
def CharsRefsWrongFalsely : Prop := charsRefsRow.holds Try.pinned (OpenSpec.ofChange charsRefsWrong)

/-- 'pomacelaw01.CharsNumbers': WHATEVER THE INPUT: true; the input reads as it did. -/
def charsNumbersSpec : ChangeSpec := { name := "charsNumbers", fn := fun _ => fun
  | [d1, d2] => { results := [.lit (.bool true)], args := [d1, d2] }
  | _ => none }
def charsNumbersRow : OpenClaim := { program := "ytnkbeaipgadphaa", sum := "262cd44e8fc14a4e5c70c4d11b2307620bf9a6218a70318f667f90d0d0319f47", func := "pomace/pomacelaw01.CharsNumbers", spec := "charsNumbers", inPlace := ["internal/abi.NoEscape", "internal/bytealg.CountString", "internal/bytealg.IndexByteString", "internal/bytealg.IndexString"], unfollowed := true, recurses := true, named := ["internal/bytealg.MaxLen"], apart := false }
def CharsNumbersSaid : Prop := charsNumbersRow.holds Try.pinned (OpenSpec.ofChange charsNumbersSpec)

/-- ITS FALSE NEIGHBOUR: 'it returns false'. Refute it at one input. -/
def charsNumbersWrong : ChangeSpec := { name := "charsNumbers", fn := fun _ => fun
  | [d1, d2] => { results := [.lit (.bool false)], args := [d1, d2] }
  | _ => none }
def CharsNumbersWrongFalsely : Prop := charsNumbersRow.holds Try.pinned (OpenSpec.ofChange charsNumbersWrong)

/-- 'pomacelaw01.CharsEscapes': WHATEVER THE INPUT: true; the input reads as it did. -/
def charsEscapesSpec : ChangeSpec := { name := "charsEscapes", fn := fun _ => fun
  | [d1, d2] => { results := [.lit (.bool true)], args := [d1, d2] }
  | _ => none }
def charsEscapesRow : OpenClaim := { program := "ytnkbeaipgadphaa", sum := "262cd44e8fc14a4e5c70c4d11b2307620bf9a6218a70318f667f90d0d0319f47", func := "pomace/pomacelaw01.CharsEscapes", spec := "charsEscapes", inPlace := ["internal/abi.NoEscape", "internal/bytealg.CountString", "internal/bytealg.IndexByteString", "internal/bytealg.IndexString"], unfollowed := true, recurses := true, named := ["internal/bytealg.MaxLen"], apart := false }
def CharsEscapesSaid : Prop := charsEscapesRow.holds Try.pinned (OpenSpec.ofChange charsEscapesSpec)

/-- ITS FALSE NEIGHBOUR: 'it returns false'. Refute it at one input. -/
def charsEscapesWrong : ChangeSpec := { name := "charsEscapes", fn := fun _ => fun
  | [d1, d2] => { results := [.lit (.bool false)], args := [d1, d2] }
  | _ => none }
def CharsEscapesWrongFalsely : Prop := charsEscapesRow.holds Try.pinned (OpenSpec.ofChange charsEscapesWrong)

/-- 'pomacelaw01.CharsBack': WHATEVER THE INPUT: true; the input reads as it did. -/
def charsBackSpec : ChangeSpec := { name := "charsBack", fn := fun _ => fun
  | [d1, d2] => { results := [.lit (.bool true)], args := [d1, d2] }
  | _ => none }
def charsBackRow : OpenClaim := { program := "ytnkbeaipgadphaa", sum := "262cd44e8fc14a4e5c70c4d11b2307620bf9a6218a70318f667f90d0d0319f47", func := "pomace/pomacelaw01.CharsBack", spec := "charsBack", inPlace := ["internal/abi.NoEscape", "internal/bytealg.CountString", "internal/bytealg.IndexByteString", "internal/bytealg.IndexString"], unfollowed := true, recurses := true, named := ["internal/bytealg.MaxLen"], apart := false }
def CharsBackSaid : Prop := charsBackRow.holds Try.pinned (OpenSpec.ofChange charsBackSpec)

/-- ITS FALSE NEIGHBOUR: 'it returns false'. Refute it at one input. -/
def charsBackWrong : ChangeSpec := { name := "charsBack", fn := fun _ => fun
  | [d1, d2] => { results := [.lit (.bool false)], args := [d1, d2] }
  | _ => none }
def CharsBackWrongFalsely : Prop := charsBackRow.holds Try.pinned (OpenSpec.ofChange charsBackWrong)

/-- 'pomacelaw01.CharsPlaces': WHATEVER THE INPUT: true; the input reads as it did. -/
def charsPlacesSpec : ChangeSpec := { name := "charsPlaces", fn := fun _ => fun
  | [d1, d2, d3] => { results := [.lit (.bool true)], args := [d1, d2, d3] }
  | _ => none }
def charsPlacesRow : OpenClaim := { program := "ytnkbeaipgadphaa", sum := "262cd44e8fc14a4e5c70c4d11b2307620bf9a6218a70318f667f90d0d0319f47", func := "pomace/pomacelaw01.CharsPlaces", spec := "charsPlaces", inPlace := ["internal/bytealg.CountString", "internal/bytealg.IndexByteString", "internal/bytealg.IndexString", "internal/abi.NoEscape"], unfollowed := true, recurses := true, named := ["internal/bytealg.MaxLen"], apart := false }
def CharsPlacesSaid : Prop := charsPlacesRow.holds Try.pinned (OpenSpec.ofChange charsPlacesSpec)

/-- ITS FALSE NEIGHBOUR: 'it returns false'. Refute it at one input. -/
def charsPlacesWrong : ChangeSpec := { name := "charsPlaces", fn := fun _ => fun
  | [d1, d2, d3] => { results := [.lit (.bool false)], args := [d1, d2, d3] }
  | _ => none }
def CharsPlacesWrongFalsely : Prop := charsPlacesRow.holds Try.pinned (OpenSpec.ofChange charsPlacesWrong)

/-- 'pomacelaw01.CharsClasses': WHATEVER THE INPUT: true; the input reads as it did. -/
def charsClassesSpec : ChangeSpec := { name := "charsClasses", fn := fun _ => fun
  | [d] => { results := [.lit (.bool true)], args := [d] }
  | _ => none }
def charsClassesRow : OpenClaim := { program := "ytnkbeaipgadphaa", sum := "262cd44e8fc14a4e5c70c4d11b2307620bf9a6218a70318f667f90d0d0319f47", func := "pomace/pomacelaw01.CharsClasses", spec := "charsClasses", inPlace := ["internal/abi.NoEscape", "internal/bytealg.CountString", "internal/bytealg.IndexByteString", "internal/bytealg.IndexString"], unfollowed := true, recurses := true, named := ["internal/bytealg.MaxLen"], apart := false }
def CharsClassesSaid : Prop := charsClassesRow.holds Try.pinned (OpenSpec.ofChange charsClassesSpec)

/-- ITS FALSE NEIGHBOUR: 'it returns false'. Refute it at one input. -/
def charsClassesWrong : ChangeSpec := { name := "charsClasses", fn := fun _ => fun
  | [d] => { results := [.lit (.bool false)], args := [d] }
  | _ => none }
def CharsClassesWrongFalsely : Prop := charsClassesRow.holds Try.pinned (OpenSpec.ofChange charsClassesWrong)

/-- 'pomacelaw01.CharsLowers': WHATEVER THE INPUT: true; the input reads as it did. -/
def charsLowersSpec : ChangeSpec := { name := "charsLowers", fn := fun _ => fun
  | [d] => { results := [.lit (.bool true)], args := [d] }
  | _ => none }
def charsLowersRow : OpenClaim := { program := "ytnkbeaipgadphaa", sum := "262cd44e8fc14a4e5c70c4d11b2307620bf9a6218a70318f667f90d0d0319f47", func := "pomace/pomacelaw01.CharsLowers", spec := "charsLowers", inPlace := ["internal/abi.NoEscape", "internal/bytealg.CountString", "internal/bytealg.IndexByteString", "internal/bytealg.IndexString"], unfollowed := true, recurses := true, named := ["internal/bytealg.MaxLen"], apart := false }
def CharsLowersSaid : Prop := charsLowersRow.holds Try.pinned (OpenSpec.ofChange charsLowersSpec)

/-- ITS FALSE NEIGHBOUR: 'it returns false'. Refute it at one input. -/
def charsLowersWrong : ChangeSpec := { name := "charsLowers", fn := fun _ => fun
  | [d] => { results := [.lit (.bool false)], args := [d] }
  | _ => none }
def CharsLowersWrongFalsely : Prop := charsLowersRow.holds Try.pinned (OpenSpec.ofChange charsLowersWrong)

/-- 'pomacelaw01.CharsNames': WHATEVER THE INPUT: true; the input reads as it did. -/
def charsNamesSpec : ChangeSpec := { name := "charsNames", fn := fun _ => fun
  | [d] => { results := [.lit (.bool true)], args := [d] }
  | _ => none }
def charsNamesRow : OpenClaim := { program := "ytnkbeaipgadphaa", sum := "262cd44e8fc14a4e5c70c4d11b2307620bf9a6218a70318f667f90d0d0319f47", func := "pomace/pomacelaw01.CharsNames", spec := "charsNames", inPlace := ["internal/abi.NoEscape", "internal/bytealg.CountString", "internal/bytealg.IndexByteString", "internal/bytealg.IndexString"], unfollowed := true, recurses := true, named := ["internal/bytealg.MaxLen"], apart := false }
def CharsNamesSaid : Prop := charsNamesRow.holds Try.pinned (OpenSpec.ofChange charsNamesSpec)

/-- ITS FALSE NEIGHBOUR: 'it returns false'. Refute it at one input. -/
def charsNamesWrong : ChangeSpec := { name := "charsNames", fn := fun _ => fun
  | [d] => { results := [.lit (.bool false)], args := [d] }
  | _ => none }
def CharsNamesWrongFalsely : Prop := charsNamesRow.holds Try.pinned (OpenSpec.ofChange charsNamesWrong)

/- THE SECOND FORM. 'bulk': how many values and letters a reading holds, each counted each time it is reached (what is shared counts as often as it is met; a slice's spare places count too). A statement '..UptoSaid' is the law's where the arguments, and the package variables that the reading takes, are together of bulk at most 1048576: NARROWER than '..Said'. Prove '..Said' where nothing that the law and all that it calls make is longer than what came in: it says more and counts as full. Else prove '..UptoSaid'. A law counts once. -/
mutual
def uptoBulk {H : Type} : DataW H → Nat
  | .lit (.string bytes) => bytes.length + 1
  | .lit _ => 1
  | .nil => 1
  | .ptr d => uptoBulk d + 1
  | .slice elems spare => uptoBulkAll elems + uptoBulkAll spare + 1
  | .agg parts => uptoBulkAll parts + 1
  | .iface _ d => uptoBulk d + 1
  | .map entries => uptoBulkEntries entries + 1
  | .held _ => 1
def uptoBulkAll {H : Type} : List (DataW H) → Nat
  | [] => 0
  | d :: r => uptoBulk d + uptoBulkAll r
def uptoBulkEntries {H : Type} : List (Lit × DataW H) → Nat
  | [] => 0
  | x :: r => uptoBulkEntry x + uptoBulkEntries r
def uptoBulkEntry {H : Type} : Lit × DataW H → Nat
  | (.string bytes, d) => bytes.length + uptoBulk d + 1
  | (_, d) => uptoBulk d + 1
 end
def uptoSmall : (H : Type) → List (DataW H) → Bool := fun _ ds => decide (uptoBulkAll ds ≤ 1048576)
def OpenSpec.upto (s : _root_.Go.ChangeSpec) : _root_.Go.OpenSpec := { _root_.Go.OpenSpec.ofChange s with cond := some uptoSmall }

/-- 'pomacelaw01.CharsLetters', WHERE WHAT IT READS IS OF BULK AT MOST 1048576: true; the input reads as it did. -/
def charsLettersUptoRow : OpenClaim := { program := "ytnkbeaipgadphaa", sum := "262cd44e8fc14a4e5c70c4d11b2307620bf9a6218a70318f667f90d0d0319f47", func := "pomace/pomacelaw01.CharsLetters", spec := "charsLetters", inPlace := ["internal/abi.NoEscape", "internal/bytealg.CountString", "internal/bytealg.IndexByteString", "internal/bytealg.IndexString"], unfollowed := true, recurses := true, named := ["internal/bytealg.MaxLen"], apart := false, narrowed := true }
def CharsLettersUptoSaid : Prop := charsLettersUptoRow.holds Try.pinned (OpenSpec.upto charsLettersSpec)

/-- 'pomacelaw01.CharsApart', WHERE WHAT IT READS IS OF BULK AT MOST 1048576: true; the input reads as it did. -/
def charsApartUptoRow : OpenClaim := { program := "ytnkbeaipgadphaa", sum := "262cd44e8fc14a4e5c70c4d11b2307620bf9a6218a70318f667f90d0d0319f47", func := "pomace/pomacelaw01.CharsApart", spec := "charsApart", inPlace := ["internal/abi.NoEscape", "internal/bytealg.CountString", "internal/bytealg.IndexByteString", "internal/bytealg.IndexString"], unfollowed := true, recurses := true, named := ["internal/bytealg.MaxLen"], apart := false, narrowed := true }
def CharsApartUptoSaid : Prop := charsApartUptoRow.holds Try.pinned (OpenSpec.upto charsApartSpec)

/-- 'pomacelaw01.CharsRefs', WHERE WHAT IT READS IS OF BULK AT MOST 1048576: true; the input reads as it did. -/
def charsRefsUptoRow : OpenClaim := { program := "ytnkbeaipgadphaa", sum := "262cd44e8fc14a4e5c70c4d11b2307620bf9a6218a70318f667f90d0d0319f47", func := "pomace/pomacelaw01.CharsRefs", spec := "charsRefs", inPlace := ["internal/abi.NoEscape", "internal/bytealg.CountString", "internal/bytealg.IndexByteString", "internal/bytealg.IndexString"], unfollowed := true, recurses := true, named := ["internal/bytealg.MaxLen"], apart := false, narrowed := true }
def CharsRefsUptoSaid : Prop := charsRefsUptoRow.holds Try.pinned (OpenSpec.upto charsRefsSpec)

/-- 'pomacelaw01.CharsNumbers', WHERE WHAT IT READS IS OF BULK AT MOST 1048576: true; the input reads as it did. -/
def charsNumbersUptoRow : OpenClaim := { program := "ytnkbeaipgadphaa", sum := "262cd44e8fc14a4e5c70c4d11b2307620bf9a6218a70318f667f90d0d0319f47", func := "pomace/pomacelaw01.CharsNumbers", spec := "charsNumbers", inPlace := ["internal/abi.NoEscape", "internal/bytealg.CountString", "internal/bytealg.IndexByteString", "internal/bytealg.IndexString"], unfollowed := true, recurses := true, named := ["internal/bytealg.MaxLen"], apart := false, narrowed := true }
def CharsNumbersUptoSaid : Prop := charsNumbersUptoRow.holds Try.pinned (OpenSpec.upto charsNumbersSpec)

/-- 'pomacelaw01.CharsEscapes', WHERE WHAT IT READS IS OF BULK AT MOST 1048576: true; the input reads as it did. -/
def charsEscapesUptoRow : OpenClaim := { program := "ytnkbeaipgadphaa", sum := "262cd44e8fc14a4e5c70c4d11b2307620bf9a6218a70318f667f90d0d0319f47", func := "pomace/pomacelaw01.CharsEscapes", spec := "charsEscapes", inPlace := ["internal/abi.NoEscape", "internal/bytealg.CountString", "internal/bytealg.IndexByteString", "internal/bytealg.IndexString"], unfollowed := true, recurses := true, named := ["internal/bytealg.MaxLen"], apart := false, narrowed := true }
def CharsEscapesUptoSaid : Prop := charsEscapesUptoRow.holds Try.pinned (OpenSpec.upto charsEscapesSpec)

/-- 'pomacelaw01.CharsBack', WHERE WHAT IT READS IS OF BULK AT MOST 1048576: true; the input reads as it did. -/
def charsBackUptoRow : OpenClaim := { program := "ytnkbeaipgadphaa", sum := "262cd44e8fc14a4e5c70c4d11b2307620bf9a6218a70318f667f90d0d0319f47", func := "pomace/pomacelaw01.CharsBack", spec := "charsBack", inPlace := ["internal/abi.NoEscape", "internal/bytealg.CountString", "internal/bytealg.IndexByteString", "internal/bytealg.IndexString"], unfollowed := true, recurses := true, named := ["internal/bytealg.MaxLen"], apart := false, narrowed := true }
def CharsBackUptoSaid : Prop := charsBackUptoRow.holds Try.pinned (OpenSpec.upto charsBackSpec)

/-- 'pomacelaw01.CharsPlaces', WHERE WHAT IT READS IS OF BULK AT MOST 1048576: true; the input reads as it did. -/
def charsPlacesUptoRow : OpenClaim := { program := "ytnkbeaipgadphaa", sum := "262cd44e8fc14a4e5c70c4d11b2307620bf9a6218a70318f667f90d0d0319f47", func := "pomace/pomacelaw01.CharsPlaces", spec := "charsPlaces", inPlace := ["internal/bytealg.CountString", "internal/bytealg.IndexByteString", "internal/bytealg.IndexString", "internal/abi.NoEscape"], unfollowed := true, recurses := true, named := ["internal/bytealg.MaxLen"], apart := false, narrowed := true }
def CharsPlacesUptoSaid : Prop := charsPlacesUptoRow.holds Try.pinned (OpenSpec.upto charsPlacesSpec)

/-- 'pomacelaw01.CharsClasses', WHERE WHAT IT READS IS OF BULK AT MOST 1048576: true; the input reads as it did. -/
def charsClassesUptoRow : OpenClaim := { program := "ytnkbeaipgadphaa", sum := "262cd44e8fc14a4e5c70c4d11b2307620bf9a6218a70318f667f90d0d0319f47", func := "pomace/pomacelaw01.CharsClasses", spec := "charsClasses", inPlace := ["internal/abi.NoEscape", "internal/bytealg.CountString", "internal/bytealg.IndexByteString", "internal/bytealg.IndexString"], unfollowed := true, recurses := true, named := ["internal/bytealg.MaxLen"], apart := false, narrowed := true }
def CharsClassesUptoSaid : Prop := charsClassesUptoRow.holds Try.pinned (OpenSpec.upto charsClassesSpec)

/-- 'pomacelaw01.CharsLowers', WHERE WHAT IT READS IS OF BULK AT MOST 1048576: true; the input reads as it did. -/
def charsLowersUptoRow : OpenClaim := { program := "ytnkbeaipgadphaa", sum := "262cd44e8fc14a4e5c70c4d11b2307620bf9a6218a70318f667f90d0d0319f47", func := "pomace/pomacelaw01.CharsLowers", spec := "charsLowers", inPlace := ["internal/abi.NoEscape", "internal/bytealg.CountString", "internal/bytealg.IndexByteString", "internal/bytealg.IndexString"], unfollowed := true, recurses := true, named := ["internal/bytealg.MaxLen"], apart := false, narrowed := true }
def CharsLowersUptoSaid : Prop := charsLowersUptoRow.holds Try.pinned (OpenSpec.upto charsLowersSpec)

/-- 'pomacelaw01.CharsNames', WHERE WHAT IT READS IS OF BULK AT MOST 1048576: true; the input reads as it did. -/
def charsNamesUptoRow : OpenClaim := { program := "ytnkbeaipgadphaa", sum := "262cd44e8fc14a4e5c70c4d11b2307620bf9a6218a70318f667f90d0d0319f47", func := "pomace/pomacelaw01.CharsNames", spec := "charsNames", inPlace := ["internal/abi.NoEscape", "internal/bytealg.CountString", "internal/bytealg.IndexByteString", "internal/bytealg.IndexString"], unfollowed := true, recurses := true, named := ["internal/bytealg.MaxLen"], apart := false, narrowed := true }
def CharsNamesUptoSaid : Prop := charsNamesUptoRow.holds Try.pinned (OpenSpec.upto charsNamesSpec)

end Rows
end Go.Proofs.Ytnkbeaipgadphaa
