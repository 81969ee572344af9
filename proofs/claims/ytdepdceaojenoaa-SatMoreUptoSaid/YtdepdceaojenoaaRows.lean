/-
  No cell of these rows narrows 'for every input' (looked for: loops, veiled, ifaces, maps, wideKeys, modest, calm, conditions, laid).
  DERIVED. THE GIVEN ROWS OF THIS SEAT. 6 by the template 'for every input the law returns true; each argument reads behind the call as it read before'; 0 by the template 'total and deterministic' (their statements: YtdepdceaojenoaaTotals.lean).
  GIVEN WITH THE SEED: the statements are not yours to turn. If you find one false, say at which input.
  Laid BY PROGRAM, IN A SANDBOX (cutbox-rows.mjs): the forced cells as the released guide's own fill.sh prints them over the translation ad55458801e0c8eb… (all of the seat's roots in one cut). By AI agents, Wed Nov 11 2026. No macro, syntax, notation, axiom, sorry.
-/
import Derived.Test.YtdepdceaojenoaaChecked
import GoSem.Claim
import GoSem.ClaimJoined
import GoSem.ClaimMapViews
import Derived.JoinedTies
import Derived.KernelRfl
namespace Go.Proofs.Ytdepdceaojenoaa
/- THE CELL 'sum', in the pinned program and in every row, IS THE sha256 OF THE DUMP (.gsa) THAT YtdepdceaojenoaaProg.lean LOADS. Nothing in Lean hashes anything: it is a label: what it is worth is what the hold of that sum in a sandbox is worth. -/
noncomputable def Try.pinned : Pinned := { name := "ytdepdceaojenoaa", sum := "ad55458801e0c8ebd5500bf8d6a3fb38944f16a1f1d1abb1e857df5a959fba9f", checked := Try.checked }
namespace Rows
def none {H : Type} : Left H := { results := [], args := [] }

/-- 'pomacelaw15.SatMays': WHATEVER THE INPUT: true; the input reads as it did. -/
def satMaysSpec : ChangeSpec := { name := "satMays", fn := fun _ => fun
  | [d1, d2] => { results := [.lit (.bool true)], args := [d1, d2] }
  | _ => none }
def satMaysRow : OpenClaim := { program := "ytdepdceaojenoaa", sum := "ad55458801e0c8ebd5500bf8d6a3fb38944f16a1f1d1abb1e857df5a959fba9f", func := "pomace/pomacelaw15.SatMays", spec := "satMays", unfollowed := true, recurses := true, apart := false }
def SatMaysSaid : Prop := satMaysRow.holds Try.pinned (OpenSpec.ofChange satMaysSpec)

/-- ITS FALSE NEIGHBOUR: 'it returns false'. Refute it at one input. -/
def satMaysWrong : ChangeSpec := { name := "satMays", fn := fun _ => fun
  | [d1, d2] => { results := [.lit (.bool false)], args := [d1, d2] }
  | _ => none }
def SatMaysWrongFalsely : Prop := satMaysRow.holds Try.pinned (OpenSpec.ofChange satMaysWrong)

/-- 'pomacelaw15.SatSolves': WHATEVER THE INPUT: true; the input reads as it did. -/
def satSolvesSpec : ChangeSpec := { name := "satSolves", fn := fun _ => fun
  | [d] => { results := [.lit (.bool true)], args := [d] }
  | _ => none }
def satSolvesRow : OpenClaim := { program := "ytdepdceaojenoaa", sum := "ad55458801e0c8ebd5500bf8d6a3fb38944f16a1f1d1abb1e857df5a959fba9f", func := "pomace/pomacelaw15.SatSolves", spec := "satSolves", unfollowed := true, recurses := true, apart := false }
def SatSolvesSaid : Prop := satSolvesRow.holds Try.pinned (OpenSpec.ofChange satSolvesSpec)

/-- ITS FALSE NEIGHBOUR: 'it returns false'. Refute it at one input. -/
def satSolvesWrong : ChangeSpec := { name := "satSolves", fn := fun _ => fun
  | [d] => { results := [.lit (.bool false)], args := [d] }
  | _ => none }
def SatSolvesWrongFalsely : Prop := satSolvesRow.holds Try.pinned (OpenSpec.ofChange satSolvesWrong)

/-- 'pomacelaw15.SatRight': WHATEVER THE INPUT: true; the input reads as it did. -/
def satRightSpec : ChangeSpec := { name := "satRight", fn := fun _ => fun
  | [d1, d2] => { results := [.lit (.bool true)], args := [d1, d2] }
  | _ => none }
def satRightRow : OpenClaim := { program := "ytdepdceaojenoaa", sum := "ad55458801e0c8ebd5500bf8d6a3fb38944f16a1f1d1abb1e857df5a959fba9f", func := "pomace/pomacelaw15.SatRight", spec := "satRight", unfollowed := true, recurses := true, apart := false }
def SatRightSaid : Prop := satRightRow.holds Try.pinned (OpenSpec.ofChange satRightSpec)

/-- ITS FALSE NEIGHBOUR: 'it returns false'. Refute it at one input. -/
def satRightWrong : ChangeSpec := { name := "satRight", fn := fun _ => fun
  | [d1, d2] => { results := [.lit (.bool false)], args := [d1, d2] }
  | _ => none }
def SatRightWrongFalsely : Prop := satRightRow.holds Try.pinned (OpenSpec.ofChange satRightWrong)

/-- 'pomacelaw15.SatMore': WHATEVER THE INPUT: true; the input reads as it did. -/
def satMoreSpec : ChangeSpec := { name := "satMore", fn := fun _ => fun
  | [d1, d2] => { results := [.lit (.bool true)], args := [d1, d2] }
  | _ => none }
def satMoreRow : OpenClaim := { program := "ytdepdceaojenoaa", sum := "ad55458801e0c8ebd5500bf8d6a3fb38944f16a1f1d1abb1e857df5a959fba9f", func := "pomace/pomacelaw15.SatMore", spec := "satMore", unfollowed := true, recurses := true, apart := false }
def SatMoreSaid : Prop := satMoreRow.holds Try.pinned (OpenSpec.ofChange satMoreSpec)

/-- ITS FALSE NEIGHBOUR: 'it returns false'. Refute it at one input. -/
def satMoreWrong : ChangeSpec := { name := "satMore", fn := fun _ => fun
  | [d1, d2] => { results := [.lit (.bool false)], args := [d1, d2] }
  | _ => none }
def SatMoreWrongFalsely : Prop := satMoreRow.holds Try.pinned (OpenSpec.ofChange satMoreWrong)

/-- 'pomacelaw15.SatAgain': WHATEVER THE INPUT: true; the input reads as it did. -/
def satAgainSpec : ChangeSpec := { name := "satAgain", fn := fun _ => fun
  | [d1, d2] => { results := [.lit (.bool true)], args := [d1, d2] }
  | _ => none }
def satAgainRow : OpenClaim := { program := "ytdepdceaojenoaa", sum := "ad55458801e0c8ebd5500bf8d6a3fb38944f16a1f1d1abb1e857df5a959fba9f", func := "pomace/pomacelaw15.SatAgain", spec := "satAgain", unfollowed := true, recurses := true, apart := false }
def SatAgainSaid : Prop := satAgainRow.holds Try.pinned (OpenSpec.ofChange satAgainSpec)

/-- ITS FALSE NEIGHBOUR: 'it returns false'. Refute it at one input. -/
def satAgainWrong : ChangeSpec := { name := "satAgain", fn := fun _ => fun
  | [d1, d2] => { results := [.lit (.bool false)], args := [d1, d2] }
  | _ => none }
def SatAgainWrongFalsely : Prop := satAgainRow.holds Try.pinned (OpenSpec.ofChange satAgainWrong)

/-- 'pomacelaw15.SatHoles': WHATEVER THE INPUT: true; the input reads as it did. -/
def satHolesSpec : ChangeSpec := { name := "satHoles", fn := fun _ => fun
  | [d1, d2] => { results := [.lit (.bool true)], args := [d1, d2] }
  | _ => none }
def satHolesRow : OpenClaim := { program := "ytdepdceaojenoaa", sum := "ad55458801e0c8ebd5500bf8d6a3fb38944f16a1f1d1abb1e857df5a959fba9f", func := "pomace/pomacelaw15.SatHoles", spec := "satHoles", unfollowed := true, recurses := true, apart := false }
def SatHolesSaid : Prop := satHolesRow.holds Try.pinned (OpenSpec.ofChange satHolesSpec)

/-- ITS FALSE NEIGHBOUR: 'it returns false'. Refute it at one input. -/
def satHolesWrong : ChangeSpec := { name := "satHoles", fn := fun _ => fun
  | [d1, d2] => { results := [.lit (.bool false)], args := [d1, d2] }
  | _ => none }
def SatHolesWrongFalsely : Prop := satHolesRow.holds Try.pinned (OpenSpec.ofChange satHolesWrong)

/- THE SECOND FORM. 'bulk': how many values and letters a reading holds, each counted each time it is reached (what is shared counts as often as it is met; a slice's spare places count too). A statement '..UptoSaid' is the law's where the arguments, and the package variables that the reading takes, are together of bulk at most 1048576: NARROWER than '..Said'. Prove '..Said' where nothing that the law and all that it calls make is longer than what came in: it says more and counts as full. Else prove '..UptoSaid'. A law counts once. -/
mutual
def uptoBulk {H : Type} : DataW H → Nat
  | .lit (.string bytes) => bytes.length + 1
  | .lit _ => 1
  | .nil => 1
  | .ptr d => uptoBulk d + 1
  | .slice elems spare => uptoBulkAll elems + uptoBulkAll spare + 1
  | .agg parts => uptoBulkAll parts + 1
  | .iface _ d => uptoBulk d + 1
  | .map entries => uptoBulkEntries entries + 1
  | .held _ => 1
def uptoBulkAll {H : Type} : List (DataW H) → Nat
  | [] => 0
  | d :: r => uptoBulk d + uptoBulkAll r
def uptoBulkEntries {H : Type} : List (Lit × DataW H) → Nat
  | [] => 0
  | x :: r => uptoBulkEntry x + uptoBulkEntries r
def uptoBulkEntry {H : Type} : Lit × DataW H → Nat
  | (.string bytes, d) => bytes.length + uptoBulk d + 1
  | (_, d) => uptoBulk d + 1
 end
def uptoSmall : (H : Type) → List (DataW H) → Bool := fun _ ds => decide (uptoBulkAll ds ≤ 1048576)
def OpenSpec.upto (s : _root_.Go.ChangeSpec) : _root_.Go.OpenSpec := { _root_.Go.OpenSpec.ofChange s with cond := some uptoSmall }

/-- 'pomacelaw15.SatMays', WHERE WHAT IT READS IS OF BULK AT MOST 1048576: true; the input reads as it did. -/
def satMaysUptoRow : OpenClaim := { program := "ytdepdceaojenoaa", sum := "ad55458801e0c8ebd5500bf8d6a3fb38944f16a1f1d1abb1e857df5a959fba9f", func := "pomace/pomacelaw15.SatMays", spec := "satMays", unfollowed := true, recurses := true, apart := false, narrowed := true }
def SatMaysUptoSaid : Prop := satMaysUptoRow.holds Try.pinned (OpenSpec.upto satMaysSpec)

/-- 'pomacelaw15.SatSolves', WHERE WHAT IT READS IS OF BULK AT MOST 1048576: true; the input reads as it did. -/
def satSolvesUptoRow : OpenClaim := { program := "ytdepdceaojenoaa", sum := "ad55458801e0c8ebd5500bf8d6a3fb38944f16a1f1d1abb1e857df5a959fba9f", func := "pomace/pomacelaw15.SatSolves", spec := "satSolves", unfollowed := true, recurses := true, apart := false, narrowed := true }
def SatSolvesUptoSaid : Prop := satSolvesUptoRow.holds Try.pinned (OpenSpec.upto satSolvesSpec)

/-- 'pomacelaw15.SatRight', WHERE WHAT IT READS IS OF BULK AT MOST 1048576: true; the input reads as it did. -/
def satRightUptoRow : OpenClaim := { program := "ytdepdceaojenoaa", sum := "ad55458801e0c8ebd5500bf8d6a3fb38944f16a1f1d1abb1e857df5a959fba9f", func := "pomace/pomacelaw15.SatRight", spec := "satRight", unfollowed := true, recurses := true, apart := false, narrowed := true }
def SatRightUptoSaid : Prop := satRightUptoRow.holds Try.pinned (OpenSpec.upto satRightSpec)

/-- 'pomacelaw15.SatMore', WHERE WHAT IT READS IS OF BULK AT MOST 1048576: true; the input reads as it did. -/
def satMoreUptoRow : OpenClaim := { program := "ytdepdceaojenoaa", sum := "ad55458801e0c8ebd5500bf8d6a3fb38944f16a1f1d1abb1e857df5a959fba9f", func := "pomace/pomacelaw15.SatMore", spec := "satMore", unfollowed := true, recurses := true, apart := false, narrowed := true }
def SatMoreUptoSaid : Prop := satMoreUptoRow.holds Try.pinned (OpenSpec.upto satMoreSpec)

/-- 'pomacelaw15.SatAgain', WHERE WHAT IT READS IS OF BULK AT MOST 1048576: true; the input reads as it did. -/
def satAgainUptoRow : OpenClaim := { program := "ytdepdceaojenoaa", sum := "ad55458801e0c8ebd5500bf8d6a3fb38944f16a1f1d1abb1e857df5a959fba9f", func := "pomace/pomacelaw15.SatAgain", spec := "satAgain", unfollowed := true, recurses := true, apart := false, narrowed := true }
def SatAgainUptoSaid : Prop := satAgainUptoRow.holds Try.pinned (OpenSpec.upto satAgainSpec)

/-- 'pomacelaw15.SatHoles', WHERE WHAT IT READS IS OF BULK AT MOST 1048576: true; the input reads as it did. -/
def satHolesUptoRow : OpenClaim := { program := "ytdepdceaojenoaa", sum := "ad55458801e0c8ebd5500bf8d6a3fb38944f16a1f1d1abb1e857df5a959fba9f", func := "pomace/pomacelaw15.SatHoles", spec := "satHoles", unfollowed := true, recurses := true, apart := false, narrowed := true }
def SatHolesUptoSaid : Prop := satHolesUptoRow.holds Try.pinned (OpenSpec.upto satHolesSpec)

end Rows
end Go.Proofs.Ytdepdceaojenoaa
