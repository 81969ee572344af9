/-
  No cell of these rows narrows 'for every input' (looked for: loops, veiled, ifaces, maps, wideKeys, modest, calm, conditions, laid).
  DERIVED. THE GIVEN ROWS OF THIS SEAT. 5 by the template 'for every input the law returns true; each argument reads behind the call as it read before'; 0 by the template 'total and deterministic' (their statements: YtcebafeaikipmaaTotals.lean).
  GIVEN WITH THE SEED: the statements are not yours to turn. If you find one false, say at which input.
  Laid BY PROGRAM, IN A SANDBOX (cutbox-rows.mjs): the forced cells as the released guide's own fill.sh prints them over the translation ea0879fc5d274049… (all of the seat's roots in one cut). By AI agents, Wed Nov 11 2026. No macro, syntax, notation, axiom, sorry.
-/
import Derived.Test.YtcebafeaikipmaaChecked
import GoSem.Claim
import GoSem.ClaimJoined
import GoSem.ClaimMapViews
import Derived.JoinedTies
import Derived.KernelRfl
namespace Go.Proofs.Ytcebafeaikipmaa
/- THE CELL 'sum', in the pinned program and in every row, IS THE sha256 OF THE DUMP (.gsa) THAT YtcebafeaikipmaaProg.lean LOADS. Nothing in Lean hashes anything: it is a label: what it is worth is what the hold of that sum in a sandbox is worth. -/
noncomputable def Try.pinned : Pinned := { name := "ytcebafeaikipmaa", sum := "ea0879fc5d27404929d067b77d4bdc4a253ca4a0dc5661f39421a871d17da126", checked := Try.checked }
namespace Rows
def none {H : Type} : Left H := { results := [], args := [] }

/-- 'pomacelaw27.CoreOnly': WHATEVER THE INPUT: true; the input reads as it did. -/
def coreOnlySpec : ChangeSpec := { name := "coreOnly", fn := fun _ => fun
  | [d1, d2] => { results := [.lit (.bool true)], args := [d1, d2] }
  | _ => none }
def coreOnlyRow : OpenClaim := { program := "ytcebafeaikipmaa", sum := "ea0879fc5d27404929d067b77d4bdc4a253ca4a0dc5661f39421a871d17da126", func := "pomace/pomacelaw27.CoreOnly", spec := "coreOnly", unfollowed := true, recurses := true, plainKeys := false, apart := false }
def CoreOnlySaid : Prop := coreOnlyRow.holds Try.pinned (OpenSpec.ofChange coreOnlySpec)

/-- ITS FALSE NEIGHBOUR: 'it returns false'. Refute it at one input. -/
def coreOnlyWrong : ChangeSpec := { name := "coreOnly", fn := fun _ => fun
  | [d1, d2] => { results := [.lit (.bool false)], args := [d1, d2] }
  | _ => none }
def CoreOnlyWrongFalsely : Prop := coreOnlyRow.holds Try.pinned (OpenSpec.ofChange coreOnlyWrong)

/-- 'pomacelaw27.CoreOf': WHATEVER THE INPUT: true; the input reads as it did. -/
def coreOfSpec : ChangeSpec := { name := "coreOf", fn := fun _ => fun
  | [d] => { results := [.lit (.bool true)], args := [d] }
  | _ => none }
def coreOfRow : OpenClaim := { program := "ytcebafeaikipmaa", sum := "ea0879fc5d27404929d067b77d4bdc4a253ca4a0dc5661f39421a871d17da126", func := "pomace/pomacelaw27.CoreOf", spec := "coreOf", unfollowed := true, recurses := true, plainKeys := false, apart := false }
def CoreOfSaid : Prop := coreOfRow.holds Try.pinned (OpenSpec.ofChange coreOfSpec)

/-- ITS FALSE NEIGHBOUR: 'it returns false'. Refute it at one input. -/
def coreOfWrong : ChangeSpec := { name := "coreOf", fn := fun _ => fun
  | [d] => { results := [.lit (.bool false)], args := [d] }
  | _ => none }
def CoreOfWrongFalsely : Prop := coreOfRow.holds Try.pinned (OpenSpec.ofChange coreOfWrong)

/-- 'pomacelaw27.CoreLeast': WHATEVER THE INPUT: true; the input reads as it did. -/
def coreLeastSpec : ChangeSpec := { name := "coreLeast", fn := fun _ => fun
  | [d] => { results := [.lit (.bool true)], args := [d] }
  | _ => none }
def coreLeastRow : OpenClaim := { program := "ytcebafeaikipmaa", sum := "ea0879fc5d27404929d067b77d4bdc4a253ca4a0dc5661f39421a871d17da126", func := "pomace/pomacelaw27.CoreLeast", spec := "coreLeast", unfollowed := true, recurses := true, plainKeys := false, apart := false }
def CoreLeastSaid : Prop := coreLeastRow.holds Try.pinned (OpenSpec.ofChange coreLeastSpec)

/-- ITS FALSE NEIGHBOUR: 'it returns false'. Refute it at one input. -/
def coreLeastWrong : ChangeSpec := { name := "coreLeast", fn := fun _ => fun
  | [d] => { results := [.lit (.bool false)], args := [d] }
  | _ => none }
def CoreLeastWrongFalsely : Prop := coreLeastRow.holds Try.pinned (OpenSpec.ofChange coreLeastWrong)

/-- 'pomacelaw27.CoreOpen': WHATEVER THE INPUT: true; the input reads as it did. -/
def coreOpenSpec : ChangeSpec := { name := "coreOpen", fn := fun _ => fun
  | [d1, d2] => { results := [.lit (.bool true)], args := [d1, d2] }
  | _ => none }
def coreOpenRow : OpenClaim := { program := "ytcebafeaikipmaa", sum := "ea0879fc5d27404929d067b77d4bdc4a253ca4a0dc5661f39421a871d17da126", func := "pomace/pomacelaw27.CoreOpen", spec := "coreOpen", unfollowed := true, recurses := true, plainKeys := false, apart := false }
def CoreOpenSaid : Prop := coreOpenRow.holds Try.pinned (OpenSpec.ofChange coreOpenSpec)

/-- ITS FALSE NEIGHBOUR: 'it returns false'. Refute it at one input. -/
def coreOpenWrong : ChangeSpec := { name := "coreOpen", fn := fun _ => fun
  | [d1, d2] => { results := [.lit (.bool false)], args := [d1, d2] }
  | _ => none }
def CoreOpenWrongFalsely : Prop := coreOpenRow.holds Try.pinned (OpenSpec.ofChange coreOpenWrong)

/-- 'pomacelaw27.CoreHits': WHATEVER THE INPUT: true; the input reads as it did. -/
def coreHitsSpec : ChangeSpec := { name := "coreHits", fn := fun _ => fun
  | [d1, d2] => { results := [.lit (.bool true)], args := [d1, d2] }
  | _ => none }
def coreHitsRow : OpenClaim := { program := "ytcebafeaikipmaa", sum := "ea0879fc5d27404929d067b77d4bdc4a253ca4a0dc5661f39421a871d17da126", func := "pomace/pomacelaw27.CoreHits", spec := "coreHits", unfollowed := true, recurses := true, plainKeys := false, apart := false }
def CoreHitsSaid : Prop := coreHitsRow.holds Try.pinned (OpenSpec.ofChange coreHitsSpec)

/-- ITS FALSE NEIGHBOUR: 'it returns false'. Refute it at one input. -/
def coreHitsWrong : ChangeSpec := { name := "coreHits", fn := fun _ => fun
  | [d1, d2] => { results := [.lit (.bool false)], args := [d1, d2] }
  | _ => none }
def CoreHitsWrongFalsely : Prop := coreHitsRow.holds Try.pinned (OpenSpec.ofChange coreHitsWrong)

/- THE SECOND FORM. 'bulk': how many values and letters a reading holds, each counted each time it is reached (what is shared counts as often as it is met; a slice's spare places count too). A statement '..UptoSaid' is the law's where the arguments, and the package variables that the reading takes, are together of bulk at most 1048576: NARROWER than '..Said'. Prove '..Said' where nothing that the law and all that it calls make is longer than what came in: it says more and counts as full. Else prove '..UptoSaid'. A law counts once. -/
mutual
def uptoBulk {H : Type} : DataW H → Nat
  | .lit (.string bytes) => bytes.length + 1
  | .lit _ => 1
  | .nil => 1
  | .ptr d => uptoBulk d + 1
  | .slice elems spare => uptoBulkAll elems + uptoBulkAll spare + 1
  | .agg parts => uptoBulkAll parts + 1
  | .iface _ d => uptoBulk d + 1
  | .map entries => uptoBulkEntries entries + 1
  | .held _ => 1
def uptoBulkAll {H : Type} : List (DataW H) → Nat
  | [] => 0
  | d :: r => uptoBulk d + uptoBulkAll r
def uptoBulkEntries {H : Type} : List (Lit × DataW H) → Nat
  | [] => 0
  | x :: r => uptoBulkEntry x + uptoBulkEntries r
def uptoBulkEntry {H : Type} : Lit × DataW H → Nat
  | (.string bytes, d) => bytes.length + uptoBulk d + 1
  | (_, d) => uptoBulk d + 1
 end
def uptoSmall : (H : Type) → List (DataW H) → Bool := fun _ ds => decide (uptoBulkAll ds ≤ 1048576)
def OpenSpec.upto (s : _root_.Go.ChangeSpec) : _root_.Go.OpenSpec := { _root_.Go.OpenSpec.ofChange s with cond := some uptoSmall }

/-- 'pomacelaw27.CoreOnly', WHERE WHAT IT READS IS OF BULK AT MOST 1048576: true; the input reads as it did. -/
def coreOnlyUptoRow : OpenClaim := { program := "ytcebafeaikipmaa", sum := "ea0879fc5d27404929d067b77d4bdc4a253ca4a0dc5661f39421a871d17da126", func := "pomace/pomacelaw27.CoreOnly", spec := "coreOnly", unfollowed := true, recurses := true, plainKeys := false, apart := false, narrowed := true }
def CoreOnlyUptoSaid : Prop := coreOnlyUptoRow.holds Try.pinned (OpenSpec.upto coreOnlySpec)

/-- 'pomacelaw27.CoreOf', WHERE WHAT IT READS IS OF BULK AT MOST 1048576: true; the input reads as it did. -/
def coreOfUptoRow : OpenClaim := { program := "ytcebafeaikipmaa", sum := "ea0879fc5d27404929d067b77d4bdc4a253ca4a0dc5661f39421a871d17da126", func := "pomace/pomacelaw27.CoreOf", spec := "coreOf", unfollowed := true, recurses := true, plainKeys := false, apart := false, narrowed := true }
def CoreOfUptoSaid : Prop := coreOfUptoRow.holds Try.pinned (OpenSpec.upto coreOfSpec)

/-- 'pomacelaw27.CoreLeast', WHERE WHAT IT READS IS OF BULK AT MOST 1048576: true; the input reads as it did. -/
def coreLeastUptoRow : OpenClaim := { program := "ytcebafeaikipmaa", sum := "ea0879fc5d27404929d067b77d4bdc4a253ca4a0dc5661f39421a871d17da126", func := "pomace/pomacelaw27.CoreLeast", spec := "coreLeast", unfollowed := true, recurses := true, plainKeys := false, apart := false, narrowed := true }
def CoreLeastUptoSaid : Prop := coreLeastUptoRow.holds Try.pinned (OpenSpec.upto coreLeastSpec)

/-- 'pomacelaw27.CoreOpen', WHERE WHAT IT READS IS OF BULK AT MOST 1048576: true; the input reads as it did. -/
def coreOpenUptoRow : OpenClaim := { program := "ytcebafeaikipmaa", sum := "ea0879fc5d27404929d067b77d4bdc4a253ca4a0dc5661f39421a871d17da126", func := "pomace/pomacelaw27.CoreOpen", spec := "coreOpen", unfollowed := true, recurses := true, plainKeys := false, apart := false, narrowed := true }
def CoreOpenUptoSaid : Prop := coreOpenUptoRow.holds Try.pinned (OpenSpec.upto coreOpenSpec)

/-- 'pomacelaw27.CoreHits', WHERE WHAT IT READS IS OF BULK AT MOST 1048576: true; the input reads as it did. -/
def coreHitsUptoRow : OpenClaim := { program := "ytcebafeaikipmaa", sum := "ea0879fc5d27404929d067b77d4bdc4a253ca4a0dc5661f39421a871d17da126", func := "pomace/pomacelaw27.CoreHits", spec := "coreHits", unfollowed := true, recurses := true, plainKeys := false, apart := false, narrowed := true }
def CoreHitsUptoSaid : Prop := coreHitsUptoRow.holds Try.pinned (OpenSpec.upto coreHitsSpec)

end Rows
end Go.Proofs.Ytcebafeaikipmaa
