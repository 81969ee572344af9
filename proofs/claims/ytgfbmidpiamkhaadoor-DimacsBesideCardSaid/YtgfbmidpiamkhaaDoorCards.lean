/-
  DERIVED. GIVEN WITH THE SEED: THE CARDS: each row of YtgfbmidpiamkhaaDoorRows.lean that lists a variable, with what it lists TIED to the program's text (the seventh form; the later family's looks); each row that meets fmt, with fmt's text TOLD by the authors' own Lean function (tested against real Go, not proved from fmt's source: count such statements apart). THE CARD IS WHAT COUNTS. Prove the row's statement (the work); the ties are given (YtgfbmidpiamkhaaDoorTie.lean); close each card by the builder's one call (the guide's Derived/Test/ToyasCard.lean, 'card_holds'). Laid BY PROGRAM, IN A SANDBOX (cutbox-door.mjs). By AI agents, Wed Nov 11 2026. No macro, syntax, notation, axiom, sorry.
-/
import Derived.Test.YtgfbmidpiamkhaaDoorRows
import GoSem.ClaimSeven
namespace Go.Proofs.YtgfbmidpiamkhaaDoor
namespace Rows

/-- THE TIED CARD OF 'pomacelaw28.DimacsBeside'. -/
def dimacsBesideCard : Claim7 := { stood := { row := dimacsBesideRow, standIns := [], harness := (true, "fee1049a1e9b8658bcd0659efd60f46bede4351ffe05706316aa9325695f79d7"), looks := true }, kinds := [], alts := [], laidByText := true, laidKinds := [.data, .pinned], laidTests := true, laidLooks := .later }
def DimacsBesideCardSaid : Prop := Claim7.holds Tryd.pinned (.plain (OpenSpec.ofChange dimacsBesideSpec)) dimacsBesideCard

/-- THE TIED CARD OF 'pomacelaw28.DimacsProofs'. -/
def dimacsProofsCard : Claim7 := { stood := { row := dimacsProofsRow, standIns := [], harness := (true, "fee1049a1e9b8658bcd0659efd60f46bede4351ffe05706316aa9325695f79d7"), looks := true }, kinds := [], alts := [], laidByText := true, laidKinds := [.data, .pinned], laidTests := true, laidLooks := .later }
def DimacsProofsCardSaid : Prop := Claim7.holds Tryd.pinned (.plain (OpenSpec.ofChange dimacsProofsSpec)) dimacsProofsCard

/-- THE TIED CARD OF 'pomacelaw28.DimacsAnswers'. -/
def dimacsAnswersCard : Claim7 := { stood := { row := dimacsAnswersRow, standIns := [], harness := (true, "fee1049a1e9b8658bcd0659efd60f46bede4351ffe05706316aa9325695f79d7"), looks := true }, kinds := [], alts := [], laidByText := true, laidKinds := [.data, .pinned], laidTests := true, laidLooks := .later }
def DimacsAnswersCardSaid : Prop := Claim7.holds Tryd.pinned (.plain (OpenSpec.ofChange dimacsAnswersSpec)) dimacsAnswersCard

/-- THE TIED CARD OF 'pomacelaw28.DimacsBack'. -/
def dimacsBackCard : Claim7 := { stood := { row := dimacsBackRow, standIns := [], harness := (true, "fee1049a1e9b8658bcd0659efd60f46bede4351ffe05706316aa9325695f79d7"), looks := true }, kinds := [], alts := [], laidByText := true, laidKinds := [.data, .pinned], laidTests := true, laidLooks := .later }
def DimacsBackCardSaid : Prop := Claim7.holds Tryd.pinned (.plain (OpenSpec.ofChange dimacsBackSpec)) dimacsBackCard

/-- THE SECOND FORM's CARD OF 'pomacelaw28.DimacsBeside'. -/
def dimacsBesideUptoCard : Claim7 := { stood := { row := dimacsBesideUptoRow, standIns := [], harness := (true, "fee1049a1e9b8658bcd0659efd60f46bede4351ffe05706316aa9325695f79d7"), looks := true }, kinds := [], alts := [], laidByText := true, laidKinds := [.data, .pinned], laidTests := true, laidLooks := .later }
def DimacsBesideUptoCardSaid : Prop := Claim7.holds Tryd.pinned (.plain (OpenSpec.upto dimacsBesideSpec)) dimacsBesideUptoCard

/-- THE SECOND FORM's CARD OF 'pomacelaw28.DimacsProofs'. -/
def dimacsProofsUptoCard : Claim7 := { stood := { row := dimacsProofsUptoRow, standIns := [], harness := (true, "fee1049a1e9b8658bcd0659efd60f46bede4351ffe05706316aa9325695f79d7"), looks := true }, kinds := [], alts := [], laidByText := true, laidKinds := [.data, .pinned], laidTests := true, laidLooks := .later }
def DimacsProofsUptoCardSaid : Prop := Claim7.holds Tryd.pinned (.plain (OpenSpec.upto dimacsProofsSpec)) dimacsProofsUptoCard

/-- THE SECOND FORM's CARD OF 'pomacelaw28.DimacsAnswers'. -/
def dimacsAnswersUptoCard : Claim7 := { stood := { row := dimacsAnswersUptoRow, standIns := [], harness := (true, "fee1049a1e9b8658bcd0659efd60f46bede4351ffe05706316aa9325695f79d7"), looks := true }, kinds := [], alts := [], laidByText := true, laidKinds := [.data, .pinned], laidTests := true, laidLooks := .later }
def DimacsAnswersUptoCardSaid : Prop := Claim7.holds Tryd.pinned (.plain (OpenSpec.upto dimacsAnswersSpec)) dimacsAnswersUptoCard

/-- THE SECOND FORM's CARD OF 'pomacelaw28.DimacsBack'. -/
def dimacsBackUptoCard : Claim7 := { stood := { row := dimacsBackUptoRow, standIns := [], harness := (true, "fee1049a1e9b8658bcd0659efd60f46bede4351ffe05706316aa9325695f79d7"), looks := true }, kinds := [], alts := [], laidByText := true, laidKinds := [.data, .pinned], laidTests := true, laidLooks := .later }
def DimacsBackUptoCardSaid : Prop := Claim7.holds Tryd.pinned (.plain (OpenSpec.upto dimacsBackSpec)) dimacsBackUptoCard
end Rows
end Go.Proofs.YtgfbmidpiamkhaaDoor
