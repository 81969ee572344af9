/-
  DERIVED. GIVEN WITH THE SEED: THE CARDS: each row of YtldhgdoeehnbjaaDoorRows.lean that lists a variable, with what it lists TIED to the program's text (the seventh form; the later family's looks); each row that meets fmt, with fmt's text TOLD by the authors' own Lean function (tested against real Go, not proved from fmt's source: count such statements apart). THE CARD IS WHAT COUNTS. Prove the row's statement (the work); the ties are given (YtldhgdoeehnbjaaDoorTie.lean); close each card by the builder's one call (the guide's Derived/Test/ToyasCard.lean, 'card_holds'). Laid BY PROGRAM, IN A SANDBOX (cutbox-door.mjs). By AI agents, Wed Nov 11 2026. No macro, syntax, notation, axiom, sorry.
-/
import Derived.Test.YtldhgdoeehnbjaaDoorRows
import GoSem.ClaimSeven
namespace Go.Proofs.YtldhgdoeehnbjaaDoor
namespace Rows

/-- THE TIED CARD OF 'pomacelaw06.CoordMatches'. -/
def coordMatchesCard : Claim7 := { stood := { row := coordMatchesRow, standIns := [], harness := (true, "3ec5a947c0ad84ba301818a36cabeb8949538c67182ec76d07ef73dd23cf3b27"), looks := false }, kinds := [], alts := [], laidByText := true, laidKinds := [.data, .pinned], laidTests := true, laidLooks := .later }
def CoordMatchesCardSaid : Prop := Claim7.holds Tryd.pinned (.plain (OpenSpec.ofChange coordMatchesSpec)) coordMatchesCard

/-- THE TIED CARD OF 'pomacelaw06.CoordDerives'. -/
def coordDerivesCard : Claim7 := { stood := { row := coordDerivesRow, standIns := [], harness := (true, "3ec5a947c0ad84ba301818a36cabeb8949538c67182ec76d07ef73dd23cf3b27"), looks := false }, kinds := [], alts := [], laidByText := true, laidKinds := [.data, .pinned], laidTests := true, laidLooks := .later }
def CoordDerivesCardSaid : Prop := Claim7.holds Tryd.pinned (.plain (OpenSpec.ofChange coordDerivesSpec)) coordDerivesCard

/-- THE TIED CARD OF 'pomacelaw06.CoordTogether'. -/
def coordTogetherCard : Claim7 := { stood := { row := coordTogetherRow, standIns := [], harness := (true, "3ec5a947c0ad84ba301818a36cabeb8949538c67182ec76d07ef73dd23cf3b27"), looks := false }, kinds := [], alts := [], laidByText := true, laidKinds := [.data, .pinned], laidTests := true, laidLooks := .later }
def CoordTogetherCardSaid : Prop := Claim7.holds Tryd.pinned (.plain (OpenSpec.ofChange coordTogetherSpec)) coordTogetherCard

/-- THE TIED CARD OF 'pomacelaw06.CoordCompares'. -/
def coordComparesCard : Claim7 := { stood := { row := coordComparesRow, standIns := [], harness := (true, "3ec5a947c0ad84ba301818a36cabeb8949538c67182ec76d07ef73dd23cf3b27"), looks := false }, kinds := [], alts := [], laidByText := true, laidKinds := [.data, .pinned], laidTests := true, laidLooks := .later }
def CoordComparesCardSaid : Prop := Claim7.holds Tryd.pinned (.plain (OpenSpec.ofChange coordComparesSpec)) coordComparesCard

/-- THE TIED CARD OF 'pomacelaw06.CoordIds'. -/
def coordIdsCard : Claim7 := { stood := { row := coordIdsRow, standIns := [], harness := (true, "3ec5a947c0ad84ba301818a36cabeb8949538c67182ec76d07ef73dd23cf3b27"), looks := false }, kinds := [], alts := [], laidByText := true, laidKinds := [.data, .pinned], laidTests := true, laidLooks := .later }
def CoordIdsCardSaid : Prop := Claim7.holds Tryd.pinned (.plain (OpenSpec.ofChange coordIdsSpec)) coordIdsCard

/-- THE TIED CARD OF 'pomacelaw06.CoordScopes'. -/
def coordScopesCard : Claim7 := { stood := { row := coordScopesRow, standIns := [], harness := (true, "3ec5a947c0ad84ba301818a36cabeb8949538c67182ec76d07ef73dd23cf3b27"), looks := false }, kinds := [], alts := [], laidByText := true, laidKinds := [.data, .pinned], laidTests := true, laidLooks := .later }
def CoordScopesCardSaid : Prop := Claim7.holds Tryd.pinned (.plain (OpenSpec.ofChange coordScopesSpec)) coordScopesCard

/-- THE TIED CARD OF 'pomacelaw06.CoordParses'. -/
def coordParsesCard : Claim7 := { stood := { row := coordParsesRow, standIns := [], harness := (true, "3ec5a947c0ad84ba301818a36cabeb8949538c67182ec76d07ef73dd23cf3b27"), looks := false }, kinds := [], alts := [], laidByText := true, laidKinds := [.data, .pinned], laidTests := true, laidLooks := .later }
def CoordParsesCardSaid : Prop := Claim7.holds Tryd.pinned (.plain (OpenSpec.ofChange coordParsesSpec)) coordParsesCard

/-- THE TIED CARD OF 'pomacelaw06.CoordPrints'. -/
def coordPrintsCard : Claim7 := { stood := { row := coordPrintsRow, standIns := [], harness := (true, "3ec5a947c0ad84ba301818a36cabeb8949538c67182ec76d07ef73dd23cf3b27"), looks := false }, kinds := [], alts := [], laidByText := true, laidKinds := [.data, .pinned], laidTests := true, laidLooks := .later }
def CoordPrintsCardSaid : Prop := Claim7.holds Tryd.pinned (.plain (OpenSpec.ofChange coordPrintsSpec)) coordPrintsCard

/-- THE SECOND FORM's CARD OF 'pomacelaw06.CoordMatches'. -/
def coordMatchesUptoCard : Claim7 := { stood := { row := coordMatchesUptoRow, standIns := [], harness := (true, "3ec5a947c0ad84ba301818a36cabeb8949538c67182ec76d07ef73dd23cf3b27"), looks := false }, kinds := [], alts := [], laidByText := true, laidKinds := [.data, .pinned], laidTests := true, laidLooks := .later }
def CoordMatchesUptoCardSaid : Prop := Claim7.holds Tryd.pinned (.plain (OpenSpec.upto coordMatchesSpec)) coordMatchesUptoCard

/-- THE SECOND FORM's CARD OF 'pomacelaw06.CoordDerives'. -/
def coordDerivesUptoCard : Claim7 := { stood := { row := coordDerivesUptoRow, standIns := [], harness := (true, "3ec5a947c0ad84ba301818a36cabeb8949538c67182ec76d07ef73dd23cf3b27"), looks := false }, kinds := [], alts := [], laidByText := true, laidKinds := [.data, .pinned], laidTests := true, laidLooks := .later }
def CoordDerivesUptoCardSaid : Prop := Claim7.holds Tryd.pinned (.plain (OpenSpec.upto coordDerivesSpec)) coordDerivesUptoCard

/-- THE SECOND FORM's CARD OF 'pomacelaw06.CoordTogether'. -/
def coordTogetherUptoCard : Claim7 := { stood := { row := coordTogetherUptoRow, standIns := [], harness := (true, "3ec5a947c0ad84ba301818a36cabeb8949538c67182ec76d07ef73dd23cf3b27"), looks := false }, kinds := [], alts := [], laidByText := true, laidKinds := [.data, .pinned], laidTests := true, laidLooks := .later }
def CoordTogetherUptoCardSaid : Prop := Claim7.holds Tryd.pinned (.plain (OpenSpec.upto coordTogetherSpec)) coordTogetherUptoCard

/-- THE SECOND FORM's CARD OF 'pomacelaw06.CoordCompares'. -/
def coordComparesUptoCard : Claim7 := { stood := { row := coordComparesUptoRow, standIns := [], harness := (true, "3ec5a947c0ad84ba301818a36cabeb8949538c67182ec76d07ef73dd23cf3b27"), looks := false }, kinds := [], alts := [], laidByText := true, laidKinds := [.data, .pinned], laidTests := true, laidLooks := .later }
def CoordComparesUptoCardSaid : Prop := Claim7.holds Tryd.pinned (.plain (OpenSpec.upto coordComparesSpec)) coordComparesUptoCard

/-- THE SECOND FORM's CARD OF 'pomacelaw06.CoordIds'. -/
def coordIdsUptoCard : Claim7 := { stood := { row := coordIdsUptoRow, standIns := [], harness := (true, "3ec5a947c0ad84ba301818a36cabeb8949538c67182ec76d07ef73dd23cf3b27"), looks := false }, kinds := [], alts := [], laidByText := true, laidKinds := [.data, .pinned], laidTests := true, laidLooks := .later }
def CoordIdsUptoCardSaid : Prop := Claim7.holds Tryd.pinned (.plain (OpenSpec.upto coordIdsSpec)) coordIdsUptoCard

/-- THE SECOND FORM's CARD OF 'pomacelaw06.CoordScopes'. -/
def coordScopesUptoCard : Claim7 := { stood := { row := coordScopesUptoRow, standIns := [], harness := (true, "3ec5a947c0ad84ba301818a36cabeb8949538c67182ec76d07ef73dd23cf3b27"), looks := false }, kinds := [], alts := [], laidByText := true, laidKinds := [.data, .pinned], laidTests := true, laidLooks := .later }
def CoordScopesUptoCardSaid : Prop := Claim7.holds Tryd.pinned (.plain (OpenSpec.upto coordScopesSpec)) coordScopesUptoCard

/-- THE SECOND FORM's CARD OF 'pomacelaw06.CoordParses'. -/
def coordParsesUptoCard : Claim7 := { stood := { row := coordParsesUptoRow, standIns := [], harness := (true, "3ec5a947c0ad84ba301818a36cabeb8949538c67182ec76d07ef73dd23cf3b27"), looks := false }, kinds := [], alts := [], laidByText := true, laidKinds := [.data, .pinned], laidTests := true, laidLooks := .later }
def CoordParsesUptoCardSaid : Prop := Claim7.holds Tryd.pinned (.plain (OpenSpec.upto coordParsesSpec)) coordParsesUptoCard

/-- THE SECOND FORM's CARD OF 'pomacelaw06.CoordPrints'. -/
def coordPrintsUptoCard : Claim7 := { stood := { row := coordPrintsUptoRow, standIns := [], harness := (true, "3ec5a947c0ad84ba301818a36cabeb8949538c67182ec76d07ef73dd23cf3b27"), looks := false }, kinds := [], alts := [], laidByText := true, laidKinds := [.data, .pinned], laidTests := true, laidLooks := .later }
def CoordPrintsUptoCardSaid : Prop := Claim7.holds Tryd.pinned (.plain (OpenSpec.upto coordPrintsSpec)) coordPrintsUptoCard
end Rows
end Go.Proofs.YtldhgdoeehnbjaaDoor
