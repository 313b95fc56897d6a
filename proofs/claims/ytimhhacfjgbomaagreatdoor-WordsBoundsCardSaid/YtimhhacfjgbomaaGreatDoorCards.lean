/-
  DERIVED. GIVEN WITH THE SEED: THE CARDS: each row of YtimhhacfjgbomaaGreatDoorRows.lean that lists a variable, with what it lists TIED to the program's text (the seventh form; the later family's looks); each row that meets fmt, with fmt's text TOLD by the authors' own Lean function (tested against real Go, not proved from fmt's source: count such statements apart). THE CARD IS WHAT COUNTS. Prove the row's statement (the work); the ties are given (YtimhhacfjgbomaaGreatDoorTie.lean); close each card by the builder's one call (the guide's Derived/Test/ToyasCard.lean, 'card_holds'). Laid BY PROGRAM, IN A SANDBOX (cutbox-door.mjs). By AI agents, Wed Nov 11 2026. No macro, syntax, notation, axiom, sorry.
-/
import Derived.Test.YtimhhacfjgbomaaGreatDoorRows
import GoSem.ClaimSeven
namespace Go.Proofs.YtimhhacfjgbomaaGreatDoor
namespace Rows

/-- THE TIED CARD OF 'latticelaw03.WordsTexts'. -/
def wordsTextsCard : Claim7 := { stood := { row := wordsTextsRow, standIns := [], harness := (true, "3b56b11f8f8e2cf41fb1bcb6bbac2644d95f533509372ad2ab46846879747c53"), looks := true }, kinds := [], alts := [], laidByText := true, laidKinds := [.data, .data, .data, .data, .sentinel, .sentinel, .pinned, .pinned], laidTests := true, laidLooks := .later }
def WordsTextsCardSaid : Prop := Claim7.holds Tryz.pinned (.plain (OpenSpec.ofChange wordsTextsSpec)) wordsTextsCard

/-- THE TIED CARD OF 'latticelaw03.WordsNames'. -/
def wordsNamesCard : Claim7 := { stood := { row := wordsNamesRow, standIns := [], harness := (true, "3b56b11f8f8e2cf41fb1bcb6bbac2644d95f533509372ad2ab46846879747c53"), looks := true }, kinds := [], alts := [], laidByText := true, laidKinds := [.data, .data, .data, .data, .sentinel, .sentinel, .pinned, .pinned], laidTests := true, laidLooks := .later }
def WordsNamesCardSaid : Prop := Claim7.holds Tryz.pinned (.plain (OpenSpec.ofChange wordsNamesSpec)) wordsNamesCard

/-- THE TIED CARD OF 'latticelaw03.WordsBounds'. -/
def wordsBoundsCard : Claim7 := { stood := { row := wordsBoundsRow, standIns := [], harness := (true, "3b56b11f8f8e2cf41fb1bcb6bbac2644d95f533509372ad2ab46846879747c53"), looks := true }, kinds := [], alts := [], laidByText := true, laidKinds := [.data, .data, .data, .data, .sentinel, .sentinel, .pinned, .pinned], laidTests := true, laidLooks := .later }
def WordsBoundsCardSaid : Prop := Claim7.holds Tryz.pinned (.plain (OpenSpec.ofChange wordsBoundsSpec)) wordsBoundsCard

/-- THE TIED CARD OF 'latticelaw03.WordsSpells'. -/
def wordsSpellsCard : Claim7 := { stood := { row := wordsSpellsRow, standIns := [], harness := (true, "3b56b11f8f8e2cf41fb1bcb6bbac2644d95f533509372ad2ab46846879747c53"), looks := true }, kinds := [], alts := [], laidByText := true, laidKinds := [.data, .data, .data, .data, .sentinel, .sentinel, .pinned, .pinned], laidTests := true, laidLooks := .later }
def WordsSpellsCardSaid : Prop := Claim7.holds Tryz.pinned (.plain (OpenSpec.ofChange wordsSpellsSpec)) wordsSpellsCard

/-- THE TIED CARD OF 'latticelaw03.WordsJoin'. -/
def wordsJoinCard : Claim7 := { stood := { row := wordsJoinRow, standIns := [], harness := (true, "3b56b11f8f8e2cf41fb1bcb6bbac2644d95f533509372ad2ab46846879747c53"), looks := true }, kinds := [], alts := [], laidByText := true, laidKinds := [.data, .data, .data, .data, .sentinel, .sentinel, .pinned, .pinned], laidTests := true, laidLooks := .later }
def WordsJoinCardSaid : Prop := Claim7.holds Tryz.pinned (.plain (OpenSpec.ofChange wordsJoinSpec)) wordsJoinCard

/-- THE TIED CARD OF 'latticelaw03.WordsPrints'. -/
def wordsPrintsCard : Claim7 := { stood := { row := wordsPrintsRow, standIns := [], harness := (true, "3b56b11f8f8e2cf41fb1bcb6bbac2644d95f533509372ad2ab46846879747c53"), looks := true }, kinds := [], alts := [], laidByText := true, laidKinds := [.data, .data, .data, .data, .sentinel, .sentinel, .pinned, .pinned], laidTests := true, laidLooks := .later }
def WordsPrintsCardSaid : Prop := Claim7.holds Tryz.pinned (.plain (OpenSpec.ofChange wordsPrintsSpec)) wordsPrintsCard

/-- THE TIED CARD OF 'latticelaw03.WordsBack'. -/
def wordsBackCard : Claim7 := { stood := { row := wordsBackRow, standIns := [], harness := (true, "3b56b11f8f8e2cf41fb1bcb6bbac2644d95f533509372ad2ab46846879747c53"), looks := true }, kinds := [], alts := [], laidByText := true, laidKinds := [.data, .data, .data, .data, .sentinel, .sentinel, .pinned, .pinned], laidTests := true, laidLooks := .later }
def WordsBackCardSaid : Prop := Claim7.holds Tryz.pinned (.plain (OpenSpec.ofChange wordsBackSpec)) wordsBackCard

/-- THE TIED CARD OF 'latticelaw03.WordsGaps'. -/
def wordsGapsCard : Claim7 := { stood := { row := wordsGapsRow, standIns := [], harness := (true, "3b56b11f8f8e2cf41fb1bcb6bbac2644d95f533509372ad2ab46846879747c53"), looks := true }, kinds := [], alts := [], laidByText := true, laidKinds := [.data, .data, .data, .data, .sentinel, .sentinel, .pinned, .pinned], laidTests := true, laidLooks := .later }
def WordsGapsCardSaid : Prop := Claim7.holds Tryz.pinned (.plain (OpenSpec.ofChange wordsGapsSpec)) wordsGapsCard

/-- THE SECOND FORM's CARD OF 'latticelaw03.WordsTexts'. -/
def wordsTextsUptoCard : Claim7 := { stood := { row := wordsTextsUptoRow, standIns := [], harness := (true, "3b56b11f8f8e2cf41fb1bcb6bbac2644d95f533509372ad2ab46846879747c53"), looks := true }, kinds := [], alts := [], laidByText := true, laidKinds := [.data, .data, .data, .data, .sentinel, .sentinel, .pinned, .pinned], laidTests := true, laidLooks := .later }
def WordsTextsUptoCardSaid : Prop := Claim7.holds Tryz.pinned (.plain (OpenSpec.upto wordsTextsSpec)) wordsTextsUptoCard

/-- THE SECOND FORM's CARD OF 'latticelaw03.WordsNames'. -/
def wordsNamesUptoCard : Claim7 := { stood := { row := wordsNamesUptoRow, standIns := [], harness := (true, "3b56b11f8f8e2cf41fb1bcb6bbac2644d95f533509372ad2ab46846879747c53"), looks := true }, kinds := [], alts := [], laidByText := true, laidKinds := [.data, .data, .data, .data, .sentinel, .sentinel, .pinned, .pinned], laidTests := true, laidLooks := .later }
def WordsNamesUptoCardSaid : Prop := Claim7.holds Tryz.pinned (.plain (OpenSpec.upto wordsNamesSpec)) wordsNamesUptoCard

/-- THE SECOND FORM's CARD OF 'latticelaw03.WordsBounds'. -/
def wordsBoundsUptoCard : Claim7 := { stood := { row := wordsBoundsUptoRow, standIns := [], harness := (true, "3b56b11f8f8e2cf41fb1bcb6bbac2644d95f533509372ad2ab46846879747c53"), looks := true }, kinds := [], alts := [], laidByText := true, laidKinds := [.data, .data, .data, .data, .sentinel, .sentinel, .pinned, .pinned], laidTests := true, laidLooks := .later }
def WordsBoundsUptoCardSaid : Prop := Claim7.holds Tryz.pinned (.plain (OpenSpec.upto wordsBoundsSpec)) wordsBoundsUptoCard

/-- THE SECOND FORM's CARD OF 'latticelaw03.WordsSpells'. -/
def wordsSpellsUptoCard : Claim7 := { stood := { row := wordsSpellsUptoRow, standIns := [], harness := (true, "3b56b11f8f8e2cf41fb1bcb6bbac2644d95f533509372ad2ab46846879747c53"), looks := true }, kinds := [], alts := [], laidByText := true, laidKinds := [.data, .data, .data, .data, .sentinel, .sentinel, .pinned, .pinned], laidTests := true, laidLooks := .later }
def WordsSpellsUptoCardSaid : Prop := Claim7.holds Tryz.pinned (.plain (OpenSpec.upto wordsSpellsSpec)) wordsSpellsUptoCard

/-- THE SECOND FORM's CARD OF 'latticelaw03.WordsJoin'. -/
def wordsJoinUptoCard : Claim7 := { stood := { row := wordsJoinUptoRow, standIns := [], harness := (true, "3b56b11f8f8e2cf41fb1bcb6bbac2644d95f533509372ad2ab46846879747c53"), looks := true }, kinds := [], alts := [], laidByText := true, laidKinds := [.data, .data, .data, .data, .sentinel, .sentinel, .pinned, .pinned], laidTests := true, laidLooks := .later }
def WordsJoinUptoCardSaid : Prop := Claim7.holds Tryz.pinned (.plain (OpenSpec.upto wordsJoinSpec)) wordsJoinUptoCard

/-- THE SECOND FORM's CARD OF 'latticelaw03.WordsPrints'. -/
def wordsPrintsUptoCard : Claim7 := { stood := { row := wordsPrintsUptoRow, standIns := [], harness := (true, "3b56b11f8f8e2cf41fb1bcb6bbac2644d95f533509372ad2ab46846879747c53"), looks := true }, kinds := [], alts := [], laidByText := true, laidKinds := [.data, .data, .data, .data, .sentinel, .sentinel, .pinned, .pinned], laidTests := true, laidLooks := .later }
def WordsPrintsUptoCardSaid : Prop := Claim7.holds Tryz.pinned (.plain (OpenSpec.upto wordsPrintsSpec)) wordsPrintsUptoCard

/-- THE SECOND FORM's CARD OF 'latticelaw03.WordsBack'. -/
def wordsBackUptoCard : Claim7 := { stood := { row := wordsBackUptoRow, standIns := [], harness := (true, "3b56b11f8f8e2cf41fb1bcb6bbac2644d95f533509372ad2ab46846879747c53"), looks := true }, kinds := [], alts := [], laidByText := true, laidKinds := [.data, .data, .data, .data, .sentinel, .sentinel, .pinned, .pinned], laidTests := true, laidLooks := .later }
def WordsBackUptoCardSaid : Prop := Claim7.holds Tryz.pinned (.plain (OpenSpec.upto wordsBackSpec)) wordsBackUptoCard

/-- THE SECOND FORM's CARD OF 'latticelaw03.WordsGaps'. -/
def wordsGapsUptoCard : Claim7 := { stood := { row := wordsGapsUptoRow, standIns := [], harness := (true, "3b56b11f8f8e2cf41fb1bcb6bbac2644d95f533509372ad2ab46846879747c53"), looks := true }, kinds := [], alts := [], laidByText := true, laidKinds := [.data, .data, .data, .data, .sentinel, .sentinel, .pinned, .pinned], laidTests := true, laidLooks := .later }
def WordsGapsUptoCardSaid : Prop := Claim7.holds Tryz.pinned (.plain (OpenSpec.upto wordsGapsSpec)) wordsGapsUptoCard
end Rows
end Go.Proofs.YtimhhacfjgbomaaGreatDoor
