/-
  DERIVED. GIVEN WITH THE SEED: THE CARDS: each row of YtlokoepljmlcgaaDoorRows.lean that lists a variable, with what it lists TIED to the program's text (the seventh form; the later family's looks); each row that meets fmt, with fmt's text TOLD by the authors' own Lean function (tested against real Go, not proved from fmt's source: count such statements apart). THE CARD IS WHAT COUNTS. Prove the row's statement (the work); the ties are given (YtlokoepljmlcgaaDoorTie.lean); close each card by the builder's one call (the guide's Derived/Test/ToyasCard.lean, 'card_holds'). Laid BY PROGRAM, IN A SANDBOX (cutbox-door.mjs). By AI agents, Wed Nov 11 2026. No macro, syntax, notation, axiom, sorry.
-/
import Derived.Test.YtlokoepljmlcgaaDoorRows
import GoSem.ClaimSeven
namespace Go.Proofs.YtlokoepljmlcgaaDoor
namespace Rows

/-- THE TIED CARD OF 'latticelaw02.LogicTruths'. -/
def logicTruthsCard : Claim7 := { stood := { row := logicTruthsRow, standIns := [], harness := (true, "49723bc537f89e342720df6ec3b9920eafe12abfe647d55ce16487350a048a46"), looks := true }, kinds := [], alts := [], laidByText := true, laidKinds := [.data, .pinned], laidTests := true, laidLooks := .later }
def LogicTruthsCardSaid : Prop := Claim7.holds Tryd.pinned (.plain (OpenSpec.ofChange logicTruthsSpec)) logicTruthsCard

/-- THE TIED CARD OF 'latticelaw02.LogicSteps'. -/
def logicStepsCard : Claim7 := { stood := { row := logicStepsRow, standIns := [], harness := (true, "49723bc537f89e342720df6ec3b9920eafe12abfe647d55ce16487350a048a46"), looks := true }, kinds := [], alts := [], laidByText := true, laidKinds := [.data, .pinned], laidTests := true, laidLooks := .later }
def LogicStepsCardSaid : Prop := Claim7.holds Tryd.pinned (.plain (OpenSpec.ofChange logicStepsSpec)) logicStepsCard

/-- THE TIED CARD OF 'latticelaw02.LogicValues'. -/
def logicValuesCard : Claim7 := { stood := { row := logicValuesRow, standIns := [], harness := (true, "49723bc537f89e342720df6ec3b9920eafe12abfe647d55ce16487350a048a46"), looks := true }, kinds := [], alts := [], laidByText := true, laidKinds := [.data, .pinned], laidTests := true, laidLooks := .later }
def LogicValuesCardSaid : Prop := Claim7.holds Tryd.pinned (.plain (OpenSpec.ofChange logicValuesSpec)) logicValuesCard

/-- THE SECOND FORM's CARD OF 'latticelaw02.LogicTruths'. -/
def logicTruthsUptoCard : Claim7 := { stood := { row := logicTruthsUptoRow, standIns := [], harness := (true, "49723bc537f89e342720df6ec3b9920eafe12abfe647d55ce16487350a048a46"), looks := true }, kinds := [], alts := [], laidByText := true, laidKinds := [.data, .pinned], laidTests := true, laidLooks := .later }
def LogicTruthsUptoCardSaid : Prop := Claim7.holds Tryd.pinned (.plain (OpenSpec.upto logicTruthsSpec)) logicTruthsUptoCard

/-- THE SECOND FORM's CARD OF 'latticelaw02.LogicSteps'. -/
def logicStepsUptoCard : Claim7 := { stood := { row := logicStepsUptoRow, standIns := [], harness := (true, "49723bc537f89e342720df6ec3b9920eafe12abfe647d55ce16487350a048a46"), looks := true }, kinds := [], alts := [], laidByText := true, laidKinds := [.data, .pinned], laidTests := true, laidLooks := .later }
def LogicStepsUptoCardSaid : Prop := Claim7.holds Tryd.pinned (.plain (OpenSpec.upto logicStepsSpec)) logicStepsUptoCard

/-- THE SECOND FORM's CARD OF 'latticelaw02.LogicValues'. -/
def logicValuesUptoCard : Claim7 := { stood := { row := logicValuesUptoRow, standIns := [], harness := (true, "49723bc537f89e342720df6ec3b9920eafe12abfe647d55ce16487350a048a46"), looks := true }, kinds := [], alts := [], laidByText := true, laidKinds := [.data, .pinned], laidTests := true, laidLooks := .later }
def LogicValuesUptoCardSaid : Prop := Claim7.holds Tryd.pinned (.plain (OpenSpec.upto logicValuesSpec)) logicValuesUptoCard
end Rows
end Go.Proofs.YtlokoepljmlcgaaDoor
