/-
  THE LAW LogicSteps: every input.
-/
import Derived.Test.YtlokoepljmlcgaaDoorStepsW
namespace Go.Proofs.YtlokoepljmlcgaaDoor
set_option linter.unusedSimpArgs false
set_option linter.unusedVariables false
open Go.RowKit Go.Shelf

theorem stepsW (a z step : Int) (w : World) (ha : (Lit.int .i64 a).wf = true) (_ : (Lit.int .i64 z).wf = true) (hs : (Lit.int .i64 step).wf = true) (hT : Lib.Utf8Tabs 0 1 w) :
    Calls Tryd.prog 4 #[.int .i64 a, .int .i64 z, .int .i64 step] w fun e w' => e = .returned (.bool true) ∧ Below w.heap.size w w' := by
  by_cases hE : rangeE a z step = 0
  · by_cases hl : 300 < (rangeL a z step).length
    · exact steps_bad a z step w (wf_in64 ha) (wf_in64 hs) (.inr hl)
    · exact steps_walk a z step w (wf_in64 ha) (wf_in64 hs) hT hE (by omega)
  · exact steps_bad a z step w (wf_in64 ha) (wf_in64 hs) (.inl hE)
end Go.Proofs.YtlokoepljmlcgaaDoor
