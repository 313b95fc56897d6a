/-
  THE LAW LogicTruths: long inputs, and what came in.
-/
import Derived.Test.YtlokoepljmlcgaaDoorTruthsW
namespace Go.Proofs.YtlokoepljmlcgaaDoor
set_option linter.unusedSimpArgs false
set_option linter.unusedVariables false
open Go.RowKit Go.Shelf

theorem truths_long (a : Option Addr) (len cap : Nat) (x y : Int) (w : World) (h : 1000 < len) :
    Calls Tryd.prog 3 #[.slice a len cap, .int .i64 x, .int .i64 y] w fun e w' => e = .returned (.bool true) ∧ Below w.heap.size w w' := by
  go_enter Tryd.func3, Tryd.ntmps3
  go_wp2_with (go_at_call 6; go_fit (works_any _); rintro e w' ⟨rfl, hbel⟩)
  go_ret
  exact ⟨rfl, hbel⟩

theorem truthsW (a : Option Addr) (len cap : Nat) (zs : List Int) (x y : Int) (w : World) (h : IsRow .i64 w a len cap zs) (_ : (Lit.int .i64 x).wf = true) (_ : (Lit.int .i64 y).wf = true) (hT : Lib.Utf8Tabs 0 1 w) :
    Calls Tryd.prog 3 #[.slice a len cap, .int .i64 x, .int .i64 y] w fun e w' => e = .returned (.bool true) ∧ Below w.heap.size w w' := by
  by_cases hl : 1000 < len
  · exact truths_long a len cap x y w hl
  · obtain ⟨hr, hn, hle⟩ := row_of h
    exact truths_walk a len cap (zs.take len) x y w hn.symm hr (by omega) (by
      intro ha; rcases h with ⟨_, h1, h2, _⟩ | ⟨x, hx, _⟩
      · exact ⟨h1, h2⟩
      · rw [ha] at hx; cases hx) hT
end Go.Proofs.YtlokoepljmlcgaaDoor
