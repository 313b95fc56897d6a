/-
  THE WALK OF value.bare: whether a value alone has just what its kind uses.
-/
import Derived.Test.YtlokoepljmlcgaaDoorIter
import Derived.Deep.DeepFit
import Derived.Deep.RegionHeld3
namespace Go.Proofs.YtlokoepljmlcgaaDoor
set_option linter.unusedSimpArgs false
set_option linter.unusedVariables false
open Go.RowKit Go.Shelf

/-- Does a value alone have just what its kind uses? -/
def bareB (x : Nd) : Bool :=
  if x.k = 1 then !(x.n != 0) && decide (x.t.toList = []) && !decide (0 < x.kl) && !decide (0 < x.ll)
  else if x.k = 6 ∨ x.k = 7 then decide (0 ≤ x.n) && (!x.b && decide (x.t.toList = []) && !decide (0 < x.kl) && !decide (0 < x.ll))
  else if x.k = 2 then !x.b && decide (x.t.toList = []) && !decide (0 < x.kl) && !decide (0 < x.ll)
  else if x.k = 3 then !x.b && !(x.n != 0) && !decide (0 < x.kl) && !decide (0 < x.ll)
  else if x.k = 5 then !x.b && !(x.n != 0) && decide (x.t.toList = [])
  else if x.k = 4 then !x.b && !(x.n != 0) && decide (x.t.toList = []) && !decide (0 < x.kl)
  else if x.k = 0 then !x.b && !(x.n != 0) && decide (x.t.toList = []) && !decide (0 < x.kl) && !decide (0 < x.ll)
  else false

set_option maxRecDepth 100000 in
set_option maxHeartbeats 4000000 in
theorem bare_any (x : Nd) (w : World) : Calls Tryd.prog 59 #[x.val] w fun e w' => e = .returned (.bool (bareB x)) ∧ Below w.heap.size w w' := by
  obtain ⟨k, b, n, t, ka, kl, kc, la, ll, lc, ks⟩ := x
  simp only [Nd.val, bareB]
  have hcase : k = 1 ∨ k = 6 ∨ k = 7 ∨ k = 2 ∨ k = 3 ∨ k = 5 ∨ k = 4 ∨ k = 0 ∨ (k ≠ 1 ∧ k ≠ 6 ∧ k ≠ 7 ∧ k ≠ 2 ∧ k ≠ 3 ∧ k ≠ 5 ∧ k ≠ 4 ∧ k ≠ 0) := by omega
  rcases hcase with rfl | rfl | rfl | rfl | rfl | rfl | rfl | rfl | ⟨h1, h6, h7, h2, h3, h5, h4, h0⟩
  all_goals
    go_enter Tryd.func59, Tryd.ntmps59
    go_wp2_with fail
    go_quiet (fail)
    go_wp2
    all_goals go_ret
    all_goals exact ⟨retB (by simp_all <;> (intros; omega)), bdrewN (ballocR _ _) _⟩
end Go.Proofs.YtlokoepljmlcgaaDoor
