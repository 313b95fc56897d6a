/-
  WALKS of the document's bare, ints, truth, Of.
-/
import Derived.Test.YtlokoepljmlcgaaDoorCheck
import Derived.Test.YtlokoepljmlcgaaDoorEqu
namespace Go.Proofs.YtlokoepljmlcgaaDoor
set_option linter.unusedSimpArgs false
set_option linter.unusedVariables false
open Go.RowKit Go.Shelf

theorem nat0 (n : Nat) : ((n : Int) == 0) = (n == 0) := by cases n <;> simp <;> omega
/-- As the document asks it. -/
def bareR (x : Nd) : Bool :=
  (x.k == 1 || !x.b) && (x.k == 2 || x.k == 6 || x.k == 7 || x.n == 0) && (x.k == 3 || decide (x.t.toList = [])) && (x.k == 5 || x.kl == 0) && (x.k == 4 || x.k == 5 || x.ll == 0)

set_option maxRecDepth 100000 in
set_option maxHeartbeats 4000000 in
theorem rbare_any (x : Nd) (w : World) : Calls Tryd.prog 51 #[x.val] w fun e w' => e = .returned (.bool (bareR x)) ∧ Below w.heap.size w w' := by
  obtain ⟨k, b, n, t, ka, kl, kc, la, ll, lc, ks⟩ := x
  simp only [Nd.val, bareR]
  go_enter Tryd.func51, Tryd.ntmps51
  go_wp2
  all_goals go_ret
  all_goals exact ⟨retB (by simp_all [nat0]), ballocR _ _⟩
theorem rints_any (x y : Int) (w : World) : Calls Tryd.prog 53 #[.int .i64 x, .int .i64 y] w fun e w' => e = .returned (.int .i64 (cmpI x y)) ∧ w = w' := by
  rcases Int.lt_trichotomy x y with h | rfl | h
  · have e1 : decide (x < y) = true := by simpa using h
    go_enter Tryd.func53, Tryd.ntmps53
    go_wp2
    go_ret
    exact ⟨ret1 (by simp [cmpI, h]), rfl⟩
  · go_enter Tryd.func53, Tryd.ntmps53
    go_wp2
    go_ret
    exact ⟨ret1 (by simp [cmpI]), rfl⟩
  · have e1 : decide (x < y) = false := by simp; omega
    have e2 : decide (y < x) = true := by simpa using h
    go_enter Tryd.func53, Tryd.ntmps53
    go_wp2
    go_ret
    exact ⟨ret1 (by simp [cmpI, h]; omega), rfl⟩
theorem rtruth_any (b : Bool) (w : World) : Calls Tryd.prog 39 #[.bool b] w fun e w' => e = .returned (.int .i64 (if b then 2 else 0)) ∧ w = w' := by
  cases b
  all_goals
    go_enter Tryd.func39, Tryd.ntmps39
    go_wp2
    go_ret
    exact ⟨rfl, rfl⟩
/-- Which truth a value is. -/
def ofV (k : Int) (b : Bool) : Value := if k = 0 then .tuple #[.int .i64 1, .bool true] else if k = 1 then .tuple #[.int .i64 (if b then 2 else 0), .bool true] else .tuple #[.int .i64 1, .bool false]
set_option maxRecDepth 100000 in
theorem rof_any (x : Nd) (w : World) : Calls Tryd.prog 28 #[x.val] w fun e w' => e = .returned (ofV x.k x.b) ∧ Below w.heap.size w w' := by
  have hb := ballocR w (.cells #[.int .i64 x.k, .bool x.b, .int .i64 x.n, .string x.t, .slice x.ka x.kl x.kc, .slice x.la x.ll x.lc] 30)
  obtain ⟨k, b, n, t, ka, kl, kc, la, ll, lc, ks⟩ := x
  simp only [Nd.val] at *
  by_cases h0 : k = 0
  · subst h0
    go_enter Tryd.func28, Tryd.ntmps28
    go_wp2
    go_ret2
    exact ⟨rfl, hb⟩
  · by_cases h1 : k = 1
    · subst h1
      cases b
      all_goals
        go_enter Tryd.func28, Tryd.ntmps28
        go_wp2
        go_ret2
        exact ⟨rfl, hb⟩
    · have e0 : (k == 0) = false := by simpa using h0
      have e1 : (k == 1) = false := by simpa using h1
      have f1 : (k != 1) = true := by simpa using h1
      go_enter Tryd.func28, Tryd.ntmps28
      go_wp2
      go_ret2
      exact ⟨by simp [ofV, h0, h1], hb⟩
end Go.Proofs.YtlokoepljmlcgaaDoor
