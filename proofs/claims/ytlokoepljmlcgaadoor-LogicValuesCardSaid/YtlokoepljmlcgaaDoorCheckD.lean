/-
  THE WALK OF value.Check's deferred function: nothing where Check returns; ErrLong where it gave up.
-/
import Derived.Test.YtlokoepljmlcgaaDoorMayw
import Derived.RecoverIn
import Derived.DefersIn
namespace Go.Proofs.YtlokoepljmlcgaaDoor
set_option linter.unusedSimpArgs false
set_option linter.unusedVariables false
open Go.RowKit Go.Shelf

theorem checkD_idle (F : Fence) (hro : F.round = none) (h46 : F.fn 46) (n : Nat) (p : Addr) (w : World) :
    CallsDIn F n Tryd.prog 46 #[.pointer (some p)] .returning w fun e u' w' => e = .returned (.tuple #[]) ∧ u' = .returning ∧ w' = w := by
  refine callsDIn_of_wpSIn Tryd.func46 rfl h46 fun c₀ cs hu => ?_
  apply wpSIn_seq
  apply wpSIn_region
  simp [wpOpsSIn, go_sem, recoverD, hu, Tryd.ntmps46, Exit.thenS, Array.replicate_succ]
  refine wpSIn_of_wpIn hro ?_
  gi_wp2
  cases c₀
  simp_all [bodyPostS, results, Tryd.results46]

set_option maxRecDepth 100000 in
theorem checkD_great (F : Fence) (hro : F.round = none) (h46 : F.fn 46) (n : Nat) (p : Addr) (x : Int) (w : World) (hc : w.cell? p = some (.int .i64 x)) (hz : w.frozen? p = false) :
    CallsDIn F n Tryd.prog 46 #[.pointer (some p)] (.panicking [{ v := .iface 75 (.agg #[]), recovered := false }]) w fun e u' w' =>
      e = .returned (.tuple #[]) ∧ u' = .panicking [{ v := .iface 75 (.agg #[]), recovered := true }] ∧ w' = (w.alloc (.cells #[] 75)).setCell p (.int .i64 3) := by
  have hc1 := cell_kept hc (World.grownBy_alloc w (.cells #[] 75) none) (fun r e => by cases e)
  have hz1 := (frozen_kept hc (World.grownBy_alloc w (.cells #[] 75) none) (fun r e => by cases e)).trans hz
  have hta : ∀ w, (Instr.typeAssert (.iface 75 (.agg #[])) 20 75 true).run Tryd.prog w = .ok (.tuple #[.agg #[], .bool true]) w := fun _ => by kernel_rfl
  refine callsDIn_of_wpSIn Tryd.func46 rfl h46 fun c₀ cs hu => ?_
  apply wpSIn_seq
  apply wpSIn_region
  simp [wpOpsSIn, go_sem, recoverD, hu, Tryd.ntmps46, Exit.thenS, Array.replicate_succ]
  refine wpSIn_of_wpIn hro ?_
  gi_wp2
  cases c₀
  simp_all [bodyPostS, results, Tryd.results46]
end Go.Proofs.YtlokoepljmlcgaaDoor
