/-
  FOR THE WALK OF value.Check: how it is left.
-/
import Derived.Test.YtlokoepljmlcgaaDoorCheckB
namespace Go.Proofs.YtlokoepljmlcgaaDoor
set_option linter.unusedSimpArgs false
set_option linter.unusedVariables false
open Go.RowKit Go.Shelf

theorem leave_ret {W U : World} {D : Nat} {v : Int} {T : Array Value} (hKD : U.heap[D]? = some (.deferred (some []))) (hE : Boxed U (W.heap.size + 1) 41 (.int .i64 v)) (hB : Below W.heap.size W U) (hD : W.heap.size ≤ D)
    (hres : ∀ w : World, w.cell? ⟨W.heap.size + 1, 0, none⟩ = some (.int .i64 v) → (results Tryd.f34 T).run Tryd.prog w = .ok (.int .i64 v) w) {u : Int} (hu : u = v) :
    bodyPostM Fence.wide 5 Tryd.prog Tryd.f34 (fun e w' => e = .returned (.int .i64 u) ∧ Below W.heap.size W w') .ret
      { tmps := T, defers := [{ target := .collected D, args := #[] }, { target := .fn (.func 46) #[.pointer (some ⟨W.heap.size + 1, 0, none⟩)], args := #[] }] } U := by
  subst hu
  have hne : D ≠ W.heap.size + 1 := fun e => by subst e; rw [show U.heap[W.heap.size + 1]? = _ from hE] at hKD; cases hKD
  have hE2 : Boxed (U.putObj D (.deferred none)) (W.heap.size + 1) 41 (.int .i64 u) := hE.kept (grownBy_putObj' U D _) (fun e => hne (by cases e; rfl))
  have hB2 : Below W.heap.size W (U.putObj D (.deferred none)) := hB.grown (grownBy_putObj' U D _) (hB.size) (fun k e => by cases e; exact hD)
  refine ⟨by simp, .inl ⟨_, _, rfl, run_takeDeferred hKD, ?_⟩⟩
  refine ⟨by simp, .inr ⟨by simp [Fence.wide], _, _, 46, #[.pointer (some ⟨W.heap.size + 1, 0, none⟩)], rfl, by simp [go_sem], fun g _ => trivial, ?_⟩⟩
  refine (checkD_idle Fence.wide rfl trivial (5 - 1) ⟨W.heap.size + 1, 0, none⟩ _).mono ?_
  rintro e u' w'' ⟨rfl, rfl, rfl⟩
  exact ⟨_, hres _ hE2.cell, rfl, hB2⟩

theorem leave_great {W U : World} {D : Nat} {v : Int} {T : Array Value} (hKD : U.heap[D]? = some (.deferred (some []))) (hE : Boxed U (W.heap.size + 1) 41 (.int .i64 v)) (hB : Below W.heap.size W U) (hD : W.heap.size ≤ D)
    (hres : ∀ w : World, w.cell? ⟨W.heap.size + 1, 0, none⟩ = some (.int .i64 3) → (results Tryd.f34 T).run Tryd.prog w = .ok (.int .i64 3) w) {u : Int} (hu : u = 3) :
    bodyPostM Fence.wide 5 Tryd.prog Tryd.f34 (fun e w' => e = .returned (.int .i64 u) ∧ Below W.heap.size W w') (.panic [{ v := .iface 75 (.agg #[]), recovered := false }])
      { tmps := T, defers := [{ target := .collected D, args := #[] }, { target := .fn (.func 46) #[.pointer (some ⟨W.heap.size + 1, 0, none⟩)], args := #[] }] } U := by
  subst hu
  have hne : D ≠ W.heap.size + 1 := fun e => by subst e; rw [show U.heap[W.heap.size + 1]? = _ from hE] at hKD; cases hKD
  have hE2 : Boxed (U.putObj D (.deferred none)) (W.heap.size + 1) 41 (.int .i64 v) := hE.kept (grownBy_putObj' U D _) (fun e => hne (by cases e; rfl))
  have hB2 : Below W.heap.size W (U.putObj D (.deferred none)) := hB.grown (grownBy_putObj' U D _) (hB.size) (fun k e => by cases e; exact hD)
  refine ⟨by simp, .inl ⟨_, _, rfl, run_takeDeferred hKD, ?_⟩⟩
  refine ⟨by simp, .inr ⟨by simp [Fence.wide], _, _, 46, #[.pointer (some ⟨W.heap.size + 1, 0, none⟩)], rfl, by simp [go_sem], fun g _ => trivial, ?_⟩⟩
  refine (checkD_great Fence.wide rfl trivial (5 - 1) ⟨W.heap.size + 1, 0, none⟩ v _ hE2.cell hE2.frozen).mono ?_
  rintro e u' w'' ⟨rfl, rfl, rfl⟩
  have hE3 := (hE2.alloc (.cells #[] 75)).set (.int .i64 3)
  exact ⟨_, hres _ hE3.cell, rfl, (hB2.alloc hB2.size _).setCell (p := ⟨W.heap.size + 1, 0, none⟩) (by simp) _⟩
end Go.Proofs.YtlokoepljmlcgaaDoor
