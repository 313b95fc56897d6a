/-
  THE WALK of the small run that every law of the layer ends with: it answers true.
-/
import Derived.Test.YtlokoepljmlcgaaDoorNum
import Derived.Test.YtlokoepljmlcgaaDoorTruth
import Derived.Test.YtlokoepljmlcgaaDoorSum
import Derived.Test.YtlokoepljmlcgaaDoorRange
import Derived.Deep.DeepFit
namespace Go.Proofs.YtlokoepljmlcgaaDoor
set_option linter.unusedSimpArgs false
set_option linter.unusedVariables false
open Go.RowKit

theorem num_any (n : Int) (w : World) : Calls Tryd.prog 21 #[.int .i64 n] w fun e w' => e = .returned (.int .i64 n) ∧ w = w' := by
  go_enter Tryd.func21, Tryd.ntmps21
  go_wp2
  go_ret
  exact ⟨rfl, rfl⟩

/-- Two cells that a call of its own has just laid. -/
theorem row2 (w : World) (a b : Int) (t : TypeId) : RowAt (w.alloc (.cells #[.int .i64 a, .int .i64 b] t)) (some ⟨w.heap.size, 0, none⟩) .i64 [a, b] := by
  refine .inr ⟨_, 0, rfl, fun i hi => ?_⟩
  match i, hi with
  | 0, _ => simp
  | 1, _ => simp
theorem row3 (w : World) (a b c : Int) (t : TypeId) : RowAt (w.alloc (.cells #[.int .i64 a, .int .i64 b, .int .i64 c] t)) (some ⟨w.heap.size, 0, none⟩) .i64 [a, b, c] := by
  refine .inr ⟨_, 0, rfl, fun i hi => ?_⟩
  match i, hi with
  | 0, _ => simp
  | 1, _ => simp
  | 2, _ => simp

theorem and2 (x y : Int) (b : Nat) (w : World) (hb : b = w.heap.size) : Calls Tryd.prog 7 #[.slice (some ⟨b, 0, none⟩) 2 2] (w.alloc (.cells #[.int .i64 x, .int .i64 y] 23)) fun e w' => e = .returned (.int .i64 (mn (mn 2 (pl x)) (pl y))) ∧ (w.alloc (.cells #[.int .i64 x, .int .i64 y] 23)) = w' := by
  subst hb; exact and_any _ 2 2 [x, y] _ rfl (row2 _ _ _ _) (by decide)
theorem or2 (x y : Int) (b : Nat) (w : World) (hb : b = w.heap.size) : Calls Tryd.prog 8 #[.slice (some ⟨b, 0, none⟩) 2 2] (w.alloc (.cells #[.int .i64 x, .int .i64 y] 23)) fun e w' => e = .returned (.int .i64 (mx (mx 0 (pl x)) (pl y))) ∧ (w.alloc (.cells #[.int .i64 x, .int .i64 y] 23)) = w' := by
  subst hb; exact or_any _ 2 2 [x, y] _ rfl (row2 _ _ _ _) (by decide)

set_option maxHeartbeats 400000 in
theorem works_any (w : World) : Calls Tryd.prog 6 #[] w fun e w' => e = .returned (.bool true) ∧ Below w.heap.size w w' := by
  have h1 : ∀ w, Calls Tryd.prog 29 #[.int .i64 (-4294967296), .int .i64 2147483648] w fun e w' => e = .returned (.tuple #[.int .i64 (-9223372036854775808), .int .i64 0]) ∧ w = w' := fun w => mul_any _ _ w (fl (by decide)) (fl (by decide))
  have h2 : ∀ w, Calls Tryd.prog 24 #[.int .i64 9223372036854775807, .int .i64 1] w fun e w' => e = .returned (.tuple #[.int .i64 0, .int .i64 120]) ∧ w = w' := fun w => add_any _ _ w (fl (by decide)) (fl (by decide))
  have h3 : ∀ w : World, Calls Tryd.prog 30 #[.slice (some ⟨w.heap.size, 0, none⟩) 3 3] (w.alloc (.cells #[.int .i64 9223372036854775807, .int .i64 1, .int .i64 (-1)] 2)) fun e w' => e = .returned (.tuple #[.int .i64 9223372036854775807, .int .i64 0]) ∧ Below w.heap.size w w' :=
    fun w => (sum_any _ 3 3 [9223372036854775807, 1, -1] _ rfl (row3 _ _ _ _ _) (by intro z hz; simp at hz; rcases hz with rfl | rfl | rfl <;> exact fl (by decide)) (by decide)).mono fun e w' h => ⟨h.1, (ballocR w _).trans (h.2.mono (by simp))⟩
  have h4 : ∀ w, Calls Tryd.prog 20 #[.int .i64 5, .int .i64 1, .int .i64 (-2)] w (RetRow 2 .i64 [5, 3, 1] 0 w) := fun w => (range_any 5 1 (-2) w (fl (by decide)) (fl (by decide))).mono fun e w' h => h.of (by decide) (by decide)
  have h7 : ∀ w, Calls Tryd.prog 15 #[.int .i64 1] w fun e w' => e = .returned (.int .i64 1) ∧ w = w' := fun w => not_any 1 w
  have H1 := Lib.hid h1; have H2 := Lib.hid h2; have H3 := Lib.hid h3; have H4 := Lib.hid h4; have H7 := Lib.hid h7
  clear h1 h2 h3 h4 h7
  go_enter Tryd.func6, Tryd.ntmps6
  go_wp2_with fail
  go_fit (H1.out _); rintro e w1 ⟨rfl, rfl⟩
  go_wp2_with fail
  go_fit (H2.out _); rintro e w1 ⟨rfl, rfl⟩
  go_wp2_with fail
  go_fit (H3.out _); rintro e w1 ⟨rfl, hb1⟩
  go_wp2_with fail
  go_fit (H4.out _); rintro e w2 ⟨v, rfl, hown, hb2⟩
  obtain ⟨_, a, c, rfl, _, hrow⟩ := rowAt_owns hown
  obtain ⟨b, o, rfl, hc⟩ : ∃ b o, a = some ⟨b, o, none⟩ ∧ w2.cell? ⟨b, o + 2, none⟩ = some (.int .i64 1) := by
    rcases hrow with h | ⟨b, o, rfl, hc⟩
    · cases h
    · exact ⟨b, o, rfl, hc 2 (by decide)⟩
  have hbl := World.block_lt_of_cell? w2 ⟨b, o + 2, none⟩ hc
  clear hown hrow
  have hB := hb1.trans (hb2.mono hb1.size)
  clear hb1 hb2
  have k1 : mn (mn 2 (pl 2)) (pl 1) = 1 := by decide
  have k2 : mx (mx 0 (pl 1)) (pl 2) = 2 := by decide
  go_wp2_with fail
  go_fit (and2 2 1 _ _ (by simp)); rintro e w3 ⟨rfl, rfl⟩
  go_wp2_with fail
  go_fit (or2 1 2 _ _ (by simp)); rintro e w3 ⟨rfl, rfl⟩
  go_wp2_with fail
  go_fit (H7.out _); rintro e w3 ⟨rfl, rfl⟩
  go_wp2_with (go_at_call 21; refine (num_any _ _).mono ?_; rintro e w' ⟨rfl, rfl⟩)
  go_ret
  exact ⟨rfl, (hB.alloc hB.size _).alloc (bsz hB _) _⟩
end Go.Proofs.YtlokoepljmlcgaaDoor
