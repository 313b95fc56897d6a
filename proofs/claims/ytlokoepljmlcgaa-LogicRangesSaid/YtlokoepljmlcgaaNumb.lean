/-
  THE WALKS of the layer's numbers, the other half: the other sign, quotients, rests, sizes.
-/
import Derived.Test.YtlokoepljmlcgaaNum
namespace Go.Proofs.Ytlokoepljmlcgaa
set_option linter.unusedSimpArgs false
set_option linter.unusedVariables false
open Go.RowKit

theorem neg_any (a : Int) (w : World) (ha : In64 a) :
    Calls Try.prog 30 #[.int .i64 a] w fun e w' => e = .returned (.tuple #[.int .i64 (res (-a)), .int .i64 (err (-a))]) ∧ w = w' := by
  have hs : ∀ s, s = decide (0 ≤ a) → sg s a.natAbs = -a := by intro s hs; subst hs; unfold sg; by_cases h : 0 ≤ a <;> simp [h] <;> omega
  have hb : (a.natAbs : Int) < 18446744073709551616 := by unfold In64 at ha; omega
  have HB := Lib.hid hb
  have HS := Lib.hid hs
  clear hs hb
  by_cases h : 0 ≤ a
  all_goals
    go_enter Try.func30, Try.ntmps30
    go_wp2_with (go_at_call 42; refine (lsize_any _ _ ha).mono ?_; rintro e w' ⟨rfl, rfl⟩)
    go_wp2_with (go_at_call 43; refine (signed_any _ _ _ (by omega) HB.out).mono ?_; rintro e w' ⟨rfl, rfl⟩)
    go_ret2
    refine ⟨?_, rfl⟩
    first
      | (have := HS.out true (by simp; omega); exact ret2 (by rw [← this]) (by rw [← this]))
      | (have := HS.out false (by simp; omega); exact ret2 (by rw [← this]) (by rw [← this]))

/-- Go's quotient, by nought refused. -/
def divV (a b : Int) : Int := if b = 0 then 0 else res (a.tdiv b)
def divE (a b : Int) : Int := if b = 0 then 121 else err (a.tdiv b)
def modV (a b : Int) : Int := if b = 0 then 0 else a.tmod b
def modE (b : Int) : Int := if b = 0 then 121 else 0

theorem tdiv_in {a b : Int} (ha : In64 a) (hb : b ≠ -1) : In64 (a.tdiv b) := by
  unfold In64 at *
  have h := Int.natAbs_tdiv_le_natAbs a b
  by_cases hm : a = -9223372036854775808
  · by_cases hz : b = 0
    · subst hz; simp
    · have h2 : (a.tdiv b).natAbs = a.natAbs / b.natAbs := Int.natAbs_tdiv a b
      by_cases h1 : b = 1
      · subst h1; simp; omega
      · have : a.natAbs / b.natAbs ≤ a.natAbs / 2 := Nat.div_le_div_left (by omega) (by omega)
        omega
  · omega

theorem div_any (a b : Int) (w : World) (ha : In64 a) :
    Calls Try.prog 26 #[.int .i64 a, .int .i64 b] w fun e w' => e = .returned (.tuple #[.int .i64 (divV a b), .int .i64 (divE a b)]) ∧ w = w' := by
  by_cases h0 : b = 0
  · subst h0
    go_enter Try.func26, Try.ntmps26
    go_wp2
    go_ret2
    exact ⟨rfl, rfl⟩
  · have g0 : (b == 0) = false := by simp [h0]
    by_cases h1 : b = -1
    · subst h1
      go_enter Try.func26, Try.ntmps26
      go_wp2_with (go_at_call 30; refine (neg_any _ _ ha).mono ?_; rintro e w' ⟨rfl, rfl⟩)
      go_ret2
      exact ⟨ret2 (by simp [divV, Int.tdiv_neg]) (by simp [divE, Int.tdiv_neg]), rfl⟩
    · have g1 : (b == -1) = false := by simp [h1]
      go_enter Try.func26, Try.ntmps26
      go_wp2
      go_ret2
      have hf := fits_iff.2 (tdiv_in ha h1)
      exact ⟨ret2 (by rw [divV, if_neg h0, res_fit hf]; try exact (wrap_fit hf)) (by rw [divE, if_neg h0, err_fit hf]), rfl⟩

theorem mod_any (a b : Int) (w : World) (ha : In64 a) :
    Calls Try.prog 28 #[.int .i64 a, .int .i64 b] w fun e w' => e = .returned (.tuple #[.int .i64 (modV a b), .int .i64 (modE b)]) ∧ w = w' := by
  by_cases h0 : b = 0
  · subst h0
    go_enter Try.func28, Try.ntmps28
    go_wp2
    go_ret2
    exact ⟨rfl, rfl⟩
  · have g0 : (b == 0) = false := by simp [h0]
    by_cases h1 : b = -1
    · subst h1
      go_enter Try.func28, Try.ntmps28
      go_wp2
      go_ret2
      exact ⟨ret2 (by simp [modV]) rfl, rfl⟩
    · have g1 : (b == -1) = false := by simp [h1]
      go_enter Try.func28, Try.ntmps28
      go_wp2
      go_ret2
      exact ⟨ret2 (by rw [modV, if_neg h0]) (by rw [modE, if_neg h0]), rfl⟩

/-- The size, without its sign. -/
theorem abs_any (a : Int) (w : World) (ha : In64 a) :
    Calls Try.prog 32 #[.int .i64 a] w fun e w' => e = .returned (.tuple #[.int .i64 (res a.natAbs), .int .i64 (err a.natAbs)]) ∧ w = w' := by
  by_cases h : a < 0
  · have hn : (a.natAbs : Int) = -a := by omega
    have HN := Lib.hid hn; clear hn
    by_cases h1 : a = -9223372036854775808
    · have HA := Lib.hid ha; clear ha
      have h2 : (a == -9223372036854775808) = true := by simp [h1]
      have H1 := Lib.hid h1; clear h1
      go_enter Try.func32, Try.ntmps32
      go_wp2_with (go_at_call 30; refine (neg_any _ _ HA.out).mono ?_; rintro e w' ⟨rfl, rfl⟩)
      go_ret2
      exact ⟨ret2 (by rw [HN.out]) (by rw [HN.out]), rfl⟩
    · have h2 : (a == -9223372036854775808) = false := by simp [h1]
      clear h1
      go_enter Try.func32, Try.ntmps32
      go_wp2_with (go_at_call 30; refine (neg_any _ _ ha).mono ?_; rintro e w' ⟨rfl, rfl⟩)
      go_ret2
      exact ⟨ret2 (by rw [HN.out]) (by rw [HN.out]), rfl⟩
  · have hn : (a.natAbs : Int) = a := by omega
    have hf : fits a = true := fits_iff.2 ha
    have HN := Lib.hid hn; have HF := Lib.hid hf; clear hn hf
    have h2 : (a == -9223372036854775808) = false := by simp; omega
    go_enter Try.func32, Try.ntmps32
    go_wp2
    go_ret2
    exact ⟨ret2 (by rw [HN.out, res_fit HF.out]) (by rw [HN.out, err_fit HF.out]), rfl⟩
end Go.Proofs.Ytlokoepljmlcgaa
