/-
  THE WALKS of the layer's numbers: what Add, Sub, Mul, Div, Mod, Neg, Abs tell, said of whole numbers.
-/
import Derived.Test.YtlokoepljmlcgaaDoorRows
import Derived.Test.YtlokoepljmlcgaaDoorLib
import Derived.Shelf.Bits.Mul64
import Derived.Shelf.Spec.BitsCarry
namespace Go.Proofs.YtlokoepljmlcgaaDoor
set_option linter.unusedSimpArgs false
set_option linter.unusedVariables false
open Go.RowKit Go.Shelf Go.Lib

theorem add_yes {a b : Int} (ha : In64 a) (hb : In64 b) (h : ((a < 0 ↔ b < 0) → (wrap64 (a + b) < 0 ↔ a < 0))) : wrap64 (a + b) = res (a + b) ∧ 0 = err (a + b) := by
  have hf : fits (a + b) = true := by
    rw [fits_iff]; unfold In64 at *; unfold wrap64 at h
    by_cases h1 : a < 0 <;> by_cases h2 : b < 0 <;> simp [h1, h2] at h <;> omega
  rw [res_fit hf, err_fit hf, wrap_fit hf]; exact ⟨rfl, rfl⟩
theorem add_no {a b : Int} (ha : In64 a) (hb : In64 b) (h : (a < 0 ↔ b < 0)) (h' : ¬ (wrap64 (a + b) < 0 ↔ a < 0)) : 0 = res (a + b) ∧ 120 = err (a + b) := by
  have hf : fits (a + b) = false := by
    rw [← Bool.not_eq_true, fits_iff]; unfold In64 at *; unfold wrap64 at h'
    by_cases h1 : a < 0 <;> by_cases h2 : b < 0 <;> simp [h1, h2] at h h' <;> omega
  rw [res_no hf, err_no hf]; exact ⟨rfl, rfl⟩
theorem sub_yes {a b : Int} (ha : In64 a) (hb : In64 b) (h : (¬ (a < 0 ↔ b < 0) → (wrap64 (a - b) < 0 ↔ a < 0))) : wrap64 (a - b) = res (a - b) ∧ 0 = err (a - b) := by
  have hf : fits (a - b) = true := by
    rw [fits_iff]; unfold In64 at *; unfold wrap64 at h
    by_cases h1 : a < 0 <;> by_cases h2 : b < 0 <;> simp [h1, h2] at h <;> omega
  rw [res_fit hf, err_fit hf, wrap_fit hf]; exact ⟨rfl, rfl⟩
theorem sub_no {a b : Int} (ha : In64 a) (hb : In64 b) (h : ¬ (a < 0 ↔ b < 0)) (h' : ¬ (wrap64 (a - b) < 0 ↔ a < 0)) : 0 = res (a - b) ∧ 120 = err (a - b) := by
  have hf : fits (a - b) = false := by
    rw [← Bool.not_eq_true, fits_iff]; unfold In64 at *; unfold wrap64 at h'
    by_cases h1 : a < 0 <;> by_cases h2 : b < 0 <;> simp [h1, h2] at h h' <;> omega
  rw [res_no hf, err_no hf]; exact ⟨rfl, rfl⟩

theorem add_any (a b : Int) (w : World) (ha : In64 a) (hb : In64 b) :
    Calls Tryd.prog 24 #[.int .i64 a, .int .i64 b] w fun e w' => e = .returned (.tuple #[.int .i64 (res (a + b)), .int .i64 (err (a + b))]) ∧ w = w' := by
  have hy := @add_yes a b ha hb
  have hn := @add_no a b ha hb
  generalize res (a + b) = r at *
  generalize err (a + b) = x at *
  by_cases h1 : a < 0 <;> by_cases h2 : b < 0 <;> by_cases h3 : wrap64 (a + b) < 0 <;>
  · simp only [h1, h2, h3, true_iff, iff_true, false_iff, iff_false, not_true, not_false_eq_true, forall_const, false_implies, true_implies, imp_self, and_self] at hy hn
    have HY := Lib.hid hy; have HN := Lib.hid hn; clear hy hn
    go_enter Tryd.func24, Tryd.ntmps24
    go_wp2
    go_ret2
    first
      | exact ⟨ret2 HY.out.1 HY.out.2, rfl⟩
      | exact ⟨ret2 HN.out.1 HN.out.2, rfl⟩

theorem sub_any (a b : Int) (w : World) (ha : In64 a) (hb : In64 b) :
    Calls Tryd.prog 22 #[.int .i64 a, .int .i64 b] w fun e w' => e = .returned (.tuple #[.int .i64 (res (a - b)), .int .i64 (err (a - b))]) ∧ w = w' := by
  have hy := @sub_yes a b ha hb
  have hn := @sub_no a b ha hb
  generalize res (a - b) = r at *
  generalize err (a - b) = x at *
  by_cases h1 : a < 0 <;> by_cases h2 : b < 0 <;> by_cases h3 : wrap64 (a - b) < 0 <;>
  · simp only [h1, h2, h3, true_iff, iff_true, false_iff, iff_false, not_true, not_false_eq_true, forall_const, false_implies, true_implies, imp_self, and_self] at hy hn
    have HY := Lib.hid hy; have HN := Lib.hid hn; clear hy hn
    go_enter Tryd.func22, Tryd.ntmps22
    go_wp2
    go_ret2
    first
      | exact ⟨ret2 HY.out.1 HY.out.2, rfl⟩
      | exact ⟨ret2 HN.out.1 HN.out.2, rfl⟩


theorem u64w (n : Int) : IntKind.u64.wrap n = n % 18446744073709551616 := by simp [IntKind.wrap, IntKind.signed, IntKind.bits]
theorem i64w (n : Int) : IntKind.i64.wrap n = wrap64 n := IntWalk.i64_left n

theorem size_neg {a : Int} (ha : In64 a) (h : a < 0) : IntKind.u64.wrap (-IntKind.u64.wrap a) = (a.natAbs : Int) := by rw [u64w, u64w]; unfold In64 at ha; omega
theorem size_pos {a : Int} (ha : In64 a) (h : 0 ≤ a) : IntKind.u64.wrap a = (a.natAbs : Int) := by rw [u64w]; unfold In64 at ha; omega
theorem lsize_any (a : Int) (w : World) (ha : In64 a) :
    Calls Tryd.prog 42 #[.int .i64 a] w fun e w' => e = .returned (.int .u64 a.natAbs) ∧ w = w' := by
  by_cases h : a < 0
  · go_enter Tryd.func42, Tryd.ntmps42
    go_wp2
    go_ret
    exact ⟨ret1 (size_neg ha h), rfl⟩
  · go_enter Tryd.func42, Tryd.ntmps42
    go_wp2
    go_ret
    exact ⟨ret1 (size_pos ha (by omega)), rfl⟩

/-- A number by its sign and its size. -/
def sg (neg : Bool) (n : Nat) : Int := if neg then -(n : Int) else n

theorem signed_any (neg : Bool) (n : Int) (w : World) (h0 : 0 ≤ n) (hn : n < 18446744073709551616) :
    Calls Tryd.prog 43 #[.bool neg, .int .u64 n] w fun e w' => e = .returned (.tuple #[.int .i64 (res (sg neg n.toNat)), .int .i64 (err (sg neg n.toNat))]) ∧ w = w' := by
  have HN := Lib.hid hn
  clear hn
  cases neg
  · by_cases h : (9223372036854775807 : Int) < n
    · have hf : fits (sg false n.toNat) = false := by rw [← Bool.not_eq_true, fits_iff]; unfold In64 sg; simp; omega
      have HF := Lib.hid hf
      clear hf
      go_enter Tryd.func43, Tryd.ntmps43
      go_wp2
      go_ret2
      exact ⟨ret2 (res_no HF.out).symm (err_no HF.out).symm, rfl⟩
    · have hf : fits (sg false n.toNat) = true := by rw [fits_iff]; unfold In64 sg; simp; omega
      have HF := Lib.hid hf
      clear hf
      go_enter Tryd.func43, Tryd.ntmps43
      go_wp2
      go_ret2
      exact ⟨ret2 (by rw [res_fit HF.out]; have := HN.out; unfold sg; simp [i64w, wrap64]; omega) (err_fit HF.out).symm, rfl⟩
  · by_cases h : (9223372036854775808 : Int) < n
    · have hf : fits (sg true n.toNat) = false := by rw [← Bool.not_eq_true, fits_iff]; unfold In64 sg; simp; omega
      have HF := Lib.hid hf
      clear hf
      go_enter Tryd.func43, Tryd.ntmps43
      go_wp2
      go_ret2
      exact ⟨ret2 (res_no HF.out).symm (err_no HF.out).symm, rfl⟩
    · have hf : fits (sg true n.toNat) = true := by rw [fits_iff]; unfold In64 sg; simp; omega
      have HF := Lib.hid hf
      clear hf
      go_enter Tryd.func43, Tryd.ntmps43
      go_wp2
      go_ret2
      exact ⟨ret2 (by rw [res_fit HF.out]; have := HN.out; unfold sg; simp [i64w, u64w, wrap64]; omega) (err_fit HF.out).symm, rfl⟩

def Tryd.mul_ren : Ren := ⟨fun | 264 => 41 | n => n, fun | 53 => 65 | 46 => 72 | n => n, fun | n => n⟩
theorem Tryd.mul_lays : Lays.n264 Tryd.prog Tryd.mul_ren := {
  mixed := by kernel_rfl
  f264 := Tryd.func41.trans (congrArg some (by kernel_rfl))
  t46 := Tryd.underlying72
  a46 := Tryd.isAgg72
  z46 := Tryd.sizeOf72
  v46 := Tryd.zeroValue72
  t53 := Tryd.underlying65
  a53 := Tryd.isAgg65
  z53 := Tryd.sizeOf65
  v53 := Tryd.zeroValue65 }
theorem mul64_any (x y : Nat) (hx : x < 18446744073709551616) (hy : y < 18446744073709551616) (w : World) :
    Calls Tryd.prog 41 #[.int .u64 x, .int .u64 y] w fun e w' => e = .returned (.tuple #[.int .u64 ((x * y / 18446744073709551616 : Nat) : Int), .int .u64 ((x * y % 18446744073709551616 : Nat) : Int)]) ∧ w = w' :=
  (Any.bits_Mul64 Tryd.mul_lays x y hx hy w).mono fun _ _ h => ⟨h.1, h.2.symm⟩

theorem sg_mul (a b : Int) (s : Bool) (hs : s = (decide (a < 0) != decide (b < 0))) : sg s (a.natAbs * b.natAbs) = a * b := by
  subst hs
  have e : ∀ c : Int, c = if c < 0 then -(c.natAbs : Int) else c.natAbs := by intro c; split <;> omega
  rw [show a * b = (if a < 0 then -(a.natAbs : Int) else a.natAbs) * (if b < 0 then -(b.natAbs : Int) else b.natAbs) by rw [← e a, ← e b]]
  unfold sg
  by_cases h1 : a < 0 <;> by_cases h2 : b < 0 <;> simp [h1, h2, Int.neg_mul, Int.mul_neg]

theorem mul_big {a b : Int} (h : 18446744073709551616 ≤ a.natAbs * b.natAbs) : fits (a * b) = false := by
  rw [← Bool.not_eq_true, fits_iff]
  have e : (a * b).natAbs = a.natAbs * b.natAbs := Int.natAbs_mul a b
  unfold In64
  generalize a * b = p at *
  omega

theorem mul_any (a b : Int) (w : World) (ha : In64 a) (hb : In64 b) :
    Calls Tryd.prog 29 #[.int .i64 a, .int .i64 b] w fun e w' => e = .returned (.tuple #[.int .i64 (res (a * b)), .int .i64 (err (a * b))]) ∧ w = w' := by
  have h1 : a.natAbs < 18446744073709551616 := by unfold In64 at ha; omega
  have h2 : b.natAbs < 18446744073709551616 := by unfold In64 at hb; omega
  have hs := sg_mul a b
  have hg := @mul_big a b
  obtain ⟨x, hx⟩ : ∃ x, x = a.natAbs := ⟨_, rfl⟩
  obtain ⟨y, hy⟩ : ∃ y, y = b.natAbs := ⟨_, rfl⟩
  rw [← hx] at h1 hs hg; rw [← hy] at h2 hs hg
  obtain ⟨p, hp⟩ : ∃ p, p = a * b := ⟨_, rfl⟩
  rw [← hp] at hs hg ⊢
  obtain ⟨hi, hhi⟩ : ∃ hi, hi = x * y / 18446744073709551616 := ⟨_, rfl⟩
  obtain ⟨lo, hlo⟩ : ∃ lo, lo = x * y % 18446744073709551616 := ⟨_, rfl⟩
  have hM := mul64_any x y h1 h2
  rw [← hhi, ← hlo] at hM
  have hl : lo < 18446744073709551616 := by omega
  have hcase : (hi = 0 ∧ lo = x * y) ∨ (0 < hi ∧ fits p = false) := by
    by_cases h : hi = 0
    · left; exact ⟨h, by omega⟩
    · right; exact ⟨by omega, hg (by omega)⟩
  have H1 := Lib.hid h1; have H2 := Lib.hid h2; have HL := Lib.hid hl; have HS := Lib.hid hs; have HM := Lib.hid hM; have HX := Lib.hid hx; have HY := Lib.hid hy
  clear h1 h2 hg hhi hlo hp hl hs hM hx hy
  have HA : ∀ w, Calls Tryd.prog 42 #[.int .i64 a] w fun e w' => e = .returned (.int .u64 x) ∧ w = w' := by intro w; rw [HX.out]; exact lsize_any a w ha
  have HB : ∀ w, Calls Tryd.prog 42 #[.int .i64 b] w fun e w' => e = .returned (.int .u64 y) ∧ w = w' := by intro w; rw [HY.out]; exact lsize_any b w hb
  have HA := Lib.hid HA; have HB := Lib.hid HB
  rcases hcase with ⟨rfl, hlo⟩ | ⟨hpos, hf⟩
  · have HLO := Lib.hid hlo; clear hlo
    by_cases ga : a < 0 <;> by_cases gb : b < 0
    all_goals
      go_enter Tryd.func29, Tryd.ntmps29
      go_wp2_with fail
      refine (HA.out _).mono ?_; rintro e w' ⟨rfl, rfl⟩
      go_wp2_with fail
      refine (HB.out _).mono ?_; rintro e w' ⟨rfl, rfl⟩
      go_wp2_with fail
      refine (HM.out _).mono ?_; rintro e w' ⟨rfl, rfl⟩
      go_wp2_with (go_at_call 43; refine (signed_any _ _ _ (by omega) (by have := HL.out; omega)).mono ?_; rintro e w' ⟨rfl, rfl⟩)
      go_ret2
      have := HS.out _ rfl
      rw [← HLO.out] at this
      try simp only [ga, gb, decide_true, decide_false, bne_self_eq_false, Bool.bne_true, Bool.bne_false, Bool.not_true, Bool.not_false, Bool.true_bne, Bool.false_bne] at this
      exact ⟨ret2 (by rw [← this]; try rfl) (by rw [← this]; try rfl), rfl⟩
  · have HF := Lib.hid hf; clear hf
    have hp0 : (0 : Int) < hi := by omega
    go_enter Tryd.func29, Tryd.ntmps29
    go_wp2_with fail
    refine (HA.out _).mono ?_; rintro e w' ⟨rfl, rfl⟩
    go_wp2_with fail
    refine (HB.out _).mono ?_; rintro e w' ⟨rfl, rfl⟩
    go_wp2_with fail
    refine (HM.out _).mono ?_; rintro e w' ⟨rfl, rfl⟩
    go_wp2
    go_ret2
    exact ⟨ret2 (res_no HF.out).symm (err_no HF.out).symm, rfl⟩

end Go.Proofs.YtlokoepljmlcgaaDoor
