/-
  THE LAW LogicBack: the walk. Sub undoes Add; a number is its divisor times the quotient and the rest.
-/
import Derived.Test.YtlokoepljmlcgaaWorks
import Derived.Deep.DeepCutAuto
namespace Go.Proofs.Ytlokoepljmlcgaa
open Go.RowKit

theorem bAdd {w0 : World} (a b : Int) (w : World) (ha : In64 a) (hb : In64 b) (hB : Below w0.heap.size w0 w) :
    Calls Try.prog 15 #[.int .i64 a, .int .i64 b] w fun e w' => e = .returned (.tuple #[.int .i64 (res (a + b)), .int .i64 (err (a + b))]) ∧ Below w0.heap.size w0 w' := (add_any a b w ha hb).mono fun _ _ h => ⟨h.1, h.2 ▸ hB⟩

theorem no_fit {a b : Int} (h : fits (a + b) = false) (ha : In64 a) (hb : In64 b) : (0 < a ∧ 0 < b) ∨ (a < 0 ∧ b < 0) := by
  have h' : ¬ In64 (a + b) := by rw [← fits_iff]; simp [h]
  unfold In64 at *; omega
/-- What quotient and rest are to their number. -/
theorem div_facts {a b : Int} (ha : In64 a) (hb : In64 b) (h0 : b ≠ 0) (h : ¬ (a = -9223372036854775808 ∧ b = -1)) :
    ∃ q r p : Int, divV a b = q ∧ divE a b = 0 ∧ modV a b = r ∧ modE b = 0 ∧ res (q * b) = p ∧ err (q * b) = 0 ∧ res (p + r) = a ∧ err (p + r) = 0 ∧ In64 q ∧ In64 r ∧ In64 p ∧ wrap64 (-r) = -r ∧ (b = -9223372036854775808 ∨ wrap64 (-b) = -b) ∧
      (0 < b → -b < r ∧ r < b) ∧ (b < 0 → b < r ∧ r < -b) ∧ (0 < r → 0 ≤ a) ∧ (r < 0 → a < 0) := by
  have hq : fits (a.tdiv b) = true := by
    by_cases h1 : b = -1
    · subst h1; rw [fits_iff]; unfold In64 at *; simp only [Int.tdiv_neg, Int.tdiv_one]; omega
    · exact fits_iff.2 (tdiv_in ha h1)
  have hmul : a.tdiv b * b + a.tmod b = a := by rw [Int.mul_comm]; exact Int.mul_tdiv_add_tmod a b
  have hr1 : (a.tmod b).natAbs < b.natAbs := by rw [Int.natAbs_tmod]; exact Nat.mod_lt _ (by omega)
  have hsg : (0 < a.tmod b → 0 ≤ a) ∧ (a.tmod b < 0 → a < 0) := by
    constructor
    · intro hr; rcases Int.lt_or_le a 0 with h | h
      · have := Int.tmod_nonneg b (show 0 ≤ -a by omega); rw [Int.neg_tmod] at this; omega
      · exact h
    · intro hr; rcases Int.lt_or_le a 0 with h | h
      · exact h
      · have := Int.tmod_nonneg b h; omega
  have hle : (a.tdiv b * b).natAbs ≤ a.natAbs := by
    rw [Int.natAbs_mul, Int.natAbs_tdiv]; exact Nat.div_mul_le_self _ _
  have hsgp : (0 ≤ a → 0 ≤ a.tdiv b * b) ∧ (a ≤ 0 → a.tdiv b * b ≤ 0) := by
    have hmm : (a.tmod b).natAbs ≤ a.natAbs := by rw [Int.natAbs_tmod]; exact Nat.mod_le _ _
    constructor
    · intro h; have := Int.tmod_nonneg b h; omega
    · intro h; have := Int.tmod_nonneg b (show 0 ≤ -a by omega); rw [Int.neg_tmod] at this; omega
  have hp : fits (a.tdiv b * b) = true := by rw [fits_iff]; unfold In64 at *; omega
  refine ⟨a.tdiv b, a.tmod b, a.tdiv b * b, ?_, ?_, ?_, ?_, res_fit hp, err_fit hp, ?_, ?_, fits_iff.1 hq, ?_, fits_iff.1 hp, ?_, ?_, ?_, ?_, hsg.1, hsg.2⟩
  · unfold divV; rw [if_neg h0, res_fit hq]
  · unfold divE; rw [if_neg h0, err_fit hq]
  · unfold modV; rw [if_neg h0]
  · unfold modE; rw [if_neg h0]
  · rw [hmul]; exact res_fit (fits_iff.2 ha)
  · rw [hmul]; exact err_fit (fits_iff.2 ha)
  · unfold In64 at *; omega
  · unfold wrap64; unfold In64 at *; omega
  · unfold wrap64; unfold In64 at *; omega
  · intro hb0; omega
  · intro hb0; omega
theorem neg_fit {a : Int} (ha : In64 a) (h : a ≠ -9223372036854775808) : fits (-a) = true := by rw [fits_iff]; unfold In64 at *; omega
theorem abs_fit {a : Int} (ha : In64 a) (h : a ≠ -9223372036854775808) : fits (a.natAbs : Int) = true := by rw [fits_iff]; unfold In64 at *; omega

set_option maxRecDepth 100000 in
set_option maxHeartbeats 4000000 in
theorem back_walk (a b : Int) (w : World) (ha : In64 a) (hb : In64 b) : Calls Try.prog 8 #[.int .i64 a, .int .i64 b] w fun e w' => e = .returned (.bool true) ∧ Below w.heap.size w w' := by
  have HA := Lib.hid ha; have HB := Lib.hid hb; clear ha hb
  go_enter Try.func8, Try.ntmps8
  go_upto_if 31 with (first
    | (go_at_call 15; go_fit (add_any _ _ _ HA.out HB.out); rintro e w' ⟨rfl, rfl⟩)
    | (go_at_call 12; go_fit (num_any _ _); rintro e w' ⟨rfl, rfl⟩))
  go_cut [5, 6, 7] (fun _ _ _ wx => wx = w)
  case first =>
    by_cases hf : fits (a + b) = true
    · have hr := res_fit hf; have he := err_fit hf
      have hs1 : fits (a + b - b) = true := by rw [show a + b - b = a by omega]; exact fits_iff.2 HA.out
      have HF := Lib.hid (fits_iff.1 hf)
      have hr2 : res a = a := res_fit (fits_iff.2 HA.out)
      have he2 : err a = 0 := err_fit (fits_iff.2 HA.out)
      clear hf hs1
      by_cases hb0 : 0 < b
      · as_aux_lemma =>
          go_wp2_with (first
            | (go_at_call 22; go_fit (sub_any _ _ _ HF.out HB.out); rintro e w' ⟨rfl, rfl⟩)
            | (go_at_call 12; go_fit (num_any _ _); rintro e w' ⟨rfl, rfl⟩))
          go_meet
          case rel => rfl
      · by_cases hb1 : b < 0
        · as_aux_lemma =>
            go_wp2_with (first
              | (go_at_call 22; go_fit (sub_any _ _ _ HF.out HB.out); rintro e w' ⟨rfl, rfl⟩)
              | (go_at_call 12; go_fit (num_any _ _); rintro e w' ⟨rfl, rfl⟩))
            go_meet
            case rel => rfl
        · as_aux_lemma =>
            go_wp2_with (first
              | (go_at_call 22; go_fit (sub_any _ _ _ HF.out HB.out); rintro e w' ⟨rfl, rfl⟩)
              | (go_at_call 12; go_fit (num_any _ _); rintro e w' ⟨rfl, rfl⟩))
            go_meet
            case rel => rfl
    · have hf' : fits (a + b) = false := by simpa using hf
      have hs := no_fit hf' HA.out HB.out
      have hr := res_no hf'; have he := err_no hf'
      clear hf hf'
      rcases hs with ⟨s1, s2⟩ | ⟨s1, s2⟩
      · as_aux_lemma =>
          go_wp2_with (go_at_call 12; go_fit (num_any _ _); rintro e w' ⟨rfl, rfl⟩)
          go_meet
          case rel => rfl
      · as_aux_lemma =>
          go_wp2_with (go_at_call 12; go_fit (num_any _ _); rintro e w' ⟨rfl, rfl⟩)
          go_meet
          case rel => rfl
  case rest =>
    subst hcut
    go_upto_region 10 with (first
      | (go_at_call 30; go_fit (neg_any _ _ HA.out); rintro e w' ⟨rfl, rfl⟩)
      | (go_at_call 32; go_fit (abs_any _ _ HA.out); rintro e w' ⟨rfl, rfl⟩))
    go_cut [9, 10, 11, 12, 140] (fun _ _ _ _ s wx => s = .bool false ∧ wx = wc)
    case first =>
      by_cases hm : a = -9223372036854775808
      · have e0 : (a == -9223372036854775808) = true := by simp [hm]
        have hn : fits (-a) = false := by subst hm; decide
        have hn2 : fits (a.natAbs : Int) = false := by subst hm; decide
        have k1 := res_no hn; have k2 := err_no hn; have k3 := res_no hn2; have k4 := err_no hn2
        clear hn hn2 hm
        as_aux_lemma =>
          go_wp2_with (go_at_call 12; go_fit (num_any _ _); rintro e w' ⟨rfl, rfl⟩)
          go_meet
          case rel => exact ⟨rfl, rfl⟩
      · have e0 : (a == -9223372036854775808) = false := by simp [hm]
        have hn := neg_fit HA.out hm
        have hn2 := abs_fit HA.out hm
        have hw := wrap_fit hn
        have k1 := res_fit hn; have k2 := err_fit hn; have k4 := err_fit hn2
        clear hn hm
        by_cases ha : a < 0
        · have k3 : res (a.natAbs : Int) = -a := by rw [res_fit hn2]; omega
          have k5 : (-a == a) = false := by simp; omega
          have k6 : decide (0 < a) = false := by simp; omega
          clear hn2
          as_aux_lemma =>
            go_wp2_with (go_at_call 12; go_fit (num_any _ _); rintro e w' ⟨rfl, rfl⟩)
            go_meet
            case rel => exact ⟨rfl, rfl⟩
        · have k3 : res (a.natAbs : Int) = a := by rw [res_fit hn2]; omega
          have k6 : decide (a < 0) = false := by simp; omega
          clear hn2
          as_aux_lemma =>
            go_wp2_with (go_at_call 12; go_fit (num_any _ _); rintro e w' ⟨rfl, rfl⟩)
            go_meet
            case rel => exact ⟨rfl, rfl⟩
    case rest =>
      obtain ⟨rfl, rfl⟩ := hcut
      by_cases hb0 : b = 0
      · subst hb0
        have k1 : divV a 0 = 0 := rfl
        have k2 : divE a 0 = 121 := rfl
        have k3 : modV a 0 = 0 := rfl
        have k4 : modE 0 = 121 := rfl
        as_aux_lemma =>
          go_wp2_with (first | (go_at_call 26; go_fit (div_any _ _ _ HA.out); rintro e w' ⟨rfl, rfl⟩) | (go_at_call 28; go_fit (mod_any _ _ _ HA.out); rintro e w' ⟨rfl, rfl⟩) | (go_at_call 12; go_fit (num_any _ _); rintro e w' ⟨rfl, rfl⟩) | (go_at_call 9; go_fit (works_any _); rintro e w' ⟨rfl, hbel⟩))
          go_ret
          exact ⟨rfl, hbel⟩
      · have e0 : (b == 0) = false := by simp [hb0]
        by_cases hm : a = -9223372036854775808 ∧ b = -1
        · obtain ⟨rfl, rfl⟩ := hm
          have k1 : divV (-9223372036854775808) (-1) = 0 := by decide
          have k2 : divE (-9223372036854775808) (-1) = 120 := by decide
          have k3 : modV (-9223372036854775808) (-1) = 0 := by decide
          have k4 : modE (-1) = 0 := rfl
          clear hb0
          as_aux_lemma =>
            go_wp2_with (first | (go_at_call 26; go_fit (div_any _ _ _ HA.out); rintro e w' ⟨rfl, rfl⟩) | (go_at_call 28; go_fit (mod_any _ _ _ HA.out); rintro e w' ⟨rfl, rfl⟩) | (go_at_call 12; go_fit (num_any _ _); rintro e w' ⟨rfl, rfl⟩) | (go_at_call 9; go_fit (works_any _); rintro e w' ⟨rfl, hbel⟩))
            go_ret
            exact ⟨rfl, hbel⟩
        · obtain ⟨q, r, p, k1, k2, k3, k4, k5, k6, k7, k8, hq, hr, hp, k9, k10, s1, s2, s3, s4⟩ := div_facts HA.out HB.out hb0 hm
          have HQ := Lib.hid hq; have HR := Lib.hid hr; have HP := Lib.hid hp
          clear hq hr hp hm
          have hbs : 0 < b ∨ b < 0 := by omega
          have hrs : 0 < r ∨ r < 0 ∨ r = 0 := by omega
          clear hb0
          rcases hbs with hb1 | hb1
          · have z1 := s1 hb1
            have z2 : wrap64 (-b) = -b := by rcases k10 with h | h; omega; exact h
            obtain ⟨z3, z4⟩ := z1
            clear s1 s2 k10
            rcases hrs with hr1 | hr1 | rfl
            · have z5 := s3 hr1
              have z6 : (r == 0) = false := by simp; omega
              have z7 : decide (r < 0) = false := by simp; omega
              have z8 : decide (a < 0) = false := by simp; omega
              have z9 : decide (r < b) = true := by simp; omega
              clear s3 s4
              as_aux_lemma =>
                go_wp2_with (first | (go_at_call 26; go_fit (div_any _ _ _ HA.out); rintro e w' ⟨rfl, rfl⟩) | (go_at_call 28; go_fit (mod_any _ _ _ HA.out); rintro e w' ⟨rfl, rfl⟩) | (go_at_call 24; go_fit (mul_any _ _ _ HQ.out HB.out); rintro e w' ⟨rfl, rfl⟩) | (go_at_call 15; go_fit (add_any _ _ _ HP.out HR.out); rintro e w' ⟨rfl, rfl⟩) | (go_at_call 12; go_fit (num_any _ _); rintro e w' ⟨rfl, rfl⟩) | (go_at_call 9; go_fit (works_any _); rintro e w' ⟨rfl, hbel⟩))
                go_ret
                exact ⟨rfl, hbel⟩
            · have z5 := s4 hr1
              have z6 : (r == 0) = false := by simp; omega
              have z7 : decide (r < 0) = true := by simp; omega
              have z8 : decide (a < 0) = true := by simp; omega
              have z9 : decide (-b < r) = true := by simp; omega
              clear s3 s4
              as_aux_lemma =>
                go_wp2_with (first | (go_at_call 26; go_fit (div_any _ _ _ HA.out); rintro e w' ⟨rfl, rfl⟩) | (go_at_call 28; go_fit (mod_any _ _ _ HA.out); rintro e w' ⟨rfl, rfl⟩) | (go_at_call 24; go_fit (mul_any _ _ _ HQ.out HB.out); rintro e w' ⟨rfl, rfl⟩) | (go_at_call 15; go_fit (add_any _ _ _ HP.out HR.out); rintro e w' ⟨rfl, rfl⟩) | (go_at_call 12; go_fit (num_any _ _); rintro e w' ⟨rfl, rfl⟩) | (go_at_call 9; go_fit (works_any _); rintro e w' ⟨rfl, hbel⟩))
                go_ret
                exact ⟨rfl, hbel⟩
            · rw [Int.add_zero] at k7 k8
              have z9 : decide (-b < 0) = true := by simp; omega
              have z10 : decide (0 < b) = true := by simp; omega
              clear s3 s4
              as_aux_lemma =>
                go_wp2_with (first | (go_at_call 26; go_fit (div_any _ _ _ HA.out); rintro e w' ⟨rfl, rfl⟩) | (go_at_call 28; go_fit (mod_any _ _ _ HA.out); rintro e w' ⟨rfl, rfl⟩) | (go_at_call 24; go_fit (mul_any _ _ _ HQ.out HB.out); rintro e w' ⟨rfl, rfl⟩) | (go_at_call 15; go_fit (add_any _ _ _ HP.out HR.out); rintro e w' ⟨rfl, rfl⟩) | (go_at_call 12; go_fit (num_any _ _); rintro e w' ⟨rfl, rfl⟩) | (go_at_call 9; go_fit (works_any _); rintro e w' ⟨rfl, hbel⟩))
                go_ret
                exact ⟨rfl, hbel⟩
          · have z1 := s2 hb1
            obtain ⟨z3, z4⟩ := z1
            clear s1 s2 k10
            rcases hrs with hr1 | hr1 | rfl
            · have z5 := s3 hr1
              have z6 : (r == 0) = false := by simp; omega
              have z7 : decide (r < 0) = false := by simp; omega
              have z8 : decide (a < 0) = false := by simp; omega
              have z9 : decide (b < -r) = true := by simp; omega
              clear s3 s4
              as_aux_lemma =>
                go_wp2_with (first | (go_at_call 26; go_fit (div_any _ _ _ HA.out); rintro e w' ⟨rfl, rfl⟩) | (go_at_call 28; go_fit (mod_any _ _ _ HA.out); rintro e w' ⟨rfl, rfl⟩) | (go_at_call 24; go_fit (mul_any _ _ _ HQ.out HB.out); rintro e w' ⟨rfl, rfl⟩) | (go_at_call 15; go_fit (add_any _ _ _ HP.out HR.out); rintro e w' ⟨rfl, rfl⟩) | (go_at_call 12; go_fit (num_any _ _); rintro e w' ⟨rfl, rfl⟩) | (go_at_call 9; go_fit (works_any _); rintro e w' ⟨rfl, hbel⟩))
                go_ret
                exact ⟨rfl, hbel⟩
            · have z5 := s4 hr1
              have z6 : (r == 0) = false := by simp; omega
              have z7 : decide (r < 0) = true := by simp; omega
              have z8 : decide (a < 0) = true := by simp; omega
              have z9 : decide (b < r) = true := by simp; omega
              clear s3 s4
              as_aux_lemma =>
                go_wp2_with (first | (go_at_call 26; go_fit (div_any _ _ _ HA.out); rintro e w' ⟨rfl, rfl⟩) | (go_at_call 28; go_fit (mod_any _ _ _ HA.out); rintro e w' ⟨rfl, rfl⟩) | (go_at_call 24; go_fit (mul_any _ _ _ HQ.out HB.out); rintro e w' ⟨rfl, rfl⟩) | (go_at_call 15; go_fit (add_any _ _ _ HP.out HR.out); rintro e w' ⟨rfl, rfl⟩) | (go_at_call 12; go_fit (num_any _ _); rintro e w' ⟨rfl, rfl⟩) | (go_at_call 9; go_fit (works_any _); rintro e w' ⟨rfl, hbel⟩))
                go_ret
                exact ⟨rfl, hbel⟩
            · rw [Int.add_zero] at k7 k8
              have z9 : decide (b < 0) = true := by simp; omega
              clear s3 s4
              as_aux_lemma =>
                go_wp2_with (first | (go_at_call 26; go_fit (div_any _ _ _ HA.out); rintro e w' ⟨rfl, rfl⟩) | (go_at_call 28; go_fit (mod_any _ _ _ HA.out); rintro e w' ⟨rfl, rfl⟩) | (go_at_call 24; go_fit (mul_any _ _ _ HQ.out HB.out); rintro e w' ⟨rfl, rfl⟩) | (go_at_call 15; go_fit (add_any _ _ _ HP.out HR.out); rintro e w' ⟨rfl, rfl⟩) | (go_at_call 12; go_fit (num_any _ _); rintro e w' ⟨rfl, rfl⟩) | (go_at_call 9; go_fit (works_any _); rintro e w' ⟨rfl, hbel⟩))
                go_ret
                exact ⟨rfl, hbel⟩

theorem backW (a b : Int) (w : World) (ha : (Lit.int .i64 a).wf = true) (hb : (Lit.int .i64 b).wf = true) : Calls Try.prog 8 #[.int .i64 a, .int .i64 b] w fun e w' => e = .returned (.bool true) ∧ Below w.heap.size w w' :=
  back_walk a b w (wf_in64 ha) (wf_in64 hb)
end Go.Proofs.Ytlokoepljmlcgaa
