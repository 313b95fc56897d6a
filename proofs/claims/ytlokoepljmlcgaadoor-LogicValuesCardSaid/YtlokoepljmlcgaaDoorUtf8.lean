/-
  WALKS: UTF-8, as the document's answer looks at it.
-/
import Derived.Test.YtlokoepljmlcgaaDoorUtfP
import Derived.Test.YtlokoepljmlcgaaDoorEqu
namespace Go.Proofs.YtlokoepljmlcgaaDoor
set_option linter.unusedSimpArgs false
set_option linter.unusedVariables false
open Go.RowKit Go.Shelf Go.Lib

theorem rb_eq {s : ByteArray} {i : Nat} (h : i < s.size) : (s[i]'h).toNat = rb s i := by
  unfold rb
  rw [← getD_get!']
  have hl : i < s.data.toList.length := by rw [Array.length_toList]; exact h
  rw [List.getD_eq_getElem?_getD, List.getElem?_eq_getElem hl]
  rfl
theorem more_any (s : ByteArray) (i : Nat) (w : World) (hi : i ≤ 4611686018427387904) (hs : s.size ≤ 4611686018427387904) :
    Calls Tryd.prog 77 #[.string s, .int .i64 i] w fun e w' => e = .returned (.bool (moreB s i)) ∧ w = w' := by
  by_cases h : i < s.size
  · have hb := rb_eq h
    unfold moreB
    generalize rb s i = b at *
    go_enter Tryd.func77, Tryd.ntmps77
    go_wp2
    all_goals go_ret
    all_goals exact ⟨retB (by rw [Bool.eq_iff_iff]; simp [h]; omega), rfl⟩
  · go_enter Tryd.func77, Tryd.ntmps77
    go_wp2
    go_ret
    exact ⟨retB (by simp [moreB, h]), rfl⟩

theorem more_int (s : ByteArray) (z : Int) (w : World) (h0 : 0 ≤ z) (h1 : z ≤ 4611686018427387904) (hs : s.size ≤ 4611686018427387904) :
    Calls Tryd.prog 77 #[.string s, .int .i64 z] w fun e w' => e = .returned (.bool (moreB s z.toNat)) ∧ w = w' := by
  obtain ⟨i, rfl⟩ := Int.eq_ofNat_of_zero_le h0
  exact more_any s i w (by omega) hs

set_option maxRecDepth 100000 in
set_option maxHeartbeats 8000000 in
theorem runeAt_any (s : ByteArray) (i : Nat) (w : World) (hi : i < s.size) (hs : s.size ≤ 1099511627776) :
    Calls Tryd.prog 66 #[.string s, .int .i64 i] w fun e w' => e = .returned (.int .i64 (runeS s i)) ∧ w = w' := by
  have hb := rb_eq hi
  have m1 : moreB s ((i : Int) + 1).toNat = moreB s (i + 1) := rfl
  have m2 : moreB s ((i : Int) + 2).toNat = moreB s (i + 2) := rfl
  have m3 : moreB s ((i : Int) + 3).toNat = moreB s (i + 3) := rfl
  have hs' : s.size ≤ 4611686018427387904 := by omega
  have hlt := rb_lt s i
  have h1s : moreB s (i + 1) = true → i + 1 < s.size := fun h => by simp [moreB] at h; exact h.1.1
  have hb1 : (h : i + 1 < s.size) → (s[i + 1]'h).toNat = rb s (i + 1) := fun h => rb_eq h
  obtain ⟨R, hR⟩ : ∃ R, runeS s i = R := ⟨_, rfl⟩
  rw [hR]
  unfold runeS at hR
  obtain ⟨M1, q1⟩ : ∃ M, moreB s (i + 1) = M := ⟨_, rfl⟩
  obtain ⟨M2, q2⟩ : ∃ M, moreB s (i + 2) = M := ⟨_, rfl⟩
  obtain ⟨M3, q3⟩ : ∃ M, moreB s (i + 3) = M := ⟨_, rfl⟩
  rw [q1] at m1 h1s hR
  rw [q2] at m2 hR
  rw [q3] at m3 hR
  generalize rb s i = b at *
  generalize rb s (i + 1) = b1 at *
  have hcase : b < 128 ∨ (128 ≤ b ∧ b < 194) ∨ (194 ≤ b ∧ b ≤ 223) ∨ (224 ≤ b ∧ b ≤ 239) ∨ (240 ≤ b ∧ b ≤ 244) ∨ 245 ≤ b := by omega
  have HRS := Lib.hid hR
  have HB1 := Lib.hid hb1
  clear hR hb1
  rcases hcase with c | ⟨c, d⟩ | ⟨c, d⟩ | ⟨c, d⟩ | ⟨c, d⟩ | c
  · go_enter Tryd.func66, Tryd.ntmps66
    go_wp2_with (go_at_call 77; refine (more_int s _ _ ?ha ?hb hs').mono ?_; (case ha => omega); (case hb => omega); rintro e w' ⟨rfl, rfl⟩)
    all_goals go_ret
    all_goals exact ⟨ret1 (by have h := HRS.out; revert h; repeat' split
                              all_goals (intro h; subst h; first | rfl | (exfalso; simp_all; done) | (exfalso; simp_all; omega) | omega)), rfl⟩
  · go_enter Tryd.func66, Tryd.ntmps66
    go_wp2_with (go_at_call 77; refine (more_int s _ _ ?ha ?hb hs').mono ?_; (case ha => omega); (case hb => omega); rintro e w' ⟨rfl, rfl⟩)
    all_goals go_ret
    all_goals exact ⟨ret1 (by have h := HRS.out; revert h; repeat' split
                              all_goals (intro h; subst h; first | rfl | (exfalso; simp_all; done) | (exfalso; simp_all; omega) | omega)), rfl⟩
  · cases M1
    all_goals
      go_enter Tryd.func66, Tryd.ntmps66
      go_wp2_with (go_at_call 77; refine (more_int s _ _ ?ha ?hb hs').mono ?_; (case ha => omega); (case hb => omega); rintro e w' ⟨rfl, rfl⟩)
      all_goals go_ret
      all_goals exact ⟨ret1 (by have h := HRS.out; revert h; repeat' split
                                all_goals (intro h; subst h; first | rfl | (exfalso; simp_all; done) | (exfalso; simp_all; omega) | omega)), rfl⟩
  · cases M1 <;> cases M2
    case true.true =>
      have h1 := h1s rfl
      have hb1' := HB1.out h1
      have e1 : ((i : Int) + 1).toNat = i + 1 := by omega
      go_enter Tryd.func66, Tryd.ntmps66
      go_wp2_with (go_at_call 77; refine (more_int s _ _ ?ha ?hb hs').mono ?_; (case ha => omega); (case hb => omega); rintro e w' ⟨rfl, rfl⟩)
      all_goals go_ret
      all_goals exact ⟨ret1 (by have h := HRS.out; revert h; repeat' split
                                all_goals (intro h; subst h; first | rfl | (exfalso; simp_all; done) | (exfalso; simp_all; omega) | omega)), rfl⟩
    all_goals
      go_enter Tryd.func66, Tryd.ntmps66
      go_wp2_with (go_at_call 77; refine (more_int s _ _ ?ha ?hb hs').mono ?_; (case ha => omega); (case hb => omega); rintro e w' ⟨rfl, rfl⟩)
      all_goals go_ret
      all_goals exact ⟨ret1 (by have h := HRS.out; revert h; repeat' split
                                all_goals (intro h; subst h; first | rfl | (exfalso; simp_all; done) | (exfalso; simp_all; omega) | omega)), rfl⟩
  · cases M1 <;> cases M2 <;> cases M3
    case true.true.true =>
      have h1 := h1s rfl
      have hb1' := HB1.out h1
      have e1 : ((i : Int) + 1).toNat = i + 1 := by omega
      go_enter Tryd.func66, Tryd.ntmps66
      go_wp2_with (go_at_call 77; refine (more_int s _ _ ?ha ?hb hs').mono ?_; (case ha => omega); (case hb => omega); rintro e w' ⟨rfl, rfl⟩)
      all_goals go_ret
      all_goals exact ⟨ret1 (by have h := HRS.out; revert h; repeat' split
                                all_goals (intro h; subst h; first | rfl | (exfalso; simp_all; done) | (exfalso; simp_all; omega) | omega)), rfl⟩
    all_goals
      go_enter Tryd.func66, Tryd.ntmps66
      go_wp2_with (go_at_call 77; refine (more_int s _ _ ?ha ?hb hs').mono ?_; (case ha => omega); (case hb => omega); rintro e w' ⟨rfl, rfl⟩)
      all_goals go_ret
      all_goals exact ⟨ret1 (by have h := HRS.out; revert h; repeat' split
                                all_goals (intro h; subst h; first | rfl | (exfalso; simp_all; done) | (exfalso; simp_all; omega) | omega)), rfl⟩
  · go_enter Tryd.func66, Tryd.ntmps66
    go_wp2_with (go_at_call 77; refine (more_int s _ _ ?ha ?hb hs').mono ?_; (case ha => omega); (case hb => omega); rintro e w' ⟨rfl, rfl⟩)
    all_goals go_ret
    all_goals exact ⟨ret1 (by have h := HRS.out; revert h; repeat' split
                              all_goals (intro h; subst h; first | rfl | (exfalso; simp_all; done) | (exfalso; simp_all; omega) | omega)), rfl⟩
end Go.Proofs.YtlokoepljmlcgaaDoor
