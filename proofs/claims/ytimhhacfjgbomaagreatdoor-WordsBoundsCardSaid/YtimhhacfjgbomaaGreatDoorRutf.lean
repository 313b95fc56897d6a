/-
  PLAIN LAW: UTF-8, as the document's answer looks at it, is what the library calls valid.
  WALKS: UTF-8, as the document's answer looks at it.
  THE WALK of the document's UTF8.
-/
import Derived.Lib.ValidLaws
import Derived.Test.YtimhhacfjgbomaaGreatDoorRows
import Derived.Test.YtimhhacfjgbomaaGreatDoorReader
import Derived.Deep.LoopGhost
namespace Go.Proofs.YtimhhacfjgbomaaGreatDoor
set_option linter.unusedSimpArgs false
set_option linter.unusedVariables false
open Go.Lib

/-- A byte of a text; behind its end nought. -/
def rb (s : ByteArray) (i : Nat) : Nat := (s.get! i).toNat
theorem rb_lt (s : ByteArray) (i : Nat) : rb s i < 256 := (s.get! i).toNat_lt
/-- Is the byte at a place one of 80 to BF? -/
def moreB (s : ByteArray) (i : Nat) : Bool := decide (i < s.size) && decide (128 ≤ rb s i) && decide (rb s i ≤ 191)
/-- How many bytes the rune at a place has; 0: there is none. -/
def runeS (s : ByteArray) (i : Nat) : Nat :=
  if rb s i < 128 then 1
  else if 194 ≤ rb s i ∧ rb s i ≤ 223 ∧ moreB s (i + 1) = true then 2
  else if 224 ≤ rb s i ∧ rb s i ≤ 239 ∧ moreB s (i + 1) = true ∧ moreB s (i + 2) = true then
    (if rb s i = 224 ∧ rb s (i + 1) < 160 ∨ rb s i = 237 ∧ 159 < rb s (i + 1) then 0 else 3)
  else if 240 ≤ rb s i ∧ rb s i ≤ 244 ∧ moreB s (i + 1) = true ∧ moreB s (i + 2) = true ∧ moreB s (i + 3) = true then
    (if rb s i = 240 ∧ rb s (i + 1) < 144 ∨ rb s i = 244 ∧ 143 < rb s (i + 1) then 0 else 4)
  else 0
theorem runeS_pos {s : ByteArray} {i : Nat} (hi : i < s.size) : i + runeS s i ≤ s.size := by
  have hm : ∀ j, moreB s j = true → j < s.size := fun j h => by simp [moreB] at h; exact h.1.1
  unfold runeS
  split
  · omega
  · split
    · rename_i h2
      have := hm _ h2.2.2
      omega
    · split
      · rename_i h3
        have := hm _ h3.2.2.2
        split <;> omega
      · split
        · rename_i h4
          have := hm _ h4.2.2.2.2
          split <;> omega
        · omega

theorem drop_getD (l : List UInt8) (i j : Nat) : (l.drop i).getD j 0 = l.getD (i + j) 0 := by simp [List.getD_eq_getElem?_getD]

set_option maxRecDepth 100000 in
set_option maxHeartbeats 4000000 in
/-- From a place on: as the rune there says. -/
theorem valid_rune (s : ByteArray) (i : Nat) (hi : i < s.size) : validD (s.data.toList.drop i) = if runeS s i = 0 then false else validD (s.data.toList.drop (i + runeS s i)) := by
  have hsz : s.data.toList.length = s.size := by rw [Array.length_toList]; rfl
  have hne : s.data.toList.drop i ≠ [] := by
    intro h
    have := congrArg List.length h
    rw [List.length_drop, hsz] at this
    simp at this; omega
  have hg : ∀ j, ((s.data.toList.drop i).getD j 0).toNat = rb s (i + j) := fun j => by rw [drop_getD, getD_get!']; rfl
  have hlen : (s.data.toList.drop i).length = s.size - i := by rw [List.length_drop, hsz]
  by_cases h0 : rb s i < 128
  · have hr : runeS s i = 1 := by unfold runeS; rw [if_pos h0]
    rw [hr, if_neg (by decide)]
    have hd : ∃ b t, s.data.toList.drop i = b :: t := by
      cases h : s.data.toList.drop i with
      | nil => exact absurd h hne
      | cons b t => exact ⟨b, t, rfl⟩
    obtain ⟨b, t, hd⟩ := hd
    have hb : b.toNat < 128 := by
      have := hg 0
      rw [hd] at this
      simp at this
      omega
    rw [hd, validD_cons b t hb]
    have : s.data.toList.drop (i + 1) = t := by rw [← List.drop_drop, hd]; rfl
    rw [this]
  · have hl := validD_lead (s.data.toList.drop i) hne (by rw [hg 0]; simp only [Nat.add_zero]; omega)
    rw [hl, hlen, hg 0, hg 1, hg 2, hg 3]
    simp only [Nat.add_zero]
    have e : checkN (s.size - i) (rb s (i + 1)) (rb s (i + 2)) (rb s (i + 3)) (firstT (rb s i) % 8) (accLo (firstT (rb s i) / 16)) (accHi (firstT (rb s i) / 16)) = if runeS s i = 0 then none else some (runeS s i) := by
      have hb0 := rb_lt s i; have hb1 := rb_lt s (i + 1); have hb2 := rb_lt s (i + 2); have hb3 := rb_lt s (i + 3)
      have m1 : moreB s (i + 1) = true ↔ (1 < s.size - i ∧ 128 ≤ rb s (i + 1) ∧ rb s (i + 1) ≤ 191) := by simp [moreB]; omega
      have m2 : moreB s (i + 2) = true ↔ (2 < s.size - i ∧ 128 ≤ rb s (i + 2) ∧ rb s (i + 2) ≤ 191) := by simp [moreB]; omega
      have m3 : moreB s (i + 3) = true ↔ (3 < s.size - i ∧ 128 ≤ rb s (i + 3) ∧ rb s (i + 3) ≤ 191) := by simp [moreB]; omega
      unfold runeS
      simp only [m1, m2, m3]
      clear m1 m2 m3 hl hlen hg hne hsz
      have hn : 0 < s.size - i := by omega
      generalize s.size - i = n at *
      generalize rb s i = b0 at *
      generalize rb s (i + 1) = b1 at *
      generalize rb s (i + 2) = b2 at *
      generalize rb s (i + 3) = b3 at *
      rw [if_neg h0]
      by_cases c0 : b0 < 194
      · rw [show firstT b0 = 241 by simp [firstT, h0, c0]]
        simp [checkN, show ¬ 194 ≤ b0 by omega, show ¬ 224 ≤ b0 by omega, show ¬ 240 ≤ b0 by omega]
      by_cases c1 : b0 < 224
      · rw [show firstT b0 = 2 by simp [firstT, h0, c0, c1]]
        simp only [checkN, accLo, accHi, show ¬ 224 ≤ b0 by omega, show ¬ 240 ≤ b0 by omega, show 194 ≤ b0 by omega, show b0 ≤ 223 by omega, true_and, false_and, if_false, if_true]
        repeat' split
        all_goals first | rfl | (exfalso; omega) | (simp_all <;> omega)
      by_cases c5 : b0 < 240
      · have hA : firstT b0 = if b0 = 224 then 19 else if b0 = 237 then 35 else 3 := by
          unfold firstT
          repeat' split
          all_goals first | rfl | omega
        rw [hA]
        by_cases d1 : b0 = 224
        · subst d1
          simp only [checkN, accLo, accHi, if_true]
          simp
          repeat' split
          all_goals first | rfl | (exfalso; omega) | (simp_all <;> omega)
        · by_cases d2 : b0 = 237
          · subst d2
            simp only [checkN, accLo, accHi, if_true]
            simp
            repeat' split
            all_goals first | rfl | (exfalso; omega) | (simp_all <;> omega)
          · simp only [checkN, accLo, accHi, d1, d2, if_false]
            simp
            repeat' split
            all_goals first | rfl | (exfalso; omega) | (simp_all <;> omega)
      by_cases c8 : b0 ≤ 244
      · have hA : firstT b0 = if b0 = 240 then 52 else if b0 = 244 then 68 else 4 := by
          unfold firstT
          repeat' split
          all_goals first | rfl | omega
        rw [hA]
        by_cases d1 : b0 = 240
        · subst d1
          simp only [checkN, accLo, accHi, if_true]
          simp
          repeat' split
          all_goals first | rfl | (exfalso; omega) | (simp_all <;> omega)
        · by_cases d2 : b0 = 244
          · subst d2
            simp only [checkN, accLo, accHi, if_true]
            simp
            repeat' split
            all_goals first | rfl | (exfalso; omega) | (simp_all <;> omega)
          · simp only [checkN, accLo, accHi, d1, d2, if_false]
            simp
            repeat' split
            all_goals first | rfl | (exfalso; omega) | (simp_all <;> omega)
      · rw [show firstT b0 = 241 by simp [firstT, h0, c0, c1, show ¬ b0 = 224 by omega, show ¬ b0 < 237 by omega, show ¬ b0 = 237 by omega, show ¬ b0 < 240 by omega, show ¬ b0 = 240 by omega, show ¬ b0 < 244 by omega, show ¬ b0 = 244 by omega]]
        simp [checkN, show ¬ b0 ≤ 223 by omega, show ¬ b0 ≤ 239 by omega, c8]
    rw [e]
    by_cases h : runeS s i = 0
    · rw [if_pos h, if_pos h]
    · rw [if_neg h, if_neg h]
      simp only [List.drop_drop]
end Go.Proofs.YtimhhacfjgbomaaGreatDoor
namespace Go.Proofs.YtimhhacfjgbomaaGreatDoor
set_option linter.unusedSimpArgs false
set_option linter.unusedVariables false
open Go.RowKit Go.Shelf Go.Lib

theorem rb_eq {s : ByteArray} {i : Nat} (h : i < s.size) : (s[i]'h).toNat = rb s i := by
  unfold rb
  rw [← getD_get!']
  have hl : i < s.data.toList.length := by rw [Array.length_toList]; exact h
  rw [List.getD_eq_getElem?_getD, List.getElem?_eq_getElem hl]
  rfl
theorem more_any (s : ByteArray) (i : Nat) (w : World) (hi : i ≤ 4611686018427387904) (hs : s.size ≤ 4611686018427387904) :
    Calls Tryz.prog 85 #[.string s, .int .i64 i] w fun e w' => e = .returned (.bool (moreB s i)) ∧ w = w' := by
  by_cases h : i < s.size
  · have hb := rb_eq h
    unfold moreB
    generalize rb s i = b at *
    go_enter Tryz.func85, Tryz.ntmps85
    go_wp2
    all_goals go_ret
    all_goals exact ⟨retB (by rw [Bool.eq_iff_iff]; simp [h]; omega), rfl⟩
  · go_enter Tryz.func85, Tryz.ntmps85
    go_wp2
    go_ret
    exact ⟨retB (by simp [moreB, h]), rfl⟩

theorem more_int (s : ByteArray) (z : Int) (w : World) (h0 : 0 ≤ z) (h1 : z ≤ 4611686018427387904) (hs : s.size ≤ 4611686018427387904) :
    Calls Tryz.prog 85 #[.string s, .int .i64 z] w fun e w' => e = .returned (.bool (moreB s z.toNat)) ∧ w = w' := by
  obtain ⟨i, rfl⟩ := Int.eq_ofNat_of_zero_le h0
  exact more_any s i w (by omega) hs

set_option maxRecDepth 100000 in
set_option maxHeartbeats 8000000 in
theorem runeAt_any (s : ByteArray) (i : Nat) (w : World) (hi : i < s.size) (hs : s.size ≤ 1099511627776) :
    Calls Tryz.prog 68 #[.string s, .int .i64 i] w fun e w' => e = .returned (.int .i64 (runeS s i)) ∧ w = w' := by
  have hb := rb_eq hi
  have m1 : moreB s ((i : Int) + 1).toNat = moreB s (i + 1) := rfl
  have m2 : moreB s ((i : Int) + 2).toNat = moreB s (i + 2) := rfl
  have m3 : moreB s ((i : Int) + 3).toNat = moreB s (i + 3) := rfl
  have hs' : s.size ≤ 4611686018427387904 := by omega
  have hlt := rb_lt s i
  have h1s : moreB s (i + 1) = true → i + 1 < s.size := fun h => by simp [moreB] at h; exact h.1.1
  have hb1 : (h : i + 1 < s.size) → (s[i + 1]'h).toNat = rb s (i + 1) := fun h => rb_eq h
  obtain ⟨R, hR⟩ : ∃ R, runeS s i = R := ⟨_, rfl⟩
  rw [hR]
  unfold runeS at hR
  obtain ⟨M1, q1⟩ : ∃ M, moreB s (i + 1) = M := ⟨_, rfl⟩
  obtain ⟨M2, q2⟩ : ∃ M, moreB s (i + 2) = M := ⟨_, rfl⟩
  obtain ⟨M3, q3⟩ : ∃ M, moreB s (i + 3) = M := ⟨_, rfl⟩
  rw [q1] at m1 h1s hR
  rw [q2] at m2 hR
  rw [q3] at m3 hR
  generalize rb s i = b at *
  generalize rb s (i + 1) = b1 at *
  have hcase : b < 128 ∨ (128 ≤ b ∧ b < 194) ∨ (194 ≤ b ∧ b ≤ 223) ∨ (224 ≤ b ∧ b ≤ 239) ∨ (240 ≤ b ∧ b ≤ 244) ∨ 245 ≤ b := by omega
  have HRS := Lib.hid hR
  have HB1 := Lib.hid hb1
  clear hR hb1
  rcases hcase with c | ⟨c, d⟩ | ⟨c, d⟩ | ⟨c, d⟩ | ⟨c, d⟩ | c
  · go_enter Tryz.func68, Tryz.ntmps68
    go_wp2_with (go_at_call 85; refine (more_int s _ _ ?ha ?hb hs').mono ?_; (case ha => omega); (case hb => omega); rintro e w' ⟨rfl, rfl⟩)
    all_goals go_ret
    all_goals exact ⟨ret1 (by have h := HRS.out; revert h; repeat' split
                              all_goals (intro h; subst h; first | rfl | (exfalso; simp_all; done) | (exfalso; simp_all; omega) | omega)), rfl⟩
  · go_enter Tryz.func68, Tryz.ntmps68
    go_wp2_with (go_at_call 85; refine (more_int s _ _ ?ha ?hb hs').mono ?_; (case ha => omega); (case hb => omega); rintro e w' ⟨rfl, rfl⟩)
    all_goals go_ret
    all_goals exact ⟨ret1 (by have h := HRS.out; revert h; repeat' split
                              all_goals (intro h; subst h; first | rfl | (exfalso; simp_all; done) | (exfalso; simp_all; omega) | omega)), rfl⟩
  · cases M1
    all_goals
      go_enter Tryz.func68, Tryz.ntmps68
      go_wp2_with (go_at_call 85; refine (more_int s _ _ ?ha ?hb hs').mono ?_; (case ha => omega); (case hb => omega); rintro e w' ⟨rfl, rfl⟩)
      all_goals go_ret
      all_goals exact ⟨ret1 (by have h := HRS.out; revert h; repeat' split
                                all_goals (intro h; subst h; first | rfl | (exfalso; simp_all; done) | (exfalso; simp_all; omega) | omega)), rfl⟩
  · cases M1 <;> cases M2
    case true.true =>
      have h1 := h1s rfl
      have hb1' := HB1.out h1
      have e1 : ((i : Int) + 1).toNat = i + 1 := by omega
      go_enter Tryz.func68, Tryz.ntmps68
      go_wp2_with (go_at_call 85; refine (more_int s _ _ ?ha ?hb hs').mono ?_; (case ha => omega); (case hb => omega); rintro e w' ⟨rfl, rfl⟩)
      all_goals go_ret
      all_goals exact ⟨ret1 (by have h := HRS.out; revert h; repeat' split
                                all_goals (intro h; subst h; first | rfl | (exfalso; simp_all; done) | (exfalso; simp_all; omega) | omega)), rfl⟩
    all_goals
      go_enter Tryz.func68, Tryz.ntmps68
      go_wp2_with (go_at_call 85; refine (more_int s _ _ ?ha ?hb hs').mono ?_; (case ha => omega); (case hb => omega); rintro e w' ⟨rfl, rfl⟩)
      all_goals go_ret
      all_goals exact ⟨ret1 (by have h := HRS.out; revert h; repeat' split
                                all_goals (intro h; subst h; first | rfl | (exfalso; simp_all; done) | (exfalso; simp_all; omega) | omega)), rfl⟩
  · cases M1 <;> cases M2 <;> cases M3
    case true.true.true =>
      have h1 := h1s rfl
      have hb1' := HB1.out h1
      have e1 : ((i : Int) + 1).toNat = i + 1 := by omega
      go_enter Tryz.func68, Tryz.ntmps68
      go_wp2_with (go_at_call 85; refine (more_int s _ _ ?ha ?hb hs').mono ?_; (case ha => omega); (case hb => omega); rintro e w' ⟨rfl, rfl⟩)
      all_goals go_ret
      all_goals exact ⟨ret1 (by have h := HRS.out; revert h; repeat' split
                                all_goals (intro h; subst h; first | rfl | (exfalso; simp_all; done) | (exfalso; simp_all; omega) | omega)), rfl⟩
    all_goals
      go_enter Tryz.func68, Tryz.ntmps68
      go_wp2_with (go_at_call 85; refine (more_int s _ _ ?ha ?hb hs').mono ?_; (case ha => omega); (case hb => omega); rintro e w' ⟨rfl, rfl⟩)
      all_goals go_ret
      all_goals exact ⟨ret1 (by have h := HRS.out; revert h; repeat' split
                                all_goals (intro h; subst h; first | rfl | (exfalso; simp_all; done) | (exfalso; simp_all; omega) | omega)), rfl⟩
  · go_enter Tryz.func68, Tryz.ntmps68
    go_wp2_with (go_at_call 85; refine (more_int s _ _ ?ha ?hb hs').mono ?_; (case ha => omega); (case hb => omega); rintro e w' ⟨rfl, rfl⟩)
    all_goals go_ret
    all_goals exact ⟨ret1 (by have h := HRS.out; revert h; repeat' split
                              all_goals (intro h; subst h; first | rfl | (exfalso; simp_all; done) | (exfalso; simp_all; omega) | omega)), rfl⟩
end Go.Proofs.YtimhhacfjgbomaaGreatDoor
namespace Go.Proofs.YtimhhacfjgbomaaGreatDoor
set_option linter.unusedSimpArgs false
set_option linter.unusedVariables false
open Go.RowKit Go.Shelf Go.Lib

set_option maxRecDepth 100000 in
theorem utf8_any (s : ByteArray) (w : World) (hs : s.size ≤ 1099511627776) : Calls Tryz.prog 37 #[.string s] w fun e w' => e = .returned (.bool (validD s.data.toList)) ∧ w = w' := by
  have hsz : s.data.toList.length = s.size := by rw [Array.length_toList]; rfl
  obtain ⟨ANS, hA⟩ : ∃ A, validD s.data.toList = A := ⟨_, rfl⟩
  rw [hA]
  have HA := Lib.hid hA
  clear hA
  go_enter Tryz.func37, Tryz.ntmps37
  go_wp2
  go_loopg [3] s.size (fun gk s0 wr => wr = w ∧ ∃ i : Nat, s0 = .int .i64 i ∧ gk = s.size - i ∧ i ≤ s.size ∧ validD (s.data.toList.drop i) = ANS)
  case atStart => exact ⟨rfl, 0, rfl, rfl, Nat.zero_le _, HA.out⟩
  case round =>
    obtain ⟨rfl, i, rfl, rfl, hi, hv⟩ := hrel
    by_cases hlt : i < s.size
    · have hr := valid_rune s i hlt
      rw [hv] at hr
      have hp := runeS_pos hlt
      have hC := runeAt_any s i wr hlt hs
      have HC := Lib.hid hC
      have HR := Lib.hid hr
      clear hr hC hv
      generalize runeS s i = r at *
      by_cases h0 : r = 0
      · subst h0
        go_wp2_with (go_at_call 68; refine HC.out.mono ?_; rintro e w2 ⟨rfl, rfl⟩)
        go_ret
        exact ⟨retB (by have := HR.out; simpa using this.symm), rfl⟩
      · have e0 : ((r : Int) == 0) = false := by simp; omega
        go_wp2_with (go_at_call 68; refine HC.out.mono ?_; rintro e w2 ⟨rfl, rfl⟩)
        go_roundg (s.size - (i + r))
        case measure => omega
        case rel => exact ⟨rfl, i + r, by go_num, rfl, hp, by have := HR.out; rw [if_neg h0] at this; exact this.symm⟩
    · have hie : i = s.size := by omega
      subst hie
      go_wp2
      go_ret
      have : validD (s.data.toList.drop s.size) = true := by rw [List.drop_of_length_le (by omega)]; rfl
      exact ⟨retB (by rw [← hv, this]), rfl⟩
end Go.Proofs.YtimhhacfjgbomaaGreatDoor
