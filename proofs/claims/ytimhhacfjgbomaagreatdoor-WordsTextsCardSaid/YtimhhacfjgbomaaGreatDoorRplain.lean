/-
  THE WALKS of the document's answer for names: Plain, Reserved, Is.
-/
import Derived.Test.YtimhhacfjgbomaaGreatDoorRname
namespace Go.Proofs.YtimhhacfjgbomaaGreatDoor
set_option linter.unusedSimpArgs false
set_option linter.unusedVariables false
open Go.RowKit Go.Shelf

theorem rplain_snoc (L : List UInt8) (c : UInt8) : rplainB (L ++ [c]) = if L = [] then letN c.toNat else (rplainB L && runB c) := by
  cases L with
  | nil => simp [rplainB]
  | cons d r => rw [if_neg (by simp)]; simp [rplainB, Bool.and_assoc]
theorem rplain_bad : ∀ (L : List UInt8) (j : Nat) (h : j < L.length), letN L[j].toNat = false → (j = 0 ∨ digN L[j].toNat = false) → rplainB L = false
  | c :: r, 0, h, h1, _ => by simp [rplainB]; intro h2; simp at h1; rw [h1] at h2; cases h2
  | c :: r, j + 1, h, h1, h2 => by
    have h2 := h2.resolve_left (by omega)
    simp only [List.getElem_cons_succ] at h1 h2
    have : r.all runB = false := by
      rw [List.all_eq_false]
      exact ⟨r[j]'(by simpa using h), List.getElem_mem _, by unfold runB; rw [h1, h2]; simp⟩
    simp [rplainB, this]
  | [], j, h, _, _ => by simp at h

set_option maxRecDepth 100000 in
set_option maxHeartbeats 8000000 in
theorem rplain_any (s : ByteArray) (w : World) (hs : s.size ≤ 1099511627776) :
    Calls Tryz.prog 43 #[.string s] w fun e w' => e = .returned (.bool (rplainB s.data.toList)) ∧ w = w' := by
  have hmt := empty_tests s
  obtain ⟨ANS, hA⟩ : ∃ A, rplainB s.data.toList = A := ⟨_, rfl⟩
  rw [hA]
  have HA := Lib.hid hA
  have HM := Lib.hid hmt
  clear hA hmt
  go_enter Tryz.func43, Tryz.ntmps43
  go_wp2_with fail
  go_loopg [3] s.size (fun gk v wr => w = wr ∧ ∃ j : Nat, gk = s.size - j ∧ v = .int .i64 j ∧ j ≤ s.size ∧ (j = 0 ∨ rplainB (s.data.toList.take j) = true))
  case atStart => exact ⟨rfl, 0, rfl, rfl, by omega, .inl rfl⟩
  case round =>
    obtain ⟨rfl, j, rfl, rfl, hj, hq⟩ := hrel
    have HQ := Lib.hid hq
    clear hq
    by_cases hlt : j < s.size
    · have hbad : Hid (letN s[j].toNat = false → (j = 0 ∨ digN s[j].toNat = false) → false = ANS) := Lib.hid fun h1 h2 => by
        have := rplain_bad s.data.toList j (by rw [sz]; exact hlt) (by rw [get_list hlt]; exact h1) (by rw [get_list hlt]; exact h2)
        rw [HA.out] at this; exact this.symm
      have hok : Hid ((letN s[j].toNat = true ∨ (j ≠ 0 ∧ digN s[j].toNat = true)) → rplainB (s.data.toList.take (j + 1)) = true) := Lib.hid fun h => by
        rw [at_take (by rw [sz]; exact hlt), get_list hlt, rplain_snoc]
        by_cases h0 : j = 0
        · subst h0
          simp
          rcases h with h | h
          · exact h
          · exact absurd rfl h.1
        · have hne : ¬ s.data.toList.take j = [] := fun e => by
            have := congrArg List.length e
            rw [List.length_take, sz, List.length_nil] at this
            omega
          rw [if_neg hne]
          have h1 := HQ.out.resolve_left h0
          rw [h1]
          unfold runB
          rcases h with h | h
          · rw [h]; rfl
          · rw [h.2]; simp
      obtain ⟨n, hn⟩ : ∃ n, s[j].toNat = n := ⟨_, rfl⟩
      rw [hn] at hbad hok
      have hLET : ∀ n, letN n = true ∨ digN n = true ∨ (letN n = false ∧ digN n = false) := fun n => by cases letN n <;> cases digN n <;> simp
      rcases hLET n with hl | hd | ⟨hl, hd⟩
      · have hnx := hok.out (.inl hl)
        have HNX := Lib.hid hnx
        simp only [letN, Bool.or_eq_true, decide_eq_true_eq] at hl
        clear hnx hok hbad hLET
        rcases hl with (hl | hl) | hl
        · have t1 : decide ((n : Int) ≥ 97) = true := by simp; omega
          have t2 : decide ((n : Int) ≤ 122) = true := by simp; omega
          go_wp2_with fail
          go_roundg (s.size - (j + 1))
          case measure => omega
          case rel => exact ⟨rfl, j + 1, rfl, rfl, hlt, .inr HNX.out⟩
        · have t1 : decide ((n : Int) ≥ 97) = false := by simp; omega
          have t3 : decide ((n : Int) ≥ 65) = true := by simp; omega
          have t4 : decide ((n : Int) ≤ 90) = true := by simp; omega
          go_wp2_with fail
          go_roundg (s.size - (j + 1))
          case measure => omega
          case rel => exact ⟨rfl, j + 1, rfl, rfl, hlt, .inr HNX.out⟩
        · subst hl
          go_wp2_with fail
          go_roundg (s.size - (j + 1))
          case measure => omega
          case rel => exact ⟨rfl, j + 1, rfl, rfl, hlt, .inr HNX.out⟩
      · simp only [digN, decide_eq_true_eq] at hd
        have hl : letN n = false := by simp [letN]; omega
        have t1 : decide ((n : Int) ≥ 97) = false := by simp; omega
        have t3 : decide ((n : Int) ≥ 65) = false := by simp; omega
        have t5 : ((n : Int) == 95) = false := by simp; omega
        by_cases h0 : j = 0
        · subst h0
          have HB := Lib.hid (hbad.out hl (.inl rfl))
          clear hok hbad hLET hl
          go_wp2_with fail
          go_ret
          exact ⟨retB HB.out, rfl⟩
        · have HNX := Lib.hid (hok.out (.inr ⟨h0, by simp [digN, hd]⟩))
          have hz : ((j : Int) == 0) = false := by simp; omega
          have t6 : decide ((n : Int) < 48) = false := by simp; omega
          have t7 : decide ((n : Int) > 57) = false := by simp; omega
          clear hok hbad hLET hl h0
          go_wp2_with fail
          go_roundg (s.size - (j + 1))
          case measure => omega
          case rel => exact ⟨rfl, j + 1, rfl, rfl, hlt, .inr HNX.out⟩
      · have HB := Lib.hid (hbad.out hl (.inr hd))
        simp only [letN, Bool.or_eq_false_iff, decide_eq_false_iff_not] at hl
        simp only [digN, decide_eq_false_iff_not] at hd
        obtain ⟨⟨l1, l2⟩, l3⟩ := hl
        have t5 : ((n : Int) == 95) = false := by simp; omega
        clear hok hbad hLET
        have hiv : n < 48 ∨ (58 ≤ n ∧ n ≤ 64) ∨ (91 ≤ n ∧ n ≤ 96) ∨ 123 ≤ n := by omega
        clear l1 l2 l3 hd
        rcases hiv with hiv | hiv | hiv | hiv
        · have u0 : decide ((n : Int) ≥ 97) = false := by simp; omega
          have u1 : decide ((n : Int) ≥ 65) = false := by simp; omega
          have u2 : decide ((n : Int) < 48) = true := by simp; omega
          clear hiv
          cases hz : ((j : Int) == 0) with
          | true =>
            go_wp2_with fail
            go_ret
            exact ⟨retB HB.out, rfl⟩
          | false =>
            go_wp2_with fail
            go_ret
            exact ⟨retB HB.out, rfl⟩
        · have u0 : decide ((n : Int) ≥ 97) = false := by simp; omega
          have u1 : decide ((n : Int) ≥ 65) = false := by simp; omega
          have u2 : decide ((n : Int) < 48) = false := by simp; omega
          have u3 : decide ((n : Int) > 57) = true := by simp; omega
          clear hiv
          cases hz : ((j : Int) == 0) with
          | true =>
            go_wp2_with fail
            go_ret
            exact ⟨retB HB.out, rfl⟩
          | false =>
            go_wp2_with fail
            go_ret
            exact ⟨retB HB.out, rfl⟩
        · have u0 : decide ((n : Int) ≥ 97) = false := by simp; omega
          have u1 : decide ((n : Int) ≥ 65) = true := by simp; omega
          have u2 : decide ((n : Int) ≤ 90) = false := by simp; omega
          have u3 : decide ((n : Int) < 48) = false := by simp; omega
          have u4 : decide ((n : Int) > 57) = true := by simp; omega
          clear hiv
          cases hz : ((j : Int) == 0) with
          | true =>
            go_wp2_with fail
            go_ret
            exact ⟨retB HB.out, rfl⟩
          | false =>
            go_wp2_with fail
            go_ret
            exact ⟨retB HB.out, rfl⟩
        · have u0 : decide ((n : Int) ≥ 97) = true := by simp; omega
          have u1 : decide ((n : Int) ≤ 122) = false := by simp; omega
          have u2 : decide ((n : Int) ≥ 65) = true := by simp; omega
          have u3 : decide ((n : Int) ≤ 90) = false := by simp; omega
          have u4 : decide ((n : Int) < 48) = false := by simp; omega
          have u5 : decide ((n : Int) > 57) = true := by simp; omega
          clear hiv
          cases hz : ((j : Int) == 0) with
          | true =>
            go_wp2_with fail
            go_ret
            exact ⟨retB HB.out, rfl⟩
          | false =>
            go_wp2_with fail
            go_ret
            exact ⟨retB HB.out, rfl⟩
    · obtain rfl : j = s.size := by omega
      by_cases h0 : s.size = 0
      · obtain ⟨e1, e2⟩ := HM.out.1 h0
        have HB : Hid (false = ANS) := Lib.hid (by
          have : s.data.toList = [] := List.eq_nil_of_length_eq_zero (by rw [sz]; exact h0)
          rw [← HA.out, this]; rfl)
        clear h0
        go_wp2_with fail
        go_ret
        exact ⟨retB HB.out, rfl⟩
      · obtain ⟨e1, e2⟩ := HM.out.2 h0
        have HB : Hid (true = ANS) := Lib.hid (by
          have h1 := HQ.out.resolve_left h0
          rw [List.take_of_length_le (by rw [sz]; exact Nat.le_refl _)] at h1
          rw [← HA.out, h1])
        clear h0
        go_wp2_with fail
        go_ret
        exact ⟨retB HB.out, rfl⟩
end Go.Proofs.YtimhhacfjgbomaaGreatDoor
