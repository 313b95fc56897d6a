/-
  THE WALKS of the document's answer for words: letter, digit, starts, hex, rune4.
-/
import Derived.Test.YtimhhacfjgbomaaGreatDoorReader
import Derived.IntWalk
namespace Go.Proofs.YtimhhacfjgbomaaGreatDoor
set_option linter.unusedSimpArgs false
set_option linter.unusedVariables false
open Go.RowKit Go.Shelf

theorem at_take {L : List UInt8} {j : Nat} (h : j < L.length) : L.take (j + 1) = L.take j ++ [L[j]] := List.take_succ_eq_append_getElem h
theorem get_list {s : ByteArray} {j : Nat} (h : j < s.size) : s.data.toList[j]'(by rw [sz]; exact h) = s[j] := rfl

set_option maxRecDepth 100000 in
theorem rletter_any (c : UInt8) (w : World) : Calls Tryz.prog 60 #[.int .u8 c.toNat] w fun e w' => e = .returned (.bool (letN c.toNat)) ∧ w = w' := by
  obtain ⟨n, hn⟩ : ∃ n, c.toNat = n := ⟨_, rfl⟩
  have hlt : n < 256 := hn ▸ c.toNat_lt
  rw [hn]; clear hn
  have hiv : n < 65 ∨ (65 ≤ n ∧ n ≤ 90) ∨ (91 ≤ n ∧ n < 95) ∨ n = 95 ∨ n = 96 ∨ (97 ≤ n ∧ n ≤ 122) ∨ 123 ≤ n := by omega
  rcases hiv with h | h | h | h | h | h | h
  · have HA : Hid (false = letN n) := Lib.hid (by unfold letN; simp; try omega)
    have t0 : decide ((n : Int) ≥ 97) = false := by simp; omega
    have t1 : decide ((n : Int) ≥ 65) = false := by simp; omega
    have t2 : ((n : Int) == 95) = false := by simp; omega
    clear h
    go_enter Tryz.func60, Tryz.ntmps60
    go_wp2_with fail
    go_ret
    exact ⟨retB HA.out, rfl⟩
  · have HA : Hid (true = letN n) := Lib.hid (by unfold letN; simp; try omega)
    have t3 : decide ((n : Int) ≥ 97) = false := by simp; omega
    have t4 : decide ((n : Int) ≥ 65) = true := by simp; omega
    have t5 : decide ((n : Int) ≤ 90) = true := by simp; omega
    clear h
    go_enter Tryz.func60, Tryz.ntmps60
    go_wp2_with fail
    go_ret
    exact ⟨retB HA.out, rfl⟩
  · have HA : Hid (false = letN n) := Lib.hid (by unfold letN; simp; try omega)
    have t6 : decide ((n : Int) ≥ 97) = false := by simp; omega
    have t7 : decide ((n : Int) ≥ 65) = true := by simp; omega
    have t8 : decide ((n : Int) ≤ 90) = false := by simp; omega
    have t9 : ((n : Int) == 95) = false := by simp; omega
    clear h
    go_enter Tryz.func60, Tryz.ntmps60
    go_wp2_with fail
    go_ret
    exact ⟨retB HA.out, rfl⟩
  · have HA : Hid (true = letN n) := Lib.hid (by unfold letN; simp; try omega)
    have t10 : decide ((n : Int) ≥ 97) = false := by simp; omega
    have t11 : decide ((n : Int) ≥ 65) = true := by simp; omega
    have t12 : decide ((n : Int) ≤ 90) = false := by simp; omega
    have t13 : ((n : Int) == 95) = true := by simp; omega
    clear h
    go_enter Tryz.func60, Tryz.ntmps60
    go_wp2_with fail
    go_ret
    exact ⟨retB HA.out, rfl⟩
  · have HA : Hid (false = letN n) := Lib.hid (by unfold letN; simp; try omega)
    have t14 : decide ((n : Int) ≥ 97) = false := by simp; omega
    have t15 : decide ((n : Int) ≥ 65) = true := by simp; omega
    have t16 : decide ((n : Int) ≤ 90) = false := by simp; omega
    have t17 : ((n : Int) == 95) = false := by simp; omega
    clear h
    go_enter Tryz.func60, Tryz.ntmps60
    go_wp2_with fail
    go_ret
    exact ⟨retB HA.out, rfl⟩
  · have HA : Hid (true = letN n) := Lib.hid (by unfold letN; simp; try omega)
    have t18 : decide ((n : Int) ≥ 97) = true := by simp; omega
    have t19 : decide ((n : Int) ≤ 122) = true := by simp; omega
    clear h
    go_enter Tryz.func60, Tryz.ntmps60
    go_wp2_with fail
    go_ret
    exact ⟨retB HA.out, rfl⟩
  · have HA : Hid (false = letN n) := Lib.hid (by unfold letN; simp; try omega)
    have t20 : decide ((n : Int) ≥ 97) = true := by simp; omega
    have t21 : decide ((n : Int) ≤ 122) = false := by simp; omega
    have t22 : decide ((n : Int) ≥ 65) = true := by simp; omega
    have t23 : decide ((n : Int) ≤ 90) = false := by simp; omega
    have t24 : ((n : Int) == 95) = false := by simp; omega
    clear h
    go_enter Tryz.func60, Tryz.ntmps60
    go_wp2_with fail
    go_ret
    exact ⟨retB HA.out, rfl⟩
set_option maxRecDepth 100000 in
theorem rdigit_any (c : UInt8) (w : World) : Calls Tryz.prog 61 #[.int .u8 c.toNat] w fun e w' => e = .returned (.bool (digN c.toNat)) ∧ w = w' := by
  obtain ⟨n, hn⟩ : ∃ n, c.toNat = n := ⟨_, rfl⟩
  have hlt : n < 256 := hn ▸ c.toNat_lt
  rw [hn]; clear hn
  have hiv : n < 48 ∨ (48 ≤ n ∧ n ≤ 57) ∨ 58 ≤ n := by omega
  rcases hiv with h | h | h
  · have HA : Hid (false = digN n) := Lib.hid (by unfold digN; simp; try omega)
    have t25 : decide ((n : Int) ≥ 48) = false := by simp; omega
    clear h
    go_enter Tryz.func61, Tryz.ntmps61
    go_wp2_with fail
    go_ret
    exact ⟨retB HA.out, rfl⟩
  · have HA : Hid (true = digN n) := Lib.hid (by unfold digN; simp; try omega)
    have t26 : decide ((n : Int) ≥ 48) = true := by simp; omega
    have t27 : decide ((n : Int) ≤ 57) = true := by simp; omega
    clear h
    go_enter Tryz.func61, Tryz.ntmps61
    go_wp2_with fail
    go_ret
    exact ⟨retB HA.out, rfl⟩
  · have HA : Hid (false = digN n) := Lib.hid (by unfold digN; simp; try omega)
    have t28 : decide ((n : Int) ≥ 48) = true := by simp; omega
    have t29 : decide ((n : Int) ≤ 57) = false := by simp; omega
    clear h
    go_enter Tryz.func61, Tryz.ntmps61
    go_wp2_with fail
    go_ret
    exact ⟨retB HA.out, rfl⟩
/-- A digit to the base 16, or -1. -/
def hexI (n : Nat) : Int := match hexN n with | some x => (x : Int) | none => -1
theorem hexI_val (n : Nat) : hexI n = if 48 ≤ n ∧ n ≤ 57 then (n : Int) - 48 else if 97 ≤ n ∧ n ≤ 102 then (n : Int) - 87 else if 65 ≤ n ∧ n ≤ 70 then (n : Int) - 55 else -1 := by
  unfold hexI hexN
  split
  · rename_i x h
    split at h
    · cases h; rw [if_pos (by assumption)]; omega
    · rw [if_neg (by assumption)]
      split at h
      · cases h; rw [if_pos (by assumption)]; omega
      · rw [if_neg (by assumption)]
        split at h
        · cases h; rw [if_pos (by assumption)]; omega
        · cases h
  · rename_i h
    split at h
    · cases h
    · rw [if_neg (by assumption)]
      split at h
      · cases h
      · rw [if_neg (by assumption)]
        split at h
        · cases h
        · rw [if_neg (by assumption)]
theorem retI {k : IntKind} {a b : Int} (h : a = b) : Ending.returned (.int k a) = .returned (.int k b) := by rw [h]
set_option maxRecDepth 100000 in
theorem rhex_any (c : UInt8) (w : World) : Calls Tryz.prog 98 #[.int .u8 c.toNat] w fun e w' => e = .returned (.int .i64 (hexI c.toNat)) ∧ w = w' := by
  obtain ⟨n, hn⟩ : ∃ n, c.toNat = n := ⟨_, rfl⟩
  have hlt : n < 256 := hn ▸ c.toNat_lt
  rw [hn]; clear hn
  have hiv : n < 48 ∨ (48 ≤ n ∧ n ≤ 57) ∨ (58 ≤ n ∧ n < 65) ∨ (65 ≤ n ∧ n ≤ 70) ∨ (71 ≤ n ∧ n < 97) ∨ (97 ≤ n ∧ n ≤ 102) ∨ 103 ≤ n := by omega
  rcases hiv with h | h | h | h | h | h | h
  · have HA : Hid (-1 = hexI n) := Lib.hid (by rw [hexI_val]; rw [if_neg (by omega), if_neg (by omega), if_neg (by omega)])
    have HD := Lib.hid (fun w => rdigit_any (UInt8.ofNat n) w)
    have hnn : (UInt8.ofNat n).toNat = n := by simp; omega
    rw [hnn, show digN n = false by unfold digN; simp; try omega] at HD
    have t30 : decide ((n : Int) ≥ 97) = false := by simp; omega
    have t31 : decide ((n : Int) ≥ 65) = false := by simp; omega
    clear h hnn
    go_enter Tryz.func98, Tryz.ntmps98
    go_wp2_with (go_at_call 61; refine (HD.out _).mono ?_; rintro e w' ⟨rfl, rfl⟩)
    go_ret
    exact ⟨retI HA.out, rfl⟩
  · have HA : Hid ((n : Int) - 48 = hexI n) := Lib.hid (by rw [hexI_val]; rw [if_pos h])
    have HD := Lib.hid (fun w => rdigit_any (UInt8.ofNat n) w)
    have hnn : (UInt8.ofNat n).toNat = n := by simp; omega
    rw [hnn, show digN n = true by unfold digN; simp; try omega] at HD
    have w1 : IntKind.u8.wrap ((n : Int) - 48) = (n : Int) - 48 := IntWalk.u8_in _ (by omega)
    have w2 : IntKind.i64.wrap ((n : Int) - 48) = (n : Int) - 48 := IntWalk.i64_in _ (by omega)
    clear h hnn
    go_enter Tryz.func98, Tryz.ntmps98
    go_wp2_with (go_at_call 61; refine (HD.out _).mono ?_; rintro e w' ⟨rfl, rfl⟩)
    go_ret
    exact ⟨retI HA.out, rfl⟩
  · have HA : Hid (-1 = hexI n) := Lib.hid (by rw [hexI_val]; rw [if_neg (by omega), if_neg (by omega), if_neg (by omega)])
    have HD := Lib.hid (fun w => rdigit_any (UInt8.ofNat n) w)
    have hnn : (UInt8.ofNat n).toNat = n := by simp; omega
    rw [hnn, show digN n = false by unfold digN; simp; try omega] at HD
    have t32 : decide ((n : Int) ≥ 97) = false := by simp; omega
    have t33 : decide ((n : Int) ≥ 65) = false := by simp; omega
    clear h hnn
    go_enter Tryz.func98, Tryz.ntmps98
    go_wp2_with (go_at_call 61; refine (HD.out _).mono ?_; rintro e w' ⟨rfl, rfl⟩)
    go_ret
    exact ⟨retI HA.out, rfl⟩
  · have HA : Hid ((n : Int) - 65 + 10 = hexI n) := Lib.hid (by rw [hexI_val]; rw [if_neg (by omega), if_neg (by omega), if_pos h]; omega)
    have HD := Lib.hid (fun w => rdigit_any (UInt8.ofNat n) w)
    have hnn : (UInt8.ofNat n).toNat = n := by simp; omega
    rw [hnn, show digN n = false by unfold digN; simp; try omega] at HD
    have t34 : decide ((n : Int) ≥ 97) = false := by simp; omega
    have t35 : decide ((n : Int) ≥ 65) = true := by simp; omega
    have t36 : decide ((n : Int) ≤ 70) = true := by simp; omega
    have w1 : IntKind.u8.wrap ((n : Int) - 65) = (n : Int) - 65 := IntWalk.u8_in _ (by omega)
    have w2 : IntKind.i64.wrap ((n : Int) - 65) = (n : Int) - 65 := IntWalk.i64_in _ (by omega)
    have w3 : IntKind.i64.wrap ((n : Int) - 65 + 10) = (n : Int) - 65 + 10 := IntWalk.i64_in _ (by omega)
    clear h hnn
    go_enter Tryz.func98, Tryz.ntmps98
    go_wp2_with (go_at_call 61; refine (HD.out _).mono ?_; rintro e w' ⟨rfl, rfl⟩)
    go_ret
    exact ⟨retI HA.out, rfl⟩
  · have HA : Hid (-1 = hexI n) := Lib.hid (by rw [hexI_val]; rw [if_neg (by omega), if_neg (by omega), if_neg (by omega)])
    have HD := Lib.hid (fun w => rdigit_any (UInt8.ofNat n) w)
    have hnn : (UInt8.ofNat n).toNat = n := by simp; omega
    rw [hnn, show digN n = false by unfold digN; simp; try omega] at HD
    have t37 : decide ((n : Int) ≥ 97) = false := by simp; omega
    have t38 : decide ((n : Int) ≥ 65) = true := by simp; omega
    have t39 : decide ((n : Int) ≤ 70) = false := by simp; omega
    clear h hnn
    go_enter Tryz.func98, Tryz.ntmps98
    go_wp2_with (go_at_call 61; refine (HD.out _).mono ?_; rintro e w' ⟨rfl, rfl⟩)
    go_ret
    exact ⟨retI HA.out, rfl⟩
  · have HA : Hid ((n : Int) - 97 + 10 = hexI n) := Lib.hid (by rw [hexI_val]; rw [if_neg (by omega), if_pos h]; omega)
    have HD := Lib.hid (fun w => rdigit_any (UInt8.ofNat n) w)
    have hnn : (UInt8.ofNat n).toNat = n := by simp; omega
    rw [hnn, show digN n = false by unfold digN; simp; try omega] at HD
    have t40 : decide ((n : Int) ≥ 97) = true := by simp; omega
    have t41 : decide ((n : Int) ≤ 102) = true := by simp; omega
    have w1 : IntKind.u8.wrap ((n : Int) - 97) = (n : Int) - 97 := IntWalk.u8_in _ (by omega)
    have w2 : IntKind.i64.wrap ((n : Int) - 97) = (n : Int) - 97 := IntWalk.i64_in _ (by omega)
    have w3 : IntKind.i64.wrap ((n : Int) - 97 + 10) = (n : Int) - 97 + 10 := IntWalk.i64_in _ (by omega)
    clear h hnn
    go_enter Tryz.func98, Tryz.ntmps98
    go_wp2_with (go_at_call 61; refine (HD.out _).mono ?_; rintro e w' ⟨rfl, rfl⟩)
    go_ret
    exact ⟨retI HA.out, rfl⟩
  · have HA : Hid (-1 = hexI n) := Lib.hid (by rw [hexI_val]; rw [if_neg (by omega), if_neg (by omega), if_neg (by omega)])
    have HD := Lib.hid (fun w => rdigit_any (UInt8.ofNat n) w)
    have hnn : (UInt8.ofNat n).toNat = n := by simp; omega
    rw [hnn, show digN n = false by unfold digN; simp; try omega] at HD
    have t42 : decide ((n : Int) ≥ 97) = true := by simp; omega
    have t43 : decide ((n : Int) ≤ 102) = false := by simp; omega
    have t44 : decide ((n : Int) ≥ 65) = true := by simp; omega
    have t45 : decide ((n : Int) ≤ 70) = false := by simp; omega
    clear h hnn
    go_enter Tryz.func98, Tryz.ntmps98
    go_wp2_with (go_at_call 61; refine (HD.out _).mono ?_; rintro e w' ⟨rfl, rfl⟩)
    go_ret
    exact ⟨retI HA.out, rfl⟩

theorem take_prefix (x u : List UInt8) : (u.take x.length == x) = x.isPrefixOf u := by
  rw [Bool.eq_iff_iff, List.isPrefixOf_iff_prefix, beq_iff_eq]
  constructor
  · intro h; rw [← h]; exact List.take_prefix _ _
  · intro h; exact (List.prefix_iff_eq_take.1 h).symm
set_option maxRecDepth 100000 in
theorem rstarts_any (s : ByteArray) (j : Nat) (x : ByteArray) (w : World) (hs : s.size ≤ 1099511627776) (hj : j ≤ s.size) (hx : x.size ≤ 1048576) :
    Calls Tryz.prog 59 #[.string s, .int .i64 j, .string x] w fun e w' => e = .returned (.bool (x.data.toList.isPrefixOf (s.data.toList.drop j))) ∧ w = w' := by
  have w1 : IntKind.i64.wrap ((s.size : Int) - (j : Int)) = (s.size : Int) - (j : Int) := IntWalk.i64_in _ (by omega)
  by_cases h : x.size ≤ s.size - j
  · have t1 : decide ((s.size : Int) - (j : Int) ≥ (x.size : Int)) = true := by simp; omega
    have w2 : IntKind.i64.wrap ((j : Int) + (x.size : Int)) = (j : Int) + (x.size : Int) := IntWalk.i64_in _ (by omega)
    have HA : Hid (((s.extract j (j + x.size)).toList == x.toList) = x.data.toList.isPrefixOf (s.data.toList.drop j)) := Lib.hid (by
      rw [ByteArray.toList_eq, ByteArray.toList_eq, extract_take, Nat.add_sub_cancel_left, ← take_prefix, sz])
    have e1 : ((j : Int) + (x.size : Int)).toNat = j + x.size := by omega
    have k1 : j + x.size ≤ s.size := by omega
    clear h
    go_enter Tryz.func59, Tryz.ntmps59
    go_wp2_with fail
    go_ret
    exact ⟨retB HA.out, rfl⟩
  · have t1 : decide ((s.size : Int) - (j : Int) ≥ (x.size : Int)) = false := by simp; omega
    have HA : Hid (false = x.data.toList.isPrefixOf (s.data.toList.drop j)) := Lib.hid (by
      symm
      rw [Bool.eq_false_iff]
      intro hp
      have := (List.isPrefixOf_iff_prefix.1 hp).length_le
      rw [List.length_drop, sz, sz] at this
      omega)
    clear h
    go_enter Tryz.func59, Tryz.ntmps59
    go_wp2_with fail
    go_ret
    exact ⟨retB HA.out, rfl⟩

end Go.Proofs.YtimhhacfjgbomaaGreatDoor
