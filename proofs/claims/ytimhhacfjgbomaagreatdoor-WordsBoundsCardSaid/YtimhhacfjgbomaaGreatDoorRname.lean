/-
  THE WALKS of the document's answer for names: Name, lower, Reserved, Is, Plain.
-/
import Derived.Test.YtimhhacfjgbomaaGreatDoorRutf
import Derived.Test.YtimhhacfjgbomaaGreatDoorLawC
import Derived.Test.YtimhhacfjgbomaaGreatDoorRlexa
namespace Go.Proofs.YtimhhacfjgbomaaGreatDoor
set_option linter.unusedSimpArgs false
set_option linter.unusedVariables false
open Go.RowKit Go.Shelf


set_option maxRecDepth 100000 in
set_option maxHeartbeats 2000000 in
theorem rname_any (s : ByteArray) (w : World) (hs : s.size ≤ 1099511627776) :
    Calls Tryz.prog 19 #[.string s] w fun e w' => e = .returned (.bool (nameB s.data.toList)) ∧ w = w' := by
  have hn : nameB s.data.toList = (decide (1 ≤ s.size) && decide (s.size ≤ 64) && Lib.validD s.data.toList && !s.data.toList.contains 0) := by unfold nameB; rw [sz]
  have hU := fun w => utf8_any s w hs
  have HU := Lib.hid hU
  have HN := Lib.hid hn
  clear hU hn
  generalize nameB s.data.toList = ANS at *
  generalize Lib.validD s.data.toList = V at *
  go_enter Tryz.func19, Tryz.ntmps19
  go_wp2_with fail
  go_loopg [3] s.size (fun gk v wr => w = wr ∧ ∃ j : Nat, gk = s.size - j ∧ v = .int .i64 j ∧ j ≤ s.size ∧ (s.data.toList.take j).contains 0 = false)
  case atStart => exact ⟨rfl, 0, rfl, rfl, by omega, by simp⟩
  case round =>
    obtain ⟨rfl, j, rfl, rfl, hj, hq⟩ := hrel
    have HQ := Lib.hid hq
    clear hq
    by_cases hlt : j < s.size
    · have hT : Hid (s.data.toList.take (j + 1) = s.data.toList.take j ++ [s[j]]) := Lib.hid (by rw [at_take (by rw [sz]; exact hlt), get_list hlt])
      have hM : Hid (s[j] ∈ s.data.toList) := Lib.hid (by rw [← get_list hlt]; exact List.getElem_mem _)
      by_cases hc : s[j] = 0
      · have hz : ((s[j].toNat : Int) == 0) = true := by rw [hc]; rfl
        have HA : Hid (false = ANS) := Lib.hid (by
          rw [HN.out]
          have : s.data.toList.contains 0 = true := List.contains_iff_mem.2 (by rw [← hc]; exact hM.out)
          rw [this]; simp)
        clear hc
        go_wp2_with fail
        go_ret
        exact ⟨retB HA.out, rfl⟩
      · have hz : ((s[j].toNat : Int) == 0) = false := by
          have : s[j].toNat ≠ 0 := fun e => hc (UInt8.toNat_inj.1 (by rw [e]; rfl))
          simp; omega
        have HQ2 : Hid ((s.data.toList.take (j + 1)).contains 0 = false) := Lib.hid (by
          rw [hT.out]
          have h1 := HQ.out
          simp only [List.contains_append, h1, Bool.false_or]
          simp; exact fun e => hc e.symm)
        clear hc
        go_wp2_with fail
        go_roundg (s.size - (j + 1))
        case measure => omega
        case rel => exact ⟨rfl, j + 1, rfl, rfl, hlt, HQ2.out⟩
    · obtain rfl : j = s.size := by omega
      have HA : Hid (ANS = (decide (1 ≤ s.size) && decide (s.size ≤ 64) && V)) := Lib.hid (by
        have h1 := HQ.out
        rw [List.take_of_length_le (by rw [sz]; exact Nat.le_refl _)] at h1
        rw [HN.out, h1]; simp)
      clear HQ HN
      by_cases h1 : 1 ≤ s.size
      · by_cases h2 : s.size ≤ 64
        · have HA2 : Hid (V = ANS) := Lib.hid (by rw [HA.out]; simp [h1, h2])
          have t1 : decide ((s.size : Int) ≥ 1) = true := by simp; omega
          have t2 : decide ((s.size : Int) ≤ 64) = true := by simp; omega
          go_wp2_with (go_at_call 37; refine (HU.out _).mono ?_; rintro e w' ⟨rfl, rfl⟩)
          go_ret
          exact ⟨retB HA2.out, rfl⟩
        · have HA2 : Hid (false = ANS) := Lib.hid (by rw [HA.out]; simp [h2])
          have t1 : decide ((s.size : Int) ≥ 1) = true := by simp; omega
          have t2 : decide ((s.size : Int) ≤ 64) = false := by simp; omega
          go_wp2_with fail
          go_ret
          exact ⟨retB HA2.out, rfl⟩
      · have HA2 : Hid (false = ANS) := Lib.hid (by rw [HA.out]; simp [h1])
        have t1 : decide ((s.size : Int) ≥ 1) = false := by simp; omega
        go_wp2_with fail
        go_ret
        exact ⟨retB HA2.out, rfl⟩

theorem one_bytes (w : World) (c : UInt8) {n : Int} (hn : n = c.toNat) : (convert 43 9 (.slice (some ⟨w.heap.size, 0, none⟩) 1 1)).run Tryz.prog (w.alloc (.cells #[.int .u8 n] 5)) = .ok (.string ⟨#[c]⟩) (w.alloc (.cells #[.int .u8 n] 5)) := by
  subst hn
  have hb : Lib.Bytes (w.alloc (.cells #[.int .u8 c.toNat] 5)) w.heap.size 0 ⟨#[c]⟩ := fun i hi => by
    have : i < 1 := hi
    have : i = 0 := by omega
    subst this
    rw [Lib.cell_of_heap (new_at w _)]
    rfl
  exact Lib.run_convert_whole _ 43 5 9 Tryz.underlying43 Tryz.underlying5 Tryz.underlying9 w.heap.size 0 ⟨#[c]⟩ hb 1

set_option maxRecDepth 100000 in
set_option maxHeartbeats 4000000 in
theorem rlower_any (s : ByteArray) (w : World) (hs : s.size ≤ 1099511627776) :
    Calls Tryz.prog 41 #[.string s] w fun e w' => e = .returned (.string ⟨(lowL s.data.toList).toArray⟩) ∧ Below w.heap.size w w' := by
  go_enter Tryz.func41, Tryz.ntmps41
  go_wp2_with fail
  go_loopg [3, 4] s.size (fun gk u v wr => ∃ (j : Nat) (T : ByteArray), gk = s.size - j ∧ u = .string T ∧ v = .int .i64 j ∧ j ≤ s.size ∧ T.data.toList = lowL (s.data.toList.take j) ∧ Below w.heap.size w wr)
  case atStart => exact ⟨0, ⟨#[]⟩, rfl, rfl, rfl, by omega, rfl, Below.refl _ _⟩
  case round =>
    obtain ⟨j, T, rfl, rfl, rfl, hj, hq, hb⟩ := hrel
    have HQ := Lib.hid hq
    have hTs : T.size ≤ s.size := by
      rw [← sz, hq]; unfold lowL; rw [List.length_map, List.length_take, sz]; omega
    clear hq
    by_cases hlt : j < s.size
    · have hT : Hid (∀ T' : ByteArray, T' = T ++ ⟨#[lowB s[j]]⟩ → T'.data.toList = lowL (s.data.toList.take (j + 1))) := Lib.hid fun T' e => by
        rw [at_take (by rw [sz]; exact hlt), get_list hlt, e]
        have : (T ++ (⟨#[lowB s[j]]⟩ : ByteArray)).data.toList = T.data.toList ++ [lowB s[j]] := by simp
        rw [this, HQ.out]; unfold lowL; simp
      have k1 : ¬ 9223372036854775807 < T.size + 1 := by omega
      by_cases hup : 65 ≤ s[j].toNat ∧ s[j].toNat ≤ 90
      · obtain ⟨h1, h2⟩ := hup
        obtain ⟨e1, e2⟩ := low_up h1 h2
        have hcv := one_bytes wr (s[j] + 32) (n := (s[j].toNat : Int) + 32) (by rw [e2]; omega)
        rw [e1] at hT
        have t1 : decide ((s[j].toNat : Int) ≥ 65) = true := by simp; omega
        have t2 : decide ((s[j].toNat : Int) ≤ 90) = true := by simp; omega
        have HB := Lib.hid (hb.trans ((ballocR wr (.cells #[.int .u8 ((s[j].toNat : Int) + 32)] 5)).mono hb.size))
        clear e1 e2 hb
        go_wp2_with fail
        go_roundg (s.size - (j + 1))
        case measure => omega
        case rel => exact ⟨j + 1, _, rfl, rfl, rfl, hlt, hT.out _ rfl, HB.out⟩
      · have e1 := low_no hup
        rw [e1] at hT
        have hcv := one_bytes wr s[j] (n := (s[j].toNat : Int)) rfl
        have HB := Lib.hid (hb.trans ((ballocR wr (.cells #[.int .u8 (s[j].toNat : Int)] 5)).mono hb.size))
        clear e1 hb
        rcases Nat.lt_or_ge s[j].toNat 65 with h1 | h1
        · have t1 : decide ((s[j].toNat : Int) ≥ 65) = false := by simp; omega
          clear hup
          go_wp2_with fail
          go_roundg (s.size - (j + 1))
          case measure => omega
          case rel => exact ⟨j + 1, _, rfl, rfl, rfl, hlt, hT.out _ rfl, HB.out⟩
        · have t1 : decide ((s[j].toNat : Int) ≥ 65) = true := by simp; omega
          have t2 : decide ((s[j].toNat : Int) ≤ 90) = false := by simp; omega
          clear hup
          go_wp2_with fail
          go_roundg (s.size - (j + 1))
          case measure => omega
          case rel => exact ⟨j + 1, _, rfl, rfl, rfl, hlt, hT.out _ rfl, HB.out⟩
    · obtain rfl : j = s.size := by omega
      have HA : Hid (T = ⟨(lowL s.data.toList).toArray⟩) := Lib.hid (ba_ext (by
        rw [HQ.out, List.take_of_length_le (by rw [sz]; exact Nat.le_refl _)]))
      go_wp2_with fail
      go_ret
      exact ⟨retS HA.out, hb⟩
end Go.Proofs.YtimhhacfjgbomaaGreatDoor
