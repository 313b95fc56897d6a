/-
  utf8.ValidString, laid on the shelf's; words.Name.
-/
import Derived.Test.YtimhhacfjgbomaaGreatDoorReader
import Derived.Shelf.Unicode.ValidAny
namespace Go.Proofs.YtimhhacfjgbomaaGreatDoor
set_option linter.unusedSimpArgs false
set_option linter.unusedVariables false
open Go.RowKit Go.Shelf Go.Lib

def Tryz.valid_ren : Ren := ⟨fun | 196 => 35 | 259 => 66 | n => n, fun | 0 => 0 | 3 => 3 | 4 => 4 | 5 => 5 | 9 => 9 | 12 => 12 | 46 => 90 | 53 => 31 | 119 => 86 | 138 => 88 | 139 => 89 | n => n, fun | 3 => 0 | 4 => 1 | n => n⟩
theorem Tryz.valid_lays : Lays.n196 Tryz.prog Tryz.valid_ren := {
  mixed := by kernel_rfl
  f196 := Tryz.func35.trans (congrArg some (by kernel_rfl))
  f259 := Tryz.func66.trans (congrArg some (by kernel_rfl))
  t0 := Tryz.underlying0
  a0 := Tryz.isAgg0
  z0 := Tryz.sizeOf0
  v0 := Tryz.zeroValue0
  t3 := Tryz.underlying3
  a3 := Tryz.isAgg3
  z3 := Tryz.sizeOf3
  v3 := Tryz.zeroValue3
  t4 := Tryz.underlying4
  a4 := Tryz.isAgg4
  z4 := Tryz.sizeOf4
  v4 := Tryz.zeroValue4
  t5 := Tryz.underlying5
  a5 := Tryz.isAgg5
  z5 := Tryz.sizeOf5
  v5 := Tryz.zeroValue5
  t9 := Tryz.underlying9
  a9 := Tryz.isAgg9
  z9 := Tryz.sizeOf9
  v9 := Tryz.zeroValue9
  t12 := Tryz.underlying12
  a12 := Tryz.isAgg12
  z12 := Tryz.sizeOf12
  v12 := Tryz.zeroValue12
  t46 := Tryz.underlying90
  a46 := Tryz.isAgg90
  z46 := Tryz.sizeOf90
  v46 := Tryz.zeroValue90
  t53 := Tryz.underlying31
  a53 := Tryz.isAgg31
  z53 := Tryz.sizeOf31
  v53 := Tryz.zeroValue31
  t119 := Tryz.underlying86
  a119 := Tryz.isAgg86
  z119 := Tryz.sizeOf86
  t138 := Tryz.underlying88
  a138 := Tryz.isAgg88
  z138 := Tryz.sizeOf88
  v138 := Tryz.zeroValue88
  t139 := Tryz.underlying89
  a139 := Tryz.isAgg89
  z139 := Tryz.sizeOf89
  v139 := Tryz.zeroValue89
  g3 := by kernel_rfl
  g4 := by kernel_rfl }
theorem Env.utf8 {n₀ : Nat} {w : World} (h : Env n₀ w) : Lib.Utf8Tabs 0 1 w := by
  obtain ⟨W, h1, h2, h3⟩ := h
  exact Utf8Tabs_below h2.utf8 (by rw [h1]; exact h3)
theorem valid_any {n₀ : Nat} (s : ByteArray) (w : World) (hs : s.size ≤ 9223372036854775807) (hE : Env n₀ w) :
    Calls Tryz.prog 35 #[.string s] w fun e w' => e = .returned (.bool (validD s.data.toList)) ∧ Below w.heap.size w w' := Any.utf8_ValidString Tryz.valid_lays s w hs hE.utf8

theorem zero_any (l : List UInt8) : decide (indexByte l 0 < (0 : Int)) = !l.contains 0 := by
  induction l with
  | nil => rfl
  | cons c r ih =>
    unfold indexByte
    have hge := indexByte_ge r 0
    by_cases h : c = 0
    · subst h; simp
    · have h1 : (c == 0) = false := by simpa using h
      have h2 : ((0 : UInt8) == c) = false := by simpa using fun e => h e.symm
      rw [h1, List.contains_cons, h2]
      simp only [Bool.false_or]
      rw [← ih]
      by_cases h3 : indexByte r 0 = -1
      · simp [h3]
      · have h4 : (indexByte r 0 == -1) = false := by simpa using h3
        simp [h4]; omega

set_option maxRecDepth 100000 in
set_option maxHeartbeats 2000000 in
theorem name_any {n₀ : Nat} (s : ByteArray) (w : World) (hs : s.size ≤ 9223372036854775807) (hE : Env n₀ w) :
    Calls Tryz.prog 18 #[.string s] w fun e w' => e = .returned (.bool (nameB s.data.toList)) ∧ Below w.heap.size w w' := by
  have hV := valid_any s w hs hE
  have hI : ∀ w, Calls Tryz.prog 36 #[.string s, .int .u8 0] w fun e w' => e = .returned (.int .i64 (indexByte s.data.toList 0)) ∧ w = w' := fun w =>
    (Tryz.strings_IndexByte s 0 w).mono fun e w' h => ⟨h.1, h.2.symm⟩
  have hz := zero_any s.data.toList
  have hn : nameB s.data.toList = (decide (1 ≤ s.size) && decide (s.size ≤ 64) && validD s.data.toList && !s.data.toList.contains 0) := by unfold nameB; rw [sz]
  rw [← hz] at hn
  have HV := Lib.hid hV
  have HI := Lib.hid hI
  have HN := Lib.hid hn
  clear hV hI hz hn
  generalize nameB s.data.toList = ANS at *
  generalize validD s.data.toList = V at *
  generalize indexByte s.data.toList 0 = I at *
  have hl : s.toList = [] ↔ s.size = 0 := by
    rw [ByteArray.toList_eq]
    constructor
    · intro h; rw [← sz, h]; rfl
    · intro h; exact List.eq_nil_of_length_eq_zero (by rw [sz]; exact h)
  by_cases h0 : s.size = 0
  · have e1 : s.toList = [] := hl.2 h0
    have e2 : s.toList.isEmpty = true := by rw [e1]; rfl
    have HA : Hid (ANS = false) := Lib.hid (by have := HN.out; rw [h0] at this; simpa using this)
    clear hl
    go_enter Tryz.func18, Tryz.ntmps18
    go_wp2
    go_ret
    exact ⟨retB HA.out.symm, Below.refl _ _⟩
  · have e1 : ¬ s.toList = [] := fun h => h0 (hl.1 h)
    have e2 : s.toList.isEmpty = false := by cases h : s.toList.isEmpty with
      | false => rfl
      | true => exact absurd (List.isEmpty_iff.1 h) e1
    have hge : 1 ≤ s.size := by omega
    clear hl h0
    by_cases h64 : s.size ≤ 64
    · cases V with
      | false =>
        have HA : Hid (ANS = false) := Lib.hid (by have := HN.out; simpa using this)
        go_enter Tryz.func18, Tryz.ntmps18
        go_wp2_with (go_at_call 35; refine HV.out.mono ?_; rintro e w1 ⟨rfl, hb⟩)
        go_ret
        exact ⟨retB HA.out.symm, hb⟩
      | true =>
        have HA : Hid (ANS = decide (I < 0)) := Lib.hid (by have := HN.out; simpa [hge, h64] using this)
        go_enter Tryz.func18, Tryz.ntmps18
        go_wp2_with (first
          | (go_at_call 35; refine HV.out.mono ?_; rintro e w1 ⟨rfl, hb⟩)
          | (go_at_call 36; refine (HI.out _).mono ?_; rintro e w2 ⟨rfl, rfl⟩))
        go_ret
        exact ⟨retB HA.out.symm, hb⟩
    · have HA : Hid (ANS = false) := Lib.hid (by have := HN.out; simpa [h64] using this)
      go_enter Tryz.func18, Tryz.ntmps18
      go_wp2
      go_ret
      exact ⟨retB HA.out.symm, Below.refl _ _⟩
end Go.Proofs.YtimhhacfjgbomaaGreatDoor
