/-
  THE WALK of the reader's word: nothing begins so. (Printed by gen_word.py.)
  THE WALK of the reader's word: a name. (Printed by gen_word.py.)
  THE WALK of the reader's word: a text. (Printed by gen_word.py.)
  THE WALK of the reader's word: a quoted name. (Printed by gen_word.py.)
-/
import Derived.Test.YtimhhacfjgbomaaGreatDoorWordB
import Derived.Laws.Panics
namespace Go.Proofs.YtimhhacfjgbomaaGreatDoor
set_option linter.unusedSimpArgs false
set_option linter.unusedVariables false
open Go.RowKit Go.Shelf

set_option maxRecDepth 100000 in
set_option maxHeartbeats 8000000 in
theorem word_other {n₀ : Nat} (B : Nat) (s : ByteArray) (i : Nat) (w : World) (hi : i < s.size) (hs : s.size ≤ 1048576) (hR : Rd w B s i) (hE : Env n₀ w) (hB : n₀ ≤ B) (hk : cls s[i].toNat = 0) :
    Calls Tryz.prog 97 #[.pointer (some ⟨B, 0, none⟩)] w (WordQ B s i (word1 (s.data.toList.drop i)) w) := by
  have hBl := hR.lt
  obtain ⟨b, hb⟩ : ∃ b, w.heap.size = b := ⟨_, rfl⟩
  have hI := WoI.start hR hb
  have r0 := hR.s
  have r1 := hR.at_
  have hd := drop_at hi
  obtain ⟨ANS, hA⟩ : ∃ A, word1 (s.data.toList.drop i) = A := ⟨_, rfl⟩
  rw [hA]
  have hC := class_any s[i]
  rw [hb] at hBl
  rw [hk] at hC
  have hA2 : ANS = none := by rw [← hA, hd]; exact w1_none hk
  have HA := Lib.hid hA2
  have HI := Lib.hid hI
  have HE := Lib.hid hE
  have HC := Lib.hid hC
  clear hA hA2 hC hd hI hR hE hk
  go_enter Tryz.func97, Tryz.ntmps97
  go_wp2_with fail
  generalize (w.alloc (.cells #[.int .i64 0, .int .i64 0, .string ⟨#[]⟩, .int .u64 0] 33)).alloc (.cells #[.int .i64 0, .int .i64 i, .string ⟨#[]⟩, .int .u64 0] 33) = V at *
  clear r0 r1
  have r0 := HI.out.rd.s
  have r1 := HI.out.rd.at_
  have HI1 : ∀ n, Hid (WoI B b s i w i 0 ⟨#[]⟩ 0 (V.drewN n)) := fun n => Lib.hid (HI.out.drew n)
  go_quiet ((go_at_call 69; exact Calls.quiet_of_same ((HC.out _).mono fun _ _ h => ⟨h.1, h.2.symm⟩)))
  have HI2 := HI1 nq
  clear HI HI1 r0 r1 HC
  generalize World.drewN V nq = V1 at *
  have c1 := HI2.out.loc.cells.2.1
  go_wp2_with fail
  exact ⟨rfl, HI2.out.only, by rw [HA.out]; rfl⟩
end Go.Proofs.YtimhhacfjgbomaaGreatDoor
namespace Go.Proofs.YtimhhacfjgbomaaGreatDoor
set_option linter.unusedSimpArgs false
set_option linter.unusedVariables false
open Go.RowKit Go.Shelf

set_option maxRecDepth 100000 in
set_option maxHeartbeats 8000000 in
theorem word_name {n₀ : Nat} (B : Nat) (s : ByteArray) (i : Nat) (w : World) (hi : i < s.size) (hs : s.size ≤ 1048576) (hR : Rd w B s i) (hE : Env n₀ w) (hB : n₀ ≤ B) (hk : cls s[i].toNat = 1) :
    Calls Tryz.prog 97 #[.pointer (some ⟨B, 0, none⟩)] w (WordQ B s i (word1 (s.data.toList.drop i)) w) := by
  have hBl := hR.lt
  obtain ⟨b, hb⟩ : ∃ b, w.heap.size = b := ⟨_, rfl⟩
  have hI := WoI.start hR hb
  have r0 := hR.s
  have r1 := hR.at_
  have hd := drop_at hi
  obtain ⟨ANS, hA⟩ : ∃ A, word1 (s.data.toList.drop i) = A := ⟨_, rfl⟩
  rw [hA]
  have hC := class_any s[i]
  rw [hb] at hBl
  rw [hk] at hC
  have hA2 : ANS = if (runL (s.data.toList.drop i)).length ≤ 64 then some (⟨1, runL (s.data.toList.drop i), 0⟩, (runL (s.data.toList.drop i)).length) else none := by
    rw [← hA, hd]; exact w1_name hk
  have HA := Lib.hid hA2
  have HI := Lib.hid hI
  have HE := Lib.hid hE
  have HC := Lib.hid hC
  clear hA hA2 hC hd hI hR hE hk
  go_enter Tryz.func97, Tryz.ntmps97
  go_wp2_with fail
  generalize (w.alloc (.cells #[.int .i64 0, .int .i64 0, .string ⟨#[]⟩, .int .u64 0] 33)).alloc (.cells #[.int .i64 0, .int .i64 i, .string ⟨#[]⟩, .int .u64 0] 33) = V at *
  clear r0 r1
  have r0 := HI.out.rd.s
  have r1 := HI.out.rd.at_
  have HI1 : ∀ n, Hid (WoI B b s i w i 0 ⟨#[]⟩ 0 (V.drewN n)) := fun n => Lib.hid (HI.out.drew n)
  go_quiet ((go_at_call 69; exact Calls.quiet_of_same ((HC.out _).mono fun _ _ h => ⟨h.1, h.2.symm⟩)))
  have HI2 := HI1 nq
  clear HI HI1 r0 r1 HC
  generalize World.drewN V nq = V1 at *
  obtain ⟨T, hT⟩ : ∃ T : ByteArray, T = ⟨(runL (s.data.toList.drop i)).toArray⟩ := ⟨_, rfl⟩
  have hTs : T.size = (runL (s.data.toList.drop i)).length := by rw [hT, ← sz]
  have hRun := run_any B s i V1 (by omega) hs HI2.out.rd
  have HRun : Hid (Calls Tryz.prog 70 #[.pointer (some ⟨B, 0, none⟩)] V1 fun e w' => e = .returned (.string T) ∧ V1.grownBy w' (some B) ∧ Rd w' B s (i + (runL (s.data.toList.drop i)).length)) := Lib.hid (by rw [hT]; exact hRun)
  have HT := Lib.hid hT
  have HTs := Lib.hid hTs
  clear hT hRun hTs
  go_wp2_with fail
  refine HRun.out.mono ?_
  rintro e w1 ⟨rfl, hg1, hrd1⟩
  have HI3 := Lib.hid (HI2.out.call hBl hg1 hrd1)
  clear HRun HI2 hg1 hrd1
  obtain ⟨c0, c1, c2, c3⟩ := HI3.out.loc.cells
  obtain ⟨q0, q1, q2, q3⟩ := HI3.out.res.cells
  have f0 := HI3.out.loc.fr 0
  have g0 := HI3.out.res.fr 0
  have f1 := HI3.out.loc.fr 1
  have g1 := HI3.out.res.fr 1
  have f2 := HI3.out.loc.fr 2
  have g2 := HI3.out.res.fr 2
  have f3 := HI3.out.loc.fr 3
  have g3 := HI3.out.res.fr 3
  have HI4 := Lib.hid ((HI3.out.set0 hBl 1).set2 hBl T)
  by_cases h64 : T.size ≤ 64
  · have hA3 : ANS = some (⟨1, runL (s.data.toList.drop i), 0⟩, (runL (s.data.toList.drop i)).length) := by rw [HA.out, if_pos (by rw [← HTs.out]; exact h64)]
    have HA3 := Lib.hid hA3
    have h64z : decide ((T.size : Int) ≤ 64) = true := by simp; omega
    clear hA3 HA h64
    go_wp2_with fail
    obtain ⟨V9, e9, s9, rd9, o9⟩ := HI4.out.done hBl
    rw [e9]
    obtain ⟨d0, d1, d2, d3⟩ := s9.cells
    exact bodyPost_ret (v := .agg #[.int .i64 1, .int .i64 i, .string T, .int .u64 0]) (by simp [results, Tryz.results97, go_sem, d0, d1, d2, d3]) rfl ⟨o9, by rw [HA3.out]; exact ⟨by rw [HT.out]; rfl, rd9⟩⟩
  · have hA3 : ANS = none := by rw [HA.out, if_neg (by rw [← HTs.out]; exact h64)]
    have HA3 := Lib.hid hA3
    have h64z : decide ((T.size : Int) ≤ 64) = false := by simp; omega
    clear hA3 HA h64
    go_wp2_with fail
    exact ⟨rfl, HI4.out.only, by rw [HA3.out]; rfl⟩
end Go.Proofs.YtimhhacfjgbomaaGreatDoor
namespace Go.Proofs.YtimhhacfjgbomaaGreatDoor
set_option linter.unusedSimpArgs false
set_option linter.unusedVariables false
open Go.RowKit Go.Shelf

set_option maxRecDepth 100000 in
set_option maxHeartbeats 8000000 in
theorem word_text {n₀ : Nat} (B : Nat) (s : ByteArray) (i : Nat) (w : World) (hi : i < s.size) (hs : s.size ≤ 1048576) (hR : Rd w B s i) (hE : Env n₀ w) (hB : n₀ ≤ B) (hk : cls s[i].toNat = 3) :
    Calls Tryz.prog 97 #[.pointer (some ⟨B, 0, none⟩)] w (WordQ B s i (word1 (s.data.toList.drop i)) w) := by
  have hBl := hR.lt
  obtain ⟨b, hb⟩ : ∃ b, w.heap.size = b := ⟨_, rfl⟩
  have hI := WoI.start hR hb
  have r0 := hR.s
  have r1 := hR.at_
  have hd := drop_at hi
  obtain ⟨ANS, hA⟩ : ∃ A, word1 (s.data.toList.drop i) = A := ⟨_, rfl⟩
  rw [hA]
  have hC := class_any s[i]
  rw [hb] at hBl
  rw [hk] at hC
  have hq92 : s[i] ≠ 92 := fun e => by rw [e] at hk; exact absurd hk (by decide)
  obtain ⟨TX, hTX⟩ : ∃ o, textL s[i] (s.data.toList.drop (i + 1)) = o := ⟨_, rfl⟩
  have hA2 : ANS = mkW 3 Lib.validD TX := by
    rw [← hA, hd, ← hTX]; exact w1_text hk
  have HTX := Lib.hid hTX
  clear hTX
  have HA := Lib.hid hA2
  have HI := Lib.hid hI
  have HE := Lib.hid hE
  have HC := Lib.hid hC
  clear hA hA2 hC hd hI hR hE hk
  go_enter Tryz.func97, Tryz.ntmps97
  go_wp2_with fail
  generalize (w.alloc (.cells #[.int .i64 0, .int .i64 0, .string ⟨#[]⟩, .int .u64 0] 33)).alloc (.cells #[.int .i64 0, .int .i64 i, .string ⟨#[]⟩, .int .u64 0] 33) = V at *
  clear r0 r1
  have r0 := HI.out.rd.s
  have r1 := HI.out.rd.at_
  have HI1 : ∀ n, Hid (WoI B b s i w i 0 ⟨#[]⟩ 0 (V.drewN n)) := fun n => Lib.hid (HI.out.drew n)
  go_quiet ((go_at_call 69; exact Calls.quiet_of_same ((HC.out _).mono fun _ _ h => ⟨h.1, h.2.symm⟩)))
  have HI2 := HI1 nq
  clear HI HI1 r0 r1 HC
  generalize World.drewN V nq = V1 at *
  have HI3 := Lib.hid (HI2.out.set0 hBl 3)
  have hTx := text_any B s i _ hi hq92 hs HI3.out.rd (HE.out.only HI3.out.only hB) hB
  rw [HTX.out] at hTx
  have HTx := Lib.hid hTx
  clear hTx
  have f0 := HI2.out.loc.fr 0
  have c0 := HI2.out.loc.cells.1
  go_wp2_with fail
  refine HTx.out.mono ?_
  clear f0 c0
  rintro e w1 ⟨hg1, hT⟩
  cases TX with
  | none =>
    obtain rfl : e = .returned (.tuple #[.string ⟨#[]⟩, .bool false]) := hT
    have HL := Lib.hid (HI3.out.lost hBl hg1)
    have hA3 : ANS = none := HA.out
    have HA3 := Lib.hid hA3
    clear hA3 HA hg1 HTx HTX
    obtain ⟨c0, c1, c2, c3⟩ := HL.out.loc.cells
    have f2 := HL.out.loc.fr 2
    have HL2 := Lib.hid (HL.out.set2 ⟨#[]⟩)
    go_wp2_with fail
    exact ⟨rfl, HL2.out.only, by rw [HA3.out]; rfl⟩
  | some p =>
    obtain ⟨t, n⟩ := p
    obtain ⟨rfl, hrd1⟩ := hT
    have HI4 := Lib.hid (HI3.out.call hBl hg1 hrd1)
    have HT : Hid (ANS = if Lib.validD t then some (⟨3, t, 0⟩, n + 1) else none) := Lib.hid HA.out
    clear hg1 hrd1 HTx HTX HA HI3 HI2
    obtain ⟨T, hT⟩ : ∃ T : ByteArray, T = ⟨t.toArray⟩ := ⟨_, rfl⟩
    simp only
    rw [← hT]
    have HTT := Lib.hid hT
    clear hT
    obtain ⟨c0, c1, c2, c3⟩ := HI4.out.loc.cells
    obtain ⟨q0, q1, q2, q3⟩ := HI4.out.res.cells
    have f0 := HI4.out.loc.fr 0
    have g0 := HI4.out.res.fr 0
    have f1 := HI4.out.loc.fr 1
    have g1 := HI4.out.res.fr 1
    have f2 := HI4.out.loc.fr 2
    have g2 := HI4.out.res.fr 2
    have f3 := HI4.out.loc.fr 3
    have g3 := HI4.out.res.fr 3
    have HI5 := Lib.hid (HI4.out.set2 hBl T)
    generalize Lib.validD t = v at *
    cases v with
    | true =>
      have HA3 : Hid (ANS = some (⟨3, t, 0⟩, n + 1)) := Lib.hid HT.out
      go_wp2_with fail
      obtain ⟨V9, e9, s9, rd9, o9⟩ := HI5.out.done hBl
      rw [e9]
      obtain ⟨d0, d1, d2, d3⟩ := s9.cells
      exact bodyPost_ret (v := .agg #[.int .i64 3, .int .i64 i, .string T, .int .u64 0]) (by simp [results, Tryz.results97, go_sem, d0, d1, d2, d3]) rfl ⟨o9, by rw [HA3.out]; exact ⟨by rw [HTT.out]; rfl, by have h := rd9; rw [show i + 1 + n = i + (n + 1) by omega] at h; exact h⟩⟩
    | false =>
      have HA3 : Hid (ANS = none) := Lib.hid HT.out
      go_wp2_with fail
      exact ⟨rfl, HI5.out.only, by rw [HA3.out]; rfl⟩
end Go.Proofs.YtimhhacfjgbomaaGreatDoor
namespace Go.Proofs.YtimhhacfjgbomaaGreatDoor
set_option linter.unusedSimpArgs false
set_option linter.unusedVariables false
open Go.RowKit Go.Shelf

set_option maxRecDepth 100000 in
set_option maxHeartbeats 8000000 in
theorem word_quot {n₀ : Nat} (B : Nat) (s : ByteArray) (i : Nat) (w : World) (hi : i < s.size) (hs : s.size ≤ 1048576) (hR : Rd w B s i) (hE : Env n₀ w) (hB : n₀ ≤ B) (hk : cls s[i].toNat = 4) :
    Calls Tryz.prog 97 #[.pointer (some ⟨B, 0, none⟩)] w (WordQ B s i (word1 (s.data.toList.drop i)) w) := by
  have hBl := hR.lt
  obtain ⟨b, hb⟩ : ∃ b, w.heap.size = b := ⟨_, rfl⟩
  have hI := WoI.start hR hb
  have r0 := hR.s
  have r1 := hR.at_
  have hd := drop_at hi
  obtain ⟨ANS, hA⟩ : ∃ A, word1 (s.data.toList.drop i) = A := ⟨_, rfl⟩
  rw [hA]
  have hC := class_any s[i]
  rw [hb] at hBl
  rw [hk] at hC
  obtain ⟨TX, hTX⟩ : ∃ o, quotL (s.data.toList.drop (i + 1)) = o := ⟨_, rfl⟩
  have hA2 : ANS = mkW 2 nameB TX := by
    rw [← hA, hd, ← hTX]; exact w1_quot hk
  have HTX := Lib.hid hTX
  clear hTX
  have HA := Lib.hid hA2
  have HI := Lib.hid hI
  have HE := Lib.hid hE
  have HC := Lib.hid hC
  clear hA hA2 hC hd hI hR hE hk
  go_enter Tryz.func97, Tryz.ntmps97
  go_wp2_with fail
  generalize (w.alloc (.cells #[.int .i64 0, .int .i64 0, .string ⟨#[]⟩, .int .u64 0] 33)).alloc (.cells #[.int .i64 0, .int .i64 i, .string ⟨#[]⟩, .int .u64 0] 33) = V at *
  clear r0 r1
  have r0 := HI.out.rd.s
  have r1 := HI.out.rd.at_
  have HI1 : ∀ n, Hid (WoI B b s i w i 0 ⟨#[]⟩ 0 (V.drewN n)) := fun n => Lib.hid (HI.out.drew n)
  go_quiet ((go_at_call 69; exact Calls.quiet_of_same ((HC.out _).mono fun _ _ h => ⟨h.1, h.2.symm⟩)))
  have HI2 := HI1 nq
  clear HI HI1 r0 r1 HC
  generalize World.drewN V nq = V1 at *
  have HI3 := Lib.hid (HI2.out.set0 hBl 2)
  have hTx := quoted_any B s i _ hi hs HI3.out.rd (HE.out.only HI3.out.only hB) hB
  rw [HTX.out] at hTx
  have HTx := Lib.hid hTx
  clear hTx
  have f0 := HI2.out.loc.fr 0
  have c0 := HI2.out.loc.cells.1
  go_wp2_with fail
  refine HTx.out.mono ?_
  clear f0 c0
  rintro e w1 ⟨hg1, hT⟩
  cases TX with
  | none =>
    obtain rfl : e = .returned (.tuple #[.string ⟨#[]⟩, .bool false]) := hT
    have HL := Lib.hid (HI3.out.lost hBl hg1)
    have hA3 : ANS = none := HA.out
    have HA3 := Lib.hid hA3
    clear hA3 HA hg1 HTx HTX
    obtain ⟨c0, c1, c2, c3⟩ := HL.out.loc.cells
    have f2 := HL.out.loc.fr 2
    have HL2 := Lib.hid (HL.out.set2 ⟨#[]⟩)
    go_wp2_with fail
    exact ⟨rfl, HL2.out.only, by rw [HA3.out]; rfl⟩
  | some p =>
    obtain ⟨t, n⟩ := p
    obtain ⟨rfl, hrd1⟩ := hT
    have HI4 := Lib.hid (HI3.out.call hBl hg1 hrd1)
    have HT : Hid (ANS = if nameB t then some (⟨2, t, 0⟩, n + 1) else none) := Lib.hid HA.out
    clear hg1 hrd1 HTx HTX HA HI3 HI2
    obtain ⟨T, hT⟩ : ∃ T : ByteArray, T = ⟨t.toArray⟩ := ⟨_, rfl⟩
    simp only
    rw [← hT]
    have HTT := Lib.hid hT
    clear hT
    obtain ⟨c0, c1, c2, c3⟩ := HI4.out.loc.cells
    obtain ⟨q0, q1, q2, q3⟩ := HI4.out.res.cells
    have f0 := HI4.out.loc.fr 0
    have g0 := HI4.out.res.fr 0
    have f1 := HI4.out.loc.fr 1
    have g1 := HI4.out.res.fr 1
    have f2 := HI4.out.loc.fr 2
    have g2 := HI4.out.res.fr 2
    have f3 := HI4.out.loc.fr 3
    have g3 := HI4.out.res.fr 3
    have HI5 := Lib.hid (HI4.out.set2 hBl T)
    generalize nameB t = v at *
    cases v with
    | true =>
      have HA3 : Hid (ANS = some (⟨2, t, 0⟩, n + 1)) := Lib.hid HT.out
      go_wp2_with fail
      obtain ⟨V9, e9, s9, rd9, o9⟩ := HI5.out.done hBl
      rw [e9]
      obtain ⟨d0, d1, d2, d3⟩ := s9.cells
      exact bodyPost_ret (v := .agg #[.int .i64 2, .int .i64 i, .string T, .int .u64 0]) (by simp [results, Tryz.results97, go_sem, d0, d1, d2, d3]) rfl ⟨o9, by rw [HA3.out]; exact ⟨by rw [HTT.out]; rfl, by have h := rd9; rw [show i + 1 + n = i + (n + 1) by omega] at h; exact h⟩⟩
    | false =>
      have HA3 : Hid (ANS = none) := Lib.hid HT.out
      go_wp2_with fail
      exact ⟨rfl, HI5.out.only, by rw [HA3.out]; rfl⟩
end Go.Proofs.YtimhhacfjgbomaaGreatDoor
