/-
  THE WALK of the reader's word: a number. (Printed by gen_word.py.)
-/
import Derived.Test.YtimhhacfjgbomaaGreatDoorWordB
import Derived.Laws.Panics
import Derived.Test.YtimhhacfjgbomaaGreatDoorPu
namespace Go.Proofs.YtimhhacfjgbomaaGreatDoor
set_option linter.unusedSimpArgs false
set_option linter.unusedVariables false
open Go.RowKit Go.Shelf

set_option maxRecDepth 100000 in
set_option maxHeartbeats 8000000 in
theorem word_num {n₀ : Nat} (B : Nat) (s : ByteArray) (i : Nat) (w : World) (hi : i < s.size) (hs : s.size ≤ 1048576) (hR : Rd w B s i) (hE : Env n₀ w) (hB : n₀ ≤ B) (hk : cls s[i].toNat = 2) :
    Calls Tryz.prog 97 #[.pointer (some ⟨B, 0, none⟩)] w (WordQ B s i (word1 (s.data.toList.drop i)) w) := by
  have hBl := hR.lt
  obtain ⟨b, hb⟩ : ∃ b, w.heap.size = b := ⟨_, rfl⟩
  have hI := WoI.start hR hb
  have r0 := hR.s
  have r1 := hR.at_
  have hd := drop_at hi
  obtain ⟨ANS, hA⟩ : ∃ A, word1 (s.data.toList.drop i) = A := ⟨_, rfl⟩
  rw [hA]
  have hC := class_any s[i]
  rw [hb] at hBl
  rw [hk] at hC
  obtain ⟨L, hL⟩ : ∃ L, runL (s.data.toList.drop i) = L := ⟨_, rfl⟩
  have hA2 : ANS = if numB L then some (⟨4, [], numV L⟩, L.length) else none := by rw [← hA, hd, w1_num hk, ← hd, hL]
  have hL0 : ∃ r, L = s[i] :: r := by
    rw [← hL, hd]; unfold runL
    rw [List.takeWhile_cons_of_pos (cls_run (.inr hk))]
    exact ⟨_, rfl⟩
  have hLl : L.length ≤ s.size := by
    have h1 := runL_le (s.data.toList.drop i)
    rw [hL, List.length_drop, sz] at h1
    omega
  have HL0 := Lib.hid hL0
  have HLL := Lib.hid hL
  clear hL0
  have HA := Lib.hid hA2
  have HI := Lib.hid hI
  have HE := Lib.hid hE
  have HC := Lib.hid hC
  clear hA hA2 hC hd hI hR hE hk
  go_enter Tryz.func97, Tryz.ntmps97
  go_wp2_with fail
  generalize (w.alloc (.cells #[.int .i64 0, .int .i64 0, .string ⟨#[]⟩, .int .u64 0] 33)).alloc (.cells #[.int .i64 0, .int .i64 i, .string ⟨#[]⟩, .int .u64 0] 33) = V at *
  clear r0 r1
  have r0 := HI.out.rd.s
  have r1 := HI.out.rd.at_
  have HI1 : ∀ n, Hid (WoI B b s i w i 0 ⟨#[]⟩ 0 (V.drewN n)) := fun n => Lib.hid (HI.out.drew n)
  go_quiet ((go_at_call 69; exact Calls.quiet_of_same ((HC.out _).mono fun _ _ h => ⟨h.1, h.2.symm⟩)))
  have HI2 := HI1 nq
  clear HI HI1 r0 r1 HC
  generalize World.drewN V nq = V1 at *
  have hL9 := HLL.out
  obtain ⟨T, hT⟩ : ∃ T : ByteArray, T = ⟨L.toArray⟩ := ⟨_, rfl⟩
  have hTl : T.data.toList = L := by rw [hT]
  have hTs : T.size = L.length := by rw [← sz, hTl]
  have hRun := run_any B s i V1 (by omega) hs HI2.out.rd
  rw [hL9] at hRun
  have HRun : Hid (Calls Tryz.prog 70 #[.pointer (some ⟨B, 0, none⟩)] V1 fun e w' => e = .returned (.string T) ∧ V1.grownBy w' (some B) ∧ Rd w' B s (i + L.length)) := Lib.hid (by rw [hT]; exact hRun)
  have HTs := Lib.hid hTs
  have HTl := Lib.hid hTl
  have hT0 : 0 < T.size := by
    obtain ⟨r, hr⟩ := HL0.out
    rw [hTs, hr]; simp
  clear hL hT hTl hRun hTs hL9
  go_wp2_with fail
  refine HRun.out.mono ?_
  rintro e w1 ⟨rfl, hg1, hrd1⟩
  have HI3 := Lib.hid (HI2.out.call hBl hg1 hrd1)
  clear HRun HI2 hg1 hrd1
  have HPu := Lib.hid (pu_any T (by omega) (by rw [HTs.out]; omega) w1 (HE.out.only HI3.out.only hB))
  go_wp2_with fail
  refine HPu.out.mono ?_
  rintro e w2 ⟨hP, hb2⟩
  rw [HTl.out] at hP
  have HI4 := Lib.hid (HI3.out.next hb2)
  clear HPu HI3 hb2
  obtain ⟨c0, c1, c2, c3⟩ := HI4.out.loc.cells
  obtain ⟨q0, q1, q2, q3⟩ := HI4.out.res.cells
  have f0 := HI4.out.loc.fr 0
  have g0 := HI4.out.res.fr 0
  have f1 := HI4.out.loc.fr 1
  have g1 := HI4.out.res.fr 1
  have f2 := HI4.out.loc.fr 2
  have g2 := HI4.out.res.fr 2
  have f3 := HI4.out.loc.fr 3
  have g3 := HI4.out.res.fr 3
  have HA1 : Hid (ANS = if numB L then some (⟨4, [], numV L⟩, L.length) else none) := HA
  clear HA
  rcases hP with ⟨h1, h2, rfl⟩ | ⟨h1, n, N, rfl⟩
  · have hnb : numB L = ((L == [48] || L.head? != some 48) && decide (numV L ≤ 9223372036854775808)) := by unfold numB; rw [h1, Bool.true_and]
    have HNB := Lib.hid hnb
    clear h1 hnb
    generalize numV L = N at *
    have hin := fun W => is_nil W
    have HI5 := Lib.hid ((HI4.out.set0 hBl 4).set3 hBl N)
    have hTL : T.toList = L := by rw [ByteArray.toList_eq]; exact HTl.out
    by_cases hn : N ≤ 9223372036854775808
    · have hnz : decide ((N : Int) ≤ 9223372036854775808) = true := by simp; omega
      by_cases h0 : L = [48]
      · have HA3 : Hid (ANS = some (⟨4, [], N⟩, L.length)) := Lib.hid (by rw [HA1.out, HNB.out, h0]; simp [hn])
        rw [h0] at hTL
        have e1 : (T.toList == [48]) = true := by rw [hTL]; rfl
        clear HA1 HNB hn h0
        go_wp2_with fail
        obtain ⟨V9, e9, s9, rd9, o9⟩ := HI5.out.done hBl
        rw [e9]
        obtain ⟨d0, d1, d2, d3⟩ := s9.cells
        exact bodyPost_ret (v := .agg #[.int .i64 4, .int .i64 i, .string ⟨#[]⟩, .int .u64 N]) (by simp [results, Tryz.results97, go_sem, d0, d1, d2, d3]) rfl ⟨o9, by rw [HA3.out]; exact ⟨rfl, rd9⟩⟩
      · have e0 : ¬ T.toList = [48] := by rw [hTL]; exact h0
        have e1 : (T.toList == [48]) = false := by simpa using e0
        obtain ⟨r, hr⟩ := HL0.out
        have hx : T[0] = s[i] := by
          have h3 : T.data.toList[0]? = some s[i] := by rw [HTl.out, hr]; rfl
          rw [List.getElem?_eq_getElem (by rw [sz]; exact hT0)] at h3
          exact Option.some.inj h3
        by_cases hz : s[i] = 48
        · have hrn : r ≠ [] := fun e => h0 (by rw [hr, hz, e])
          have HA3 : Hid (ANS = none) := Lib.hid (by rw [HA1.out, HNB.out]; simp [hr, hz, hrn])
          have hxz : T[0] = 48 := hx.trans hz
          clear HA1 HNB hn h0 hr hz hTL hx
          go_wp2_with fail
          exact ⟨rfl, HI5.out.only, by rw [HA3.out]; rfl⟩
        · have HA3 : Hid (ANS = some (⟨4, [], N⟩, L.length)) := Lib.hid (by rw [HA1.out, HNB.out]; simp [hn, hr, hz])
          have hxz : ((T[0].toNat : Int) != 48) = true := by
            rw [hx]
            have h2 : s[i].toNat ≠ 48 := fun h => hz (UInt8.toNat_inj.1 h)
            simp; omega
          clear HA1 HNB hn h0 hr hz hTL hx
          go_wp2_with fail
          obtain ⟨V9, e9, s9, rd9, o9⟩ := HI5.out.done hBl
          rw [e9]
          obtain ⟨d0, d1, d2, d3⟩ := s9.cells
          exact bodyPost_ret (v := .agg #[.int .i64 4, .int .i64 i, .string ⟨#[]⟩, .int .u64 N]) (by simp [results, Tryz.results97, go_sem, d0, d1, d2, d3]) rfl ⟨o9, by rw [HA3.out]; exact ⟨rfl, rd9⟩⟩
    · have HA3 : Hid (ANS = none) := Lib.hid (by rw [HA1.out, HNB.out]; simp [hn])
      have hnz : decide ((N : Int) ≤ 9223372036854775808) = false := by simp; omega
      clear HA1 HNB hn hTL
      go_wp2_with fail
      exact ⟨rfl, HI5.out.only, by rw [HA3.out]; rfl⟩
  · have hnb : numB L = false := by
      unfold numB
      rcases h1 with h1 | h1
      · rw [h1]; rfl
      · rw [show decide (numV L ≤ 9223372036854775808) = false by simp; omega, Bool.and_false]
    have HA3 : Hid (ANS = none) := Lib.hid (by rw [HA1.out, hnb]; rfl)
    have HI5 := Lib.hid ((HI4.out.set0 hBl 4).set3 hBl n)
    have hnn := fun W => not_nil W 162 (.pointer (some ⟨N, 0, none⟩))
    clear HA1 hnb h1
    go_wp2_with fail
    exact ⟨rfl, HI5.out.only, by rw [HA3.out]; rfl⟩
end Go.Proofs.YtimhhacfjgbomaaGreatDoor
