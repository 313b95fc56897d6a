/-
  THE WALKS of the reference's quotients, rests and ranges.
-/
import Derived.Test.YtlokoepljmlcgaaWidi
import Derived.Test.YtlokoepljmlcgaaNumb
import Derived.Test.YtlokoepljmlcgaaRange
namespace Go.Proofs.Ytlokoepljmlcgaa
set_option linter.unusedSimpArgs false
set_option linter.unusedVariables false
open Go.RowKit

theorem rdiv_any (a b : Int) (w : World) (ha : In64 a) :
    Calls Try.prog 27 #[.int .i64 a, .int .i64 b] w fun e w' => e = .returned (.tuple #[.int .i64 (divV a b), .int .i64 (divE a b)]) ∧ Below w.heap.size w w' := by
  by_cases h0 : b = 0
  · subst h0
    go_enter Try.func27, Try.ntmps27
    go_wp2
    go_ret2
    exact ⟨rfl, Below.refl _ _⟩
  · have g0 : (b == 0) = false := by simp [h0]
    by_cases h1 : b = -1
    · subst h1
      go_enter Try.func27, Try.ntmps27
      go_wp2_with (go_at_call 31; go_fit (rneg_any _ _ ha); rintro e w' ⟨rfl, hb⟩)
      go_ret2
      exact ⟨ret2 (by simp [divV, Int.tdiv_neg]) (by simp [divE, Int.tdiv_neg]), hb⟩
    · have g1 : (b == -1) = false := by simp [h1]
      go_enter Try.func27, Try.ntmps27
      go_wp2
      go_ret2
      have hf := fits_iff.2 (tdiv_in ha h1)
      exact ⟨ret2 (by rw [divV, if_neg h0, res_fit hf]; try exact (wrap_fit hf)) (by rw [divE, if_neg h0, err_fit hf]), Below.refl _ _⟩

theorem rmod_any (a b : Int) (w : World) :
    Calls Try.prog 29 #[.int .i64 a, .int .i64 b] w fun e w' => e = .returned (.tuple #[.int .i64 (modV a b), .int .i64 (modE b)]) ∧ Below w.heap.size w w' := by
  by_cases h0 : b = 0
  · subst h0
    go_enter Try.func29, Try.ntmps29
    go_wp2
    go_ret2
    exact ⟨rfl, Below.refl _ _⟩
  · have g0 : (b == 0) = false := by simp [h0]
    by_cases h1 : b = -1
    · subst h1
      go_enter Try.func29, Try.ntmps29
      go_wp2
      go_ret2
      exact ⟨ret2 (by simp [modV]) rfl, Below.refl _ _⟩
    · have g1 : (b == -1) = false := by simp [h1]
      go_enter Try.func29, Try.ntmps29
      go_wp2
      go_ret2
      exact ⟨ret2 (by rw [modV, if_neg h0]) (by rw [modE, if_neg h0]), Below.refl _ _⟩

set_option maxHeartbeats 2000000 in
theorem rrange_any (a z step : Int) (w : World) (ha : In64 a) (hs : In64 step) :
    Calls Try.prog 14 #[.int .i64 a, .int .i64 z, .int .i64 step] w (RetRow 2 .i64 (rangeL a z step) (rangeE a z step) w) := by
  obtain ⟨i0, hi, hz0, hz1, hz2⟩ := info_parts Try.info2
  by_cases h0 : step = 0
  · subst h0
    go_enter Try.func14, Try.ntmps14
    go_wp2
    go_ret2
    exact ⟨_, rfl, World.ownsRow_nil _ _ _ _, Below.refl _ _⟩
  · have g0 : (step == 0) = false := by simp [h0]
    have H0 := Lib.hid h0; clear h0
    have HA := Lib.hid ha; have HS := Lib.hid hs; clear ha hs
    go_enter Try.func14, Try.ntmps14
    go_wp2
    go_loopg [8, 9] 65537 (fun gk v i wr => ∃ (acc : List Int) (n : Int), gk = 65537 - acc.length ∧ acc.length ≤ 65536 ∧ wr.ownsRow w.heap.size 2 1 v acc.length (acc.map (Value.int .i64)) ∧ Below w.heap.size w wr ∧
        i = .int .i64 n ∧ In64 n ∧ Gone a z step acc n)
    case atStart => exact ⟨[], a, rfl, by simp, World.ownsRow_nil _ _ _ _, Below.refl _ _, rfl, HA.out, gone_start _ _ _⟩
    case round =>
      obtain ⟨acc, n, hgk, hlen, hown, hb, rfl, hn, hg⟩ := hrel
      have HN := Lib.hid hn; have HG := Lib.hid hg; have HK := Lib.hid hgk; clear hn hg hgk
      obtain ⟨av, cv, rfl⟩ := owns_form hown
      have HO := Lib.hid hown; clear hown
      by_cases hp : past z step n = true
      · have HF := Lib.hid (range_of (gone_past HG.out hp) H0.out)
        rcases (past_iff _ _ _).1 hp with ⟨p1, p2⟩ | ⟨p1, p2⟩ <;>
        · clear hp
          go_wp2
          go_ret2
          rw [HF.out.1, HF.out.2]
          exact ⟨_, rfl, HO.out, hb⟩
      · have hp' : past z step n = false := by simpa using hp
        have HP := Lib.hid hp'; clear hp'
        have hpp : (0 < step ∧ ¬ z < n) ∨ (step < 0 ∧ ¬ n < z) := by have := H0.out; have := mt (past_iff z step n).2 hp; omega
        clear hp
        have c3 : acc.length + 1 ≤ maxLen := by unfold maxLen; omega
        have c4 : (acc.length + 1) * 8 ≤ 140737488355328 := by omega
        have C3 := Lib.hid c3; have C4 := Lib.hid c4; clear c3 c4
        by_cases hfull : acc.length = 65536
        · have HF := Lib.hid (range_full (gone_full HG.out HP.out hfull) H0.out)
          have e1 : (65536 : Int) < (acc.length : Int) + 1 := by omega
          have HL := Lib.hid hfull; clear hfull
          rcases hpp with ⟨p1, p2⟩ | ⟨p1, p2⟩ <;>
          · go_wp2_with ((at_builtin; refine wpList_append_own _ rfl _ _ 22 rfl w.heap.size 2 i0 (.int .i64 0) 1 8 Try.underlying22 hi hz0 hz1 hz2 rfl (by decide) _ _ _ rfl (HO.out.alloc _) ⟨wr.heap.size, 0, none⟩ 1 1 [.int .i64 n] rfl rfl (one_new _ _ _) one_int C3.out C4.out (bsz hb _) ?_; intro v' w1 hown' hgrow _; obtain ⟨av', cv', rfl⟩ := owns_form hown'; have hb' : Below w.heap.size w w1 := below_append (v := .slice av acc.length cv) hb hb.size HO.out hgrow))
            go_ret2
            rw [HF.out.1, HF.out.2]
            exact ⟨_, rfl, World.ownsRow_nil _ _ _ _, hb'⟩
        · have e1 : ¬ (65536 : Int) < (acc.length : Int) + 1 := by omega
          have hl : acc.length < 65536 := by omega
          clear hfull
          by_cases hfit : fits (n + step) = true
          · have k1 := res_fit hfit; have k2 := err_fit hfit
            have HI := Lib.hid (fits_iff.1 hfit)
            have HNX := Lib.hid (gone_next HG.out HP.out hfit hl)
            clear hfit
            rcases hpp with ⟨p1, p2⟩ | ⟨p1, p2⟩ <;>
            · go_wp2_with (first | (at_builtin; refine wpList_append_own _ rfl _ _ 22 rfl w.heap.size 2 i0 (.int .i64 0) 1 8 Try.underlying22 hi hz0 hz1 hz2 rfl (by decide) _ _ _ rfl (HO.out.alloc _) ⟨wr.heap.size, 0, none⟩ 1 1 [.int .i64 n] rfl rfl (one_new _ _ _) one_int C3.out C4.out (bsz hb _) ?_; intro v' w1 hown' hgrow _; obtain ⟨av', cv', rfl⟩ := owns_form hown'; have hb' : Below w.heap.size w w1 := below_append (v := .slice av acc.length cv) hb hb.size HO.out hgrow) | (go_at_call 21; go_fit (radd_any _ _ _ HN.out HS.out); rintro e w' ⟨rfl, hb2⟩))
              have HO' : Hid (w1.ownsRow w.heap.size 2 1 (.slice av' (acc.length + 1) cv') (acc ++ [n]).length ((acc ++ [n]).map (Value.int .i64))) := by simpa [Hid] using hown'
              go_roundg (gk - 1)
              case measure => have := HK.out; omega
              case rel =>
                have hk := HK.out
                refine ⟨acc ++ [n], n + step, by simp; omega, by simp; omega, owns_below HO'.out hb2, hb'.trans (hb2.mono hb'.size), rfl, HI.out, HNX.out⟩
          · have hfit' : fits (n + step) = false := by simpa using hfit
            have k1 := res_no hfit'; have k2 := err_no hfit'
            have HF := Lib.hid (range_of (gone_last HG.out HP.out hfit' hl) H0.out)
            clear hfit hfit'
            rcases hpp with ⟨p1, p2⟩ | ⟨p1, p2⟩ <;>
            · go_wp2_with (first | (at_builtin; refine wpList_append_own _ rfl _ _ 22 rfl w.heap.size 2 i0 (.int .i64 0) 1 8 Try.underlying22 hi hz0 hz1 hz2 rfl (by decide) _ _ _ rfl (HO.out.alloc _) ⟨wr.heap.size, 0, none⟩ 1 1 [.int .i64 n] rfl rfl (one_new _ _ _) one_int C3.out C4.out (bsz hb _) ?_; intro v' w1 hown' hgrow _; obtain ⟨av', cv', rfl⟩ := owns_form hown'; have hb' : Below w.heap.size w w1 := below_append (v := .slice av acc.length cv) hb hb.size HO.out hgrow) | (go_at_call 21; go_fit (radd_any _ _ _ HN.out HS.out); rintro e w' ⟨rfl, hb2⟩))
              have HO' : Hid (w1.ownsRow w.heap.size 2 1 (.slice av' (acc.length + 1) cv') (acc ++ [n]).length ((acc ++ [n]).map (Value.int .i64))) := by simpa [Hid] using hown'
              go_ret2
              rw [HF.out.1, HF.out.2]
              exact ⟨_, by simp, owns_below HO'.out hb2, hb'.trans (hb2.mono hb'.size)⟩
end Go.Proofs.Ytlokoepljmlcgaa
