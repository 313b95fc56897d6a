/-
  THE WALKS of the reference's wide numbers: the sum of two of unlike signs.
-/
import Derived.Test.YtlokoepljmlcgaaWidg
namespace Go.Proofs.Ytlokoepljmlcgaa
set_option linter.unusedSimpArgs false
set_option linter.unusedVariables false
open Go.RowKit

theorem cmp_cases (a b : List Int) : (cmpV a b = -1 ∧ val a < val b) ∨ (0 ≤ cmpV a b ∧ val b ≤ val a) := by
  unfold cmpV; split
  · exact .inl ⟨rfl, by assumption⟩
  · split <;> exact .inr ⟨by decide, by omega⟩

set_option maxRecDepth 100000 in
set_option maxHeartbeats 4000000 in
theorem wideAdd_diff (na nb : Bool) (a : Option Addr) (n cap : Nat) (ds : List Int) (a' : Option Addr) (m cap' : Nat) (es : List Int) (w : World) (hab : Hid (nb = !na)) (hn : Hid (n = ds.length)) (hm : Hid (m = es.length)) (hr : RowAt w a .i64 ds) (hr' : RowAt w a' .i64 es) (hD : Dig ds) (hE : Dig es)
    (hl : n ≤ 1000000) (hl' : m ≤ 1000000) (hne : (na == nb) = false) :
    Calls Try.prog 37 #[.agg #[.bool na, .slice a n cap], .agg #[.bool nb, .slice a' m cap']] w (RetWide (fun ng os => sgv ng os = sgv na ds + sgv nb es ∧ os.length = max n m + 1) w) := by
  obtain ⟨i0, hi, hz0, hz1, hz2⟩ := info_parts Try.info3
  have HR := Lib.hid hr; have HR' := Lib.hid hr'; have HD := Lib.hid hD; have HE := Lib.hid hE
  clear hr hr' hD hE
  obtain ⟨x, hx⟩ : ∃ x, x = max n m := ⟨_, rfl⟩
  rw [← hx]
  have hxl : x ≤ 1000000 := by omega
  have HX := Lib.hid hx; clear hx
  have HSZ : Hid (∀ w', Below w.heap.size w w' → Calls Try.prog 46 #[.slice a n cap, .slice a' m cap'] w' fun e w'' => e = .returned (.int .i64 (cmpV ds es)) ∧ w' = w'') := fun w' hb => rsize_any a a' n cap m cap' ds es w' hn hm (HR.out.below hb) (HR'.out.below hb) HD.out HE.out hl hl'
  have hmx : (m = x ∧ n < m) ∨ (n = x ∧ ¬ n < m) := by have := HX.out; omega
  have hcc := cmp_cases ds es
  generalize cmpV ds es = cc at *
  rcases hcc with ⟨rfl, hvv⟩ | ⟨hcc, hvv⟩
  · have HV := Lib.hid hvv; clear hvv
    rcases hmx with ⟨rfl, hnm⟩ | ⟨rfl, hnm⟩
    all_goals
      go_enter Try.func37, Try.ntmps37
      go_wp2_with (go_at_call 46; go_fit (HSZ.out _ (Summing.start w 55 3 na (.slice a n cap) nb (.slice a' m cap') na).below); rintro e w' ⟨rfl, rfl⟩)
      go_loopg [7, 10] (max n m + 1) (fun gk c i wr => ∃ (k : Nat) (cv : Int) (os : List Int) (ov : Value), gk = max n m + 1 - k ∧ k ≤ max n m + 1 ∧ i = .int .i64 k ∧ c = .int .i64 cv ∧ SubAt es ds os k cv ∧ Summing w wr 55 3 nb (.slice a' m cap') na (.slice a n cap) nb ov k os)
      case atStart => exact ⟨0, 0, [], .slice none 0 0, rfl, by omega, rfl, rfl, subAt_zero _ _, Summing.start _ _ _ _ _ _ _ _⟩
      case round =>
        obtain ⟨k, cv, os, ov, hgk, hk, rfl, rfl, hA, hS⟩ := hrel
        have HK := Lib.hid hgk; have HA := Lib.hid hA; have HS := Lib.hid hS
        clear hgk hA hS
        obtain ⟨av, cap0, rfl⟩ := owns_form HS.out.own
        by_cases hlt : k < max n m + 1
        · have hRr := HR'.out.below HS.out.below
          have hRr' := HR.out.below HS.out.below
          have HN := Lib.hid (subAt_succ HA.out HE.out HD.out)
          have hdg : ∀ w', RowAt w' a' .i64 es → Calls Try.prog 45 #[.slice a' m cap', .int .i64 k] w' fun e w'' => e = .returned (.int .i64 (es.getD k 0)) ∧ w'' = w' := fun w' h => digit_q a' m cap' k es w' hm h
          have hdg' : ∀ w', RowAt w' a .i64 ds → Calls Try.prog 45 #[.slice a n cap, .int .i64 k] w' fun e w'' => e = .returned (.int .i64 (ds.getD k 0)) ∧ w'' = w' := fun w' h => digit_q a n cap k ds w' hn h
          obtain ⟨d0, d1⟩ := HE.out.getD k
          obtain ⟨e0, e1⟩ := HD.out.getD k
          have hc := HA.out.2.2
          obtain ⟨q0, q1, _⟩ := hc
          generalize es.getD k 0 = x at *
          generalize ds.getD k 0 = y at *
          have hw1 : IntKind.i64.wrap (x - y) = x - y := IntWalk.i64_in _ (by omega)
          have hw2 : IntKind.i64.wrap (x - y + 65536) = x - y + 65536 := IntWalk.i64_in _ (by omega)
          have hw3 : IntKind.i64.wrap (x - y + 65536 - cv) = x - y + 65536 - cv := IntWalk.i64_in _ (by omega)
          have hs0 : 0 ≤ x - y + 65536 - cv := by omega
          have hDG := Lib.hid hdg; have hDG' := Lib.hid hdg'; clear hdg hdg'
          have HRr := Lib.hid hRr; have HRr' := Lib.hid hRr'; clear hRr hRr'
          have b1 := HS.out.A.c1; have b2 := HS.out.B.c1
          go_wp2_with fail
          go_quiet ((first | (go_at_call_of 45 (Value.slice a' m cap'); exact Calls.quiet_of_same (hDG.out _ HRr.out)) | (go_at_call_of 45 (Value.slice a n cap); exact Calls.quiet_of_same (hDG'.out _ HRr'.out))))
          have HSn := Lib.hid (HS.out.drewN nq)
          obtain ⟨wq, hwq⟩ : ∃ wq, wq = wr.drewN nq := ⟨_, rfl⟩
          rw [← hwq] at HSn ⊢
          clear hwq HS b1 b2
          have o1 := HSn.out.O.c1
          have c3 : k + 1 ≤ maxLen := by unfold maxLen; omega
          have c4 : (k + 1) * 8 ≤ 140737488355328 := by omega
          have HB2 : Hid (w.heap.size + 4 ≤ (wq.alloc (.cells #[.int .i64 ((x - y + 65536 - cv) % 65536)] 3)).heap.size) := by have := HSn.out.size; show _ ≤ _; simp; omega
          have C3 := Lib.hid c3; have C4 := Lib.hid c4; clear c3 c4
          go_wp2_with ((at_builtin; refine wpList_append_own _ rfl _ _ 53 rfl (w.heap.size + 4) 3 i0 (.int .i64 0) 1 8 Try.underlying53 hi hz0 hz1 hz2 rfl (by decide) _ _ _ rfl (HSn.out.own.alloc _) ⟨wq.heap.size, 0, none⟩ 1 1 [.int .i64 ((x - y + 65536 - cv) % 65536)] rfl rfl (one_new _ _ _) one_int C3.out C4.out HB2.out ?_; intro v' w1 hown' hgrow _; obtain ⟨av', cv', rfl⟩ := owns_form hown'; have HT := Lib.hid (HSn.out.step hown' hgrow); have t1 := HT.out.2.c1; have t2 := HT.out.2.fr 1))
          go_roundg (max n m + 1 - (k + 1))
          case measure => have := HK.out; omega
          case rel => exact ⟨k + 1, _, _, _, rfl, by omega, by go_num, rfl, HN.out, HT.out.1⟩
        · obtain rfl : k = max n m + 1 := by omega
          have HF := Lib.hid (subAt_end HA.out (by have := hm.out; omega) (by have := hn.out; omega) (Int.le_of_lt HV.out))
          have c0 := HS.out.O.c0; have c1 := HS.out.O.c1
          have r0 := HS.out.R.c0; have r1 := HS.out.R.c1
          have g0 := HS.out.R.fr 0; have g1 := HS.out.R.fr 1
          go_wp2
          obtain ⟨hb, hd, hbel⟩ := HS.out.finish
          have k0 := hb.c0; have k1 := hb.c1
          generalize (wr.setCell ⟨w.heap.size + 1 + 1, 0, none⟩ (.bool nb)).setCell ⟨w.heap.size + 1 + 1, 1, none⟩ (.slice av (max n m + 1) cap0) = W at *
          refine bodyPost_ret (v := .agg #[.bool nb, .slice av (max n m + 1) cap0]) (by simp [results, Try.results37, go_sem, k0, k1]) rfl ⟨nb, .slice av (max n m + 1) cap0, os, rfl, hd, HF.out.2.1, ⟨?_, by have := HF.out.2.2; omega⟩, hbel⟩
          have hab' := hab.out
          subst hab'
          unfold sgv
          rw [HF.out.1]
          cases na <;> simp <;> omega
  · have HV := Lib.hid hvv; clear hvv
    rcases hmx with ⟨rfl, hnm⟩ | ⟨rfl, hnm⟩
    all_goals
      go_enter Try.func37, Try.ntmps37
      go_wp2_with (go_at_call 46; go_fit (HSZ.out _ (Summing.start w 55 3 na (.slice a n cap) nb (.slice a' m cap') na).below); rintro e w' ⟨rfl, rfl⟩)
      go_loopg [7, 10] (max n m + 1) (fun gk c i wr => ∃ (k : Nat) (cv : Int) (os : List Int) (ov : Value), gk = max n m + 1 - k ∧ k ≤ max n m + 1 ∧ i = .int .i64 k ∧ c = .int .i64 cv ∧ SubAt ds es os k cv ∧ Summing w wr 55 3 na (.slice a n cap) nb (.slice a' m cap') na ov k os)
      case atStart => exact ⟨0, 0, [], .slice none 0 0, rfl, by omega, rfl, rfl, subAt_zero _ _, Summing.start _ _ _ _ _ _ _ _⟩
      case round =>
        obtain ⟨k, cv, os, ov, hgk, hk, rfl, rfl, hA, hS⟩ := hrel
        have HK := Lib.hid hgk; have HA := Lib.hid hA; have HS := Lib.hid hS
        clear hgk hA hS
        obtain ⟨av, cap0, rfl⟩ := owns_form HS.out.own
        by_cases hlt : k < max n m + 1
        · have hRr := HR.out.below HS.out.below
          have hRr' := HR'.out.below HS.out.below
          have HN := Lib.hid (subAt_succ HA.out HD.out HE.out)
          have hdg : ∀ w', RowAt w' a .i64 ds → Calls Try.prog 45 #[.slice a n cap, .int .i64 k] w' fun e w'' => e = .returned (.int .i64 (ds.getD k 0)) ∧ w'' = w' := fun w' h => digit_q a n cap k ds w' hn h
          have hdg' : ∀ w', RowAt w' a' .i64 es → Calls Try.prog 45 #[.slice a' m cap', .int .i64 k] w' fun e w'' => e = .returned (.int .i64 (es.getD k 0)) ∧ w'' = w' := fun w' h => digit_q a' m cap' k es w' hm h
          obtain ⟨d0, d1⟩ := HD.out.getD k
          obtain ⟨e0, e1⟩ := HE.out.getD k
          have hc := HA.out.2.2
          obtain ⟨q0, q1, _⟩ := hc
          generalize ds.getD k 0 = x at *
          generalize es.getD k 0 = y at *
          have hw1 : IntKind.i64.wrap (x - y) = x - y := IntWalk.i64_in _ (by omega)
          have hw2 : IntKind.i64.wrap (x - y + 65536) = x - y + 65536 := IntWalk.i64_in _ (by omega)
          have hw3 : IntKind.i64.wrap (x - y + 65536 - cv) = x - y + 65536 - cv := IntWalk.i64_in _ (by omega)
          have hs0 : 0 ≤ x - y + 65536 - cv := by omega
          have hDG := Lib.hid hdg; have hDG' := Lib.hid hdg'; clear hdg hdg'
          have HRr := Lib.hid hRr; have HRr' := Lib.hid hRr'; clear hRr hRr'
          have b1 := HS.out.A.c1; have b2 := HS.out.B.c1
          go_wp2_with fail
          go_quiet ((first | (go_at_call_of 45 (Value.slice a n cap); exact Calls.quiet_of_same (hDG.out _ HRr.out)) | (go_at_call_of 45 (Value.slice a' m cap'); exact Calls.quiet_of_same (hDG'.out _ HRr'.out))))
          have HSn := Lib.hid (HS.out.drewN nq)
          obtain ⟨wq, hwq⟩ : ∃ wq, wq = wr.drewN nq := ⟨_, rfl⟩
          rw [← hwq] at HSn ⊢
          clear hwq HS b1 b2
          have o1 := HSn.out.O.c1
          have c3 : k + 1 ≤ maxLen := by unfold maxLen; omega
          have c4 : (k + 1) * 8 ≤ 140737488355328 := by omega
          have HB2 : Hid (w.heap.size + 4 ≤ (wq.alloc (.cells #[.int .i64 ((x - y + 65536 - cv) % 65536)] 3)).heap.size) := by have := HSn.out.size; show _ ≤ _; simp; omega
          have C3 := Lib.hid c3; have C4 := Lib.hid c4; clear c3 c4
          go_wp2_with ((at_builtin; refine wpList_append_own _ rfl _ _ 53 rfl (w.heap.size + 4) 3 i0 (.int .i64 0) 1 8 Try.underlying53 hi hz0 hz1 hz2 rfl (by decide) _ _ _ rfl (HSn.out.own.alloc _) ⟨wq.heap.size, 0, none⟩ 1 1 [.int .i64 ((x - y + 65536 - cv) % 65536)] rfl rfl (one_new _ _ _) one_int C3.out C4.out HB2.out ?_; intro v' w1 hown' hgrow _; obtain ⟨av', cv', rfl⟩ := owns_form hown'; have HT := Lib.hid (HSn.out.step hown' hgrow); have t1 := HT.out.2.c1; have t2 := HT.out.2.fr 1))
          go_roundg (max n m + 1 - (k + 1))
          case measure => have := HK.out; omega
          case rel => exact ⟨k + 1, _, _, _, rfl, by omega, by go_num, rfl, HN.out, HT.out.1⟩
        · obtain rfl : k = max n m + 1 := by omega
          have HF := Lib.hid (subAt_end HA.out (by have := hn.out; omega) (by have := hm.out; omega) HV.out)
          have c0 := HS.out.O.c0; have c1 := HS.out.O.c1
          have r0 := HS.out.R.c0; have r1 := HS.out.R.c1
          have g0 := HS.out.R.fr 0; have g1 := HS.out.R.fr 1
          go_wp2
          obtain ⟨hb, hd, hbel⟩ := HS.out.finish
          have k0 := hb.c0; have k1 := hb.c1
          generalize (wr.setCell ⟨w.heap.size + 1 + 1, 0, none⟩ (.bool na)).setCell ⟨w.heap.size + 1 + 1, 1, none⟩ (.slice av (max n m + 1) cap0) = W at *
          refine bodyPost_ret (v := .agg #[.bool na, .slice av (max n m + 1) cap0]) (by simp [results, Try.results37, go_sem, k0, k1]) rfl ⟨na, .slice av (max n m + 1) cap0, os, rfl, hd, HF.out.2.1, ⟨?_, by have := HF.out.2.2; omega⟩, hbel⟩
          have hab' := hab.out
          subst hab'
          unfold sgv
          rw [HF.out.1]
          cases na <;> simp <;> omega
end Go.Proofs.Ytlokoepljmlcgaa
