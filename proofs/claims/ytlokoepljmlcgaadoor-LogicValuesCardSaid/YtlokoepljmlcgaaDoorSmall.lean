/-
  THE WALK of the law's small.
-/
import Derived.Test.YtlokoepljmlcgaaDoorSmallP
import Derived.Test.YtlokoepljmlcgaaDoorRmay
import Derived.Deep.LoopGhost
import Derived.Deep.RegionHeld3
namespace Go.Proofs.YtlokoepljmlcgaaDoor
set_option linter.unusedSimpArgs false
set_option linter.unusedVariables false
open Go.RowKit Go.Shelf

theorem Nd.In.get {n₀ : Nat} {W : World} {x : Nd} {c : Fo} (h : x.In n₀ W c) {i : Nat} (hi : i < c.len) : ∃ p cp b o, c.toL[i]? = some (p, cp) ∧ x.la = some ⟨b, o, none⟩ ∧ b < n₀ ∧ p.Cells W b (o + i * 6) ∧ p.Keys n₀ W ∧ p.In n₀ W cp := by
  obtain ⟨⟨p, cp⟩, hp⟩ : ∃ p, c.toL[i]? = some p := ⟨_, List.getElem?_eq_getElem (by rw [Fo.len_toL]; exact hi)⟩
  rcases h.2 with rfl | ⟨b, o, ha, hat⟩
  · simp [Fo.len] at hi
  · have g := hat.get hp
    exact ⟨p, cp, b, o, hp, ha, g⟩

def SmP (x : Nd) (c : Fo) : Prop := ∀ (n₀ : Nat) (W : World) (left : Int), x.In n₀ W c → x.Keys n₀ W → x.Fit → c.Fit → n₀ ≤ W.heap.size → 0 ≤ left → left ≤ 1000 →
  Calls Tryd.prog 25 #[x.val, .int .i64 left] W fun e w' => e = .returned (.int .i64 (smV x c left)) ∧ Below W.heap.size W w'

set_option maxRecDepth 100000 in
set_option maxHeartbeats 8000000 in
theorem small_step (x : Nd) (c : Fo) (ih : c.Each SmP) : SmP x c := by
  intro n₀ W left hin hke hfx hfc hn hl0 hl1
  have hle := smV_le hfx hfc hl0
  have HIN := Lib.hid hin; have HKE := Lib.hid hke; have HFC := Lib.hid hfc; have HI := Lib.hid ih
  have HR := Lib.hid (RM.new W x)
  have HLE := Lib.hid hle
  have hft := hfx.t; have hfk := hfx.kl; have hfl := hfx.ll
  have HFK := Lib.hid hfx.ks
  have HKL := Lib.hid hke.1
  have HLL := Lib.hid hin.1
  have hans : smV x c left = smL (fun p => smV p.1 p.2) c.toL left (smK left (1 + x.t.size + x.kl) x.ks) := by unfold smV; rw [smF_toL]; rfl
  have hkb := smK_le left x.ks (1 + x.t.size + x.kl) hfx.ks
  have hkg := smK_ge left x.ks (1 + x.t.size + x.kl)
  clear hin hke hfx hfc ih hle
  obtain ⟨k, b, n, t, ka, kl, kc, la, ll, lc, ks⟩ := x
  simp only [Nd.val] at *
  have HA := Lib.hid hans
  clear hans
  generalize smV ⟨k, b, n, t, ka, kl, kc, la, ll, lc, ks⟩ c left = ANS at *
  go_enter Tryd.func25, Tryd.ntmps25
  go_wp2_with fail
  go_loopg [5, 6] kl (fun gk s5 s6 wx => ∃ (i : Nat) (m : Int), s5 = .int .i64 m ∧ s6 = .int .i64 i ∧ gk = kl - i ∧ i ≤ kl ∧ smK left m (ks.drop i) = smK left (1 + t.size + kl) ks ∧ 1 ≤ m ∧ m ≤ 562949953421312 ∧ RM W ⟨k, b, n, t, ka, kl, kc, la, ll, lc, ks⟩ wx)
  case atStart => exact ⟨0, 1 + t.size + kl, by go_num, rfl, rfl, Nat.zero_le _, rfl, by omega, by omega, HR.out⟩
  case round =>
    obtain ⟨i, m, rfl, rfl, rfl, hi, hm, hm1, hm2, hM⟩ := hrel
    have HM := Lib.hid hM
    have HMM := Lib.hid hm
    clear hM hm
    obtain ⟨x0, x1, x2, x3, x4, x5⟩ := HM.out.six.cells
    simp only [Nat.zero_add] at x0 x1 x2 x3 x4 x5
    by_cases hgo : i < kl ∧ m ≤ left
    · obtain ⟨hlt, hml⟩ := hgo
      have hKE := HKE.out.keep (Cellsy.of_below (HM.out.bl.mono hn))
      obtain ⟨s, hs⟩ : ∃ s, ks[i]? = some s := ⟨ks[i]'(by have := HKL.out; omega), List.getElem?_eq_getElem (by have := HKL.out; omega)⟩
      obtain ⟨b', o', rfl, hb', hcs⟩ := hKE.2.resolve_left (by intro h; simp only at h; subst h; simp at hs)
      have hci := hcs i s hs
      have hsz := HFK.out s (List.mem_of_getElem? hs)
      have HS := Lib.hid (smK_step hs hml)
      clear hKE hs hcs
      go_wp2_with fail
      go_roundg (kl - (i + 1))
      case measure => omega
      case rel => exact ⟨i + 1, m + s.size, by go_num, by go_num, rfl, by omega, by have h1 := HS.out; have h2 := HMM.out; rw [h1] at h2; exact h2, by omega, by omega, HM.out⟩
    · have HK : Hid (smK left (1 + t.size + kl) ks = m) := by
        have h1 := HMM.out
        rcases Nat.lt_or_ge i kl with h | h
        · rw [smK_stop _ (by omega)] at h1; exact h1.symm
        · rw [List.drop_of_length_le (by have := HKL.out; omega)] at h1; exact h1.symm
      clear HMM
      have hA2 := HA.out
      rw [HK.out] at hA2
      have HA2 := Lib.hid hA2
      clear hA2 hkb hkg
      rcases Nat.lt_or_ge i kl with hlt | hge
      all_goals
        go_wp2_with fail
        go_loopg [5, 7] ll (fun gk s5 s7 wx => ∃ (j : Nat) (q : Int), s5 = .int .i64 q ∧ s7 = .int .i64 j ∧ gk = ll - j ∧ j ≤ ll ∧ smL (fun p => smV p.1 p.2) (c.toL.drop j) left q = ANS ∧ 1 ≤ q ∧ q ≤ 1125899906842624 ∧ RM W ⟨k, b, n, t, ka, kl, kc, la, ll, lc, ks⟩ wx)
        case atStart => exact ⟨0, m, rfl, rfl, rfl, Nat.zero_le _, HA2.out.symm, by omega, by omega, HM.out⟩
        case round =>
          obtain ⟨j, q, rfl, rfl, rfl, hj, hq, hq1, hq2, hM2⟩ := hrel
          have HM2 := Lib.hid hM2
          have HQ := Lib.hid hq
          clear hM2 hq x0 x1 x2 x3 x4 x5
          obtain ⟨x0, x1, x2, x3, x4, x5⟩ := HM2.out.six.cells
          simp only [Nat.zero_add] at x0 x1 x2 x3 x4 x5
          by_cases hgo2 : j < ll ∧ q ≤ left
          · obtain ⟨hlt2, hql⟩ := hgo2
            obtain ⟨p, cp, bb, oo, hp, ha, hbn, hcs, hpk, hpi⟩ := HIN.out.get (i := j) (by rw [← HLL.out]; exact hlt2)
            simp only at ha
            subst ha
            have hcw := Nd.Cells.keep (Cellsy.of_below HM2.out.bl) (Nat.lt_of_lt_of_le hbn hn) hcs
            have hft2 := HFC.out.mem _ (List.mem_of_getElem? hp)
            have hC : ∀ w', Below W.heap.size W w' → Calls Tryd.prog 25 #[p.val, .int .i64 (left - q)] w' fun e w'' => e = .returned (.int .i64 (smV p cp (left - q))) ∧ Below w'.heap.size w' w'' := fun w' hb' =>
              (HI.out.mem _ (List.mem_of_getElem? hp)) n₀ w' (left - q) (hpi.keep (Cellsy.of_below (hb'.mono hn))) (hpk.keep (Cellsy.of_below (hb'.mono hn))) hft2.1 hft2.2 (Nat.le_trans hn hb'.size) (by omega) (by omega)
            have hs1 := smV_le (left := left - q) hft2.1 hft2.2 (by omega)
            have hs2 := smV_ge p cp (left - q)
            have HS := Lib.hid (smL_step (f := fun p => smV p.1 p.2) hp hql)
            obtain ⟨c0, c1, c2, c3, c4, c5⟩ := hcw
            have HC := Lib.hid hC
            clear hC hp hcs hft2 hpk hpi
            simp only at HS
            generalize smV p cp (left - q) = E at *
            obtain ⟨pk, pb, pn, pt, pka, pkl, pkc, pla, pll, plc, pks⟩ := p
            simp only [Nd.val] at HC
            simp only at c0 c1 c2 c3 c4 c5
            go_wp2_with (go_at_call 25; refine (HC.out _ HM2.out.bl).mono ?_; rintro e w2 ⟨rfl, hb2⟩)
            go_roundg (ll - (j + 1))
            case measure => omega
            case rel => exact ⟨j + 1, q + E, by go_num, by go_num, rfl, by omega, by have h1 := HS.out; have h2 := HQ.out; rw [h1] at h2; exact h2, by omega, by omega, HM2.out.next hb2⟩
          · have HE : Hid (ANS = q) := by
              have h1 := HQ.out
              rcases Nat.lt_or_ge j ll with h | h
              · rw [smL_stop _ (by omega)] at h1; exact h1.symm
              · rw [List.drop_of_length_le (by rw [Fo.len_toL, ← HLL.out]; omega)] at h1; exact h1.symm
            clear HQ
            rcases Nat.lt_or_ge j ll with hlt3 | hge3
            all_goals
              go_wp2
              go_ret
              exact ⟨ret1 HE.out.symm, HM2.out.bl⟩
theorem small_any (x : Nd) (c : Fo) : SmP x c := Nd.ind small_step x c
end Go.Proofs.YtlokoepljmlcgaaDoor
