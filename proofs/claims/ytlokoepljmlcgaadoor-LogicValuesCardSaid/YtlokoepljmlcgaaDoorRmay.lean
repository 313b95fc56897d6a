/-
  THE WALK of the document's May: its head.
-/
import Derived.Test.YtlokoepljmlcgaaDoorRmayP
import Derived.Test.YtlokoepljmlcgaaDoorUtf8w
import Derived.Deep.Cut
import Derived.Deep.DeepFit
import Derived.Deep.RegionHeld3
import Derived.Deep.LoopGhost
namespace Go.Proofs.YtlokoepljmlcgaaDoor
set_option linter.unusedSimpArgs false
set_option linter.unusedVariables false
open Go.RowKit Go.Shelf

/-- What is known while a value is looked at. -/
structure RM (W : World) (x : Nd) (w : World) : Prop where
  six : Six w W.heap.size x 30
  bl : Below W.heap.size W w
theorem RM.next {W : World} {x : Nd} {w w' : World} (h : RM W x w) (hb : Below w.heap.size w w') : RM W x w' := ⟨h.six.next hb, h.bl.trans (hb.mono h.bl.size)⟩
theorem RM.drew {W : World} {x : Nd} {w : World} (h : RM W x w) (n : Nat) : RM W x (w.drewN n) := h.next (bdrewN (Below.refl _ _) n)
theorem RM.new (W : World) (x : Nd) : RM W x (W.alloc (.cells #[.int .i64 x.k, .bool x.b, .int .i64 x.n, .string x.t, .slice x.ka x.kl x.kc, .slice x.la x.ll x.lc] 30)) := ⟨Six.new W x _, ballocR W _⟩

theorem beqI (a b : Int) : (a == b) = decide (a = b) := by by_cases h : a = b <;> simp [h]
theorem neI (a b : Int) : (a != b) = !decide (a = b) := by by_cases h : a = b <;> simp [h]
theorem neN (a b : Nat) : (a != b) = !decide (a = b) := by by_cases h : a = b <;> simp [h]
/-- What May answers. -/
def MayP (x : Nd) (c : Fo) : Prop := ∀ (n₀ : Nat) (W : World), Good n₀ W x c → n₀ ≤ W.heap.size → Calls Tryd.prog 37 #[x.val] W fun e w' => e = .returned (.bool (mayA x c)) ∧ Below W.heap.size W w'

set_option maxRecDepth 100000 in
set_option maxHeartbeats 8000000 in
theorem rmay_step (x : Nd) (c : Fo) (ih : c.Each MayP) : MayP x c := by
  intro n₀ W hg hn
  have ht : x.t.size ≤ 1099511627776 := by
    have h1 := (hg.sized.2 (1, x, c) (by simp [Nd.pre])).1
    simp only [bytesE] at h1; omega
  have HB : Hid (∀ w, RM W x w → Calls Tryd.prog 51 #[x.val] w fun e w' => e = .returned (.bool (bareR x)) ∧ RM W x w') := fun w h => (rbare_any x w).mono fun e w' h' => ⟨h'.1, h.next h'.2⟩
  have HU : Hid (∀ w, Calls Tryd.prog 52 #[.string x.t] w fun e w' => e = .returned (.bool (Lib.validD x.t.data.toList)) ∧ w = w') := fun w => utf8_any x.t w ht
  have HR := Lib.hid (RM.new W x)
  have hbd : x.kl ≤ 1048576 ∧ x.ll ≤ 1048576 ∧ x.kl = x.ks.length ∧ x.ll = c.len ∧ ∀ s ∈ x.ks, s.size ≤ 1099511627776 := by
    have h1 := hg.sized.2 (1, x, c) (by simp [Nd.pre])
    have h2 := hg.vals.len
    refine ⟨h1.2, by rw [hg.in_.1]; exact h2, hg.keys.1, hg.in_.1, fun s hs => ?_⟩
    have h3 := sum_mem (List.mem_map.2 ⟨s, hs, rfl⟩ : s.size ∈ x.ks.map (·.size))
    have h4 := h1.1
    simp only [bytesE] at h4; omega
  have HG := Lib.hid hg
  have HI := Lib.hid ih
  clear hg ih
  have hans : mayA x c = (headR x && keysOK x.ks && c.toL.all fun p => mayA p.1 p.2) := by rw [mayA_eq, headR_may]
  have hhead : headR x = headR x := rfl
  conv at hhead => rhs; unfold headR
  obtain ⟨k, b, n, t, ka, kl, kc, la, ll, lc, ks⟩ := x
  simp only [Nd.val] at *
  obtain ⟨hkl, hll, hksl, hlll, hks⟩ := hbd
  have HH := Lib.hid hhead
  have HA := Lib.hid hans
  have HKSL := Lib.hid hksl
  have HLLL := Lib.hid hlll
  clear hhead hans hksl hlll
  generalize mayA ⟨k, b, n, t, ka, kl, kc, la, ll, lc, ks⟩ c = ANS at *
  generalize headR ⟨k, b, n, t, ka, kl, kc, la, ll, lc, ks⟩ = H at *
  generalize bareR ⟨k, b, n, t, ka, kl, kc, la, ll, lc, ks⟩ = br at *
  generalize Lib.validD t.data.toList = vd at *
  go_enter Tryd.func37, Tryd.ntmps37
  go_upto_region 1 with (fail)
  go_cut [0, 52] (fun _ s wx => s = .bool (!H) ∧ RM W ⟨k, b, n, t, ka, kl, kc, la, ll, lc, ks⟩ wx)
  case first =>
    go_wp2_with (first
      | (go_at_call 51; refine (HB.out _ HR.out).mono ?_; rintro e w1 ⟨rfl, M⟩; obtain ⟨x0, x1, x2, x3, x4, x5⟩ := M.six.cells; simp only [Nat.zero_add] at x0 x1 x2 x3 x4 x5)
      | (go_at_call 52; refine (HU.out _).mono ?_; rintro e w2 ⟨rfl, rfl⟩))
    all_goals go_meet
    all_goals (try exact ⟨by rw [HH.out]; simp_all [beqI, neN, neI, Int.natCast_inj], by assumption⟩)
    all_goals (try exact ⟨by rw [HH.out]; simp_all [beqI, neN, neI, Int.natCast_inj], HR.out⟩)
  case rest =>
    obtain ⟨rfl, hM⟩ := hcut
    clear HB HU HR HH
    cases H with
    | false =>
      have HM := Lib.hid hM
      clear hM
      go_wp2
      go_ret
      exact ⟨retB (by rw [HA.out]; simp), HM.out.bl⟩
    | true =>
      have HM0 := Lib.hid hM
      clear hM
      go_wp2_with fail
      go_loopg [3] kl (fun gk s0 wx => ∃ i : Nat, s0 = .int .i64 i ∧ gk = kl - i ∧ i ≤ kl ∧ RM W ⟨k, b, n, t, ka, kl, kc, la, ll, lc, ks⟩ wx ∧ ∀ j, j < i → okAt ks j = true)
      case atStart => exact ⟨0, rfl, rfl, Nat.zero_le _, HM0.out, fun j h => absurd h (Nat.not_lt_zero j)⟩
      case round =>
        obtain ⟨i, rfl, rfl, hi, hM, hok⟩ := hrel
        have HO := Lib.hid hok
        have HM := Lib.hid hM
        clear hok hM
        obtain ⟨x0, x1, x2, x3, x4, x5⟩ := HM.out.six.cells
        simp only [Nat.zero_add] at x0 x1 x2 x3 x4 x5
        by_cases hlt : i < kl
        · have hKE := HG.out.keys.keep (Cellsy.of_below (HM.out.bl.mono hn))
          obtain ⟨s, hs⟩ : ∃ s, ks[i]? = some s := ⟨ks[i]'(by have := HKSL.out; omega), List.getElem?_eq_getElem (by have := HKSL.out; omega)⟩
          obtain ⟨b', o', rfl, hb', hcs⟩ := hKE.2.resolve_left (by intro h; simp only at h; subst h; simp at hs)
          have hci := hcs i s hs
          have HVs : Hid (∀ w, Calls Tryd.prog 52 #[.string s] w fun e w' => e = .returned (.bool (Lib.validD s.data.toList)) ∧ w = w') := fun w => utf8_any s w (hks s (List.mem_of_getElem? hs))
          have HKE := Lib.hid hKE
          clear hKE
          cases hv : Lib.validD s.data.toList with
          | false =>
            rw [hv] at HVs
            have HS := Lib.hid hs
            have HC := Lib.hid hcs
            have HV := Lib.hid hv
            clear hs hcs hv
            go_wp2_with fail
            go_quiet ((go_at_call 52; exact Calls.quiet_of_same ((HVs.out _).mono fun _ _ h => ⟨h.1, h.2.symm⟩)))
            go_wp2
            go_ret
            exact ⟨retB (by rw [HA.out, keysOK_no (i := i) (by have := HKSL.out; omega) (by simp [okAt, HS.out, HV.out])]; simp), (HM.out.drew nq).bl⟩
          | true =>
            rw [hv] at HVs
            cases i with
            | zero =>
              have HS := Lib.hid hs
              have HV := Lib.hid hv
              clear hs hcs hv
              simp only [Nat.add_zero] at hci
              go_wp2_with fail
              go_quiet ((go_at_call 52; exact Calls.quiet_of_same ((HVs.out _).mono fun _ _ h => ⟨h.1, h.2.symm⟩)))
              go_wp2_with fail
              go_roundg (kl - 1)
              case measure => omega
              case rel => exact ⟨1, by go_num, rfl, by omega, HM.out.drew nq, fun j hj => by
                obtain rfl : j = 0 := by omega
                rw [okAt_zero HS.out, HV.out]⟩
            | succ i =>
              obtain ⟨q, hq⟩ : ∃ q, ks[i]? = some q := ⟨ks[i]'(by have := HKSL.out; omega), List.getElem?_eq_getElem (by have := HKSL.out; omega)⟩
              have hcq := hcs i q hq
              have k2 : IntKind.i64.wrap ((i : Int) + 1 - 1) = (i : Int) := by rw [IntWalk.i64_left]; unfold wrap64; omega
              have HS := Lib.hid hs
              have HQ := Lib.hid hq
              have HV := Lib.hid hv
              clear hs hq hcs hv
              cases hless : Op.bytesLess q.toList s.toList with
              | true =>
                go_wp2_with fail
                go_quiet ((go_at_call 52; exact Calls.quiet_of_same ((HVs.out _).mono fun _ _ h => ⟨h.1, h.2.symm⟩)))
                go_wp2_with fail
                go_roundg (kl - (i + 1 + 1))
                case measure => omega
                case rel => exact ⟨i + 1 + 1, by go_num, rfl, by omega, HM.out.drew nq, fun j hj => by
                  rcases Nat.lt_or_ge j (i + 1) with h | h
                  · exact HO.out j h
                  · obtain rfl : j = i + 1 := by omega
                    rw [okAt_succ HS.out HQ.out, HV.out, hless]; rfl⟩
              | false =>
                go_wp2_with fail
                go_quiet ((go_at_call 52; exact Calls.quiet_of_same ((HVs.out _).mono fun _ _ h => ⟨h.1, h.2.symm⟩)))
                go_wp2
                go_ret
                exact ⟨retB (by rw [HA.out, keysOK_no (i := i + 1) (by have := HKSL.out; omega) (by rw [okAt_succ HS.out HQ.out, hless]; simp)]; simp), (HM.out.drew nq).bl⟩
        · have hik : i = kl := by omega
          subst hik
          have HKO : Hid (keysOK ks = true) := by
            unfold Hid keysOK
            rw [List.all_eq_true]
            intro j hj
            exact HO.out j (by have := HKSL.out; have := List.mem_range.1 hj; omega)
          clear HO
          go_wp2_with fail
          go_loopg [4] ll (fun gk s0 wx => ∃ j : Nat, s0 = .int .i64 j ∧ gk = ll - j ∧ j ≤ ll ∧ RM W ⟨k, b, n, t, ka, i, kc, la, ll, lc, ks⟩ wx ∧ ∀ m p, m < j → c.toL[m]? = some p → mayA p.1 p.2 = true)
          case atStart => exact ⟨0, rfl, rfl, Nat.zero_le _, HM.out, fun j p h => absurd h (Nat.not_lt_zero j)⟩
          case round =>
            obtain ⟨j, rfl, rfl, hj, hM2, hok2⟩ := hrel
            have HO2 := Lib.hid hok2
            have HM2 := Lib.hid hM2
            clear hok2 hM2 x0 x1 x2 x3 x4 x5
            obtain ⟨x0, x1, x2, x3, x4, x5⟩ := HM2.out.six.cells
            simp only [Nat.zero_add] at x0 x1 x2 x3 x4 x5
            by_cases hlt2 : j < ll
            · have hgv := HG.out.vals.keep (Cellsy.of_below (HM2.out.bl.mono hn))
              obtain ⟨y, cy, b2, o2, hp, ha, hcs, hgy⟩ := hgv.get (i := j) (by rw [← HLLL.out]; exact hlt2)
              simp only at ha
              subst ha
              have hC := (HI.out.mem _ (List.mem_of_getElem? hp)) n₀ _ hgy (Nat.le_trans hn HM2.out.bl.size)
              obtain ⟨yk, yb, yn, yt, yka, ykl, ykc, yla, yll, ylc, yks⟩ := y
              obtain ⟨c0, c1, c2, c3, c4, c5⟩ := hcs
              simp only at c0 c1 c2 c3 c4 c5
              simp only [Nd.val] at hC
              have HC := Lib.hid hC
              have HP := Lib.hid hp
              clear hC hp hgy hgv
              cases hz : mayA ⟨yk, yb, yn, yt, yka, ykl, ykc, yla, yll, ylc, yks⟩ cy with
              | false =>
                rw [hz] at HC
                have HZ := Lib.hid hz
                clear hz
                go_wp2_with (go_at_call 37; refine HC.out.mono ?_; rintro e w4 ⟨rfl, hb4⟩)
                go_ret
                refine ⟨retB ?_, (HM2.out.next hb4).bl⟩
                have h1 : (c.toL.all fun p => mayA p.1 p.2) = false := by
                  rw [List.all_eq_false]
                  exact ⟨_, List.mem_of_getElem? HP.out, by simp [HZ.out]⟩
                rw [HA.out, h1]; simp
              | true =>
                rw [hz] at HC
                have HZ := Lib.hid hz
                clear hz
                go_wp2_with (go_at_call 37; refine HC.out.mono ?_; rintro e w4 ⟨rfl, hb4⟩)
                go_roundg (ll - (j + 1))
                case measure => omega
                case rel =>
                  refine ⟨j + 1, by go_num, rfl, by omega, HM2.out.next hb4, fun m p hm hpm => ?_⟩
                  rcases Nat.lt_or_ge m j with h | h
                  · exact HO2.out m p h hpm
                  · obtain rfl : m = j := by omega
                    rw [HP.out] at hpm
                    cases hpm
                    exact HZ.out
            · have hjl : j = ll := by omega
              subst hjl
              go_wp2
              go_ret
              refine ⟨retB ?_, HM2.out.bl⟩
              have h1 : (c.toL.all fun p => mayA p.1 p.2) = true := by
                rw [List.all_eq_true]
                intro p hp
                obtain ⟨m, hm⟩ := List.getElem?_of_mem hp
                have hml : m < c.toL.length := (List.getElem?_eq_some_iff.1 hm).1
                rw [Fo.len_toL] at hml
                exact HO2.out m p (by have := HLLL.out; omega) hm
              rw [HA.out, h1, HKO.out]; simp

theorem rmay_any (x : Nd) (c : Fo) (n₀ : Nat) (W : World) (h : Good n₀ W x c) (hn : n₀ ≤ W.heap.size) : Calls Tryd.prog 37 #[x.val] W fun e w' => e = .returned (.bool (mayA x c)) ∧ Below W.heap.size W w' := Nd.ind rmay_step x c n₀ W h hn
end Go.Proofs.YtlokoepljmlcgaaDoor
