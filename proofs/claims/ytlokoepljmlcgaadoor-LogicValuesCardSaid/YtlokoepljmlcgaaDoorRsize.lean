/-
  THE WALK of the document's Size and Check.
-/
import Derived.Test.YtlokoepljmlcgaaDoorRsizeP
import Derived.Test.YtlokoepljmlcgaaDoorRmay
namespace Go.Proofs.YtlokoepljmlcgaaDoor
set_option linter.unusedSimpArgs false
set_option linter.unusedVariables false
open Go.RowKit Go.Shelf

/-- What Size answers. -/
def szV (x : Nd) (c : Fo) : Value := .tuple #[.int .i64 (szN (Nd.pre 1 x c) : Nat), .int .i64 (szD (Nd.pre 1 x c) : Nat), .int .i64 (bytesL (Nd.pre 1 x c) : Nat), .int .i64 (szL (Nd.pre 1 x c) : Nat)]
def SizeP (x : Nd) (c : Fo) : Prop := ∀ (n₀ : Nat) (W : World), Good n₀ W x c → n₀ ≤ W.heap.size → Calls Tryd.prog 38 #[x.val] W fun e w' => e = .returned (szV x c) ∧ Below W.heap.size W w'
/-- So far. -/
structure SzI (N D B L : Nat) (x : Nd) (l : List (Nd × Fo)) : Prop where
  n : N = 1 + szN (preL 1 l)
  d : D = szD (preL 1 l)
  b : B = x.t.size + (x.ks.map (·.size)).sum + bytesL (preL 1 l)
  l : L = max x.ll (szL (preL 1 l))
theorem imax (a b : Nat) : (if (a : Int) < b then (b : Int) else a) = (max a b : Nat) := by split <;> omega
theorem imax2 (a b : Nat) : (if (a : Int) ≤ b then (b : Int) else a) = (max a b : Nat) := by split <;> omega

set_option maxRecDepth 100000 in
set_option maxHeartbeats 8000000 in
theorem rsize_step (x : Nd) (c : Fo) (ih : c.Each SizeP) : SizeP x c := by
  intro n₀ W hg hn
  have hbd : x.kl ≤ 1048576 ∧ x.ll ≤ 1048576 ∧ x.kl = x.ks.length ∧ x.ll = c.len ∧ x.t.size + (x.ks.map (·.size)).sum ≤ 1048576 := by
    have h1 := hg.sized.2 (1, x, c) (by simp [Nd.pre])
    have h2 := hg.vals.len
    exact ⟨h1.2, by rw [hg.in_.1]; exact h2, hg.keys.1, hg.in_.1, h1.1⟩
  have hall := fun e he => ((hg.in_.all hg.keys 1) e he).2
  have hsz := sz_bd hg.sized hall
  have HN := Lib.hid (szN_node x c)
  have HD := Lib.hid (szD_node x c)
  have HB := Lib.hid (szB_node x c)
  have HL := Lib.hid (szL_node x c)
  have HR := Lib.hid (RM.new W x)
  have HG := Lib.hid hg
  have HI := Lib.hid ih
  clear hg ih hall
  unfold szV
  obtain ⟨N, hN⟩ : ∃ N, szN (Nd.pre 1 x c) = N := ⟨_, rfl⟩
  obtain ⟨D, hD⟩ : ∃ D, szD (Nd.pre 1 x c) = D := ⟨_, rfl⟩
  obtain ⟨B, hB⟩ : ∃ B, bytesL (Nd.pre 1 x c) = B := ⟨_, rfl⟩
  obtain ⟨L, hL⟩ : ∃ L, szL (Nd.pre 1 x c) = L := ⟨_, rfl⟩
  rw [hN] at HN hsz ⊢
  rw [hD] at HD hsz ⊢
  rw [hB] at HB hsz ⊢
  rw [hL] at HL hsz ⊢
  clear hN hD hB hL
  have HSZ := Lib.hid hsz
  obtain ⟨k, b, n, t, ka, kl, kc, la, ll, lc, ks⟩ := x
  simp only [Nd.val] at *
  obtain ⟨hkl, hll, hksl, hlll, hby⟩ := hbd
  have HKSL := Lib.hid hksl
  have HLLL := Lib.hid hlll
  have HBY := Lib.hid hby
  clear hksl hlll hby hsz
  have hts : t.size ≤ 1048576 := by have := HBY.out; omega
  go_enter Tryd.func38, Tryd.ntmps38
  go_wp2_with fail
  go_quiet (fail)
  go_wp2_with fail
  have HR1 := Lib.hid (HR.out.drew nq)
  go_loopg [8, 10] kl (fun gk s8 s10 wx => ∃ i m : Nat, s8 = .int .i64 m ∧ s10 = .int .i64 i ∧ gk = kl - i ∧ i ≤ kl ∧ m = t.size + ((ks.take i).map (·.size)).sum ∧ RM W ⟨k, b, n, t, ka, kl, kc, la, ll, lc, ks⟩ wx)
  case atStart => exact ⟨0, t.size, rfl, rfl, rfl, Nat.zero_le _, by simp, HR1.out⟩
  case round =>
    obtain ⟨i, m, rfl, rfl, rfl, hi, hm, hM⟩ := hrel
    have HM := Lib.hid hM
    have HMM := Lib.hid hm
    clear hM hm
    obtain ⟨x0, x1, x2, x3, x4, x5⟩ := HM.out.six.cells
    simp only [Nat.zero_add] at x0 x1 x2 x3 x4 x5
    by_cases hlt : i < kl
    · have hKE := HG.out.keys.keep (Cellsy.of_below (HM.out.bl.mono hn))
      obtain ⟨s, hs⟩ : ∃ s, ks[i]? = some s := ⟨ks[i]'(by have := HKSL.out; omega), List.getElem?_eq_getElem (by have := HKSL.out; omega)⟩
      obtain ⟨b', o', rfl, hb', hcs⟩ := hKE.2.resolve_left (by intro h; simp only at h; subst h; simp at hs)
      have hci := hcs i s hs
      have HS : Hid (((ks.take (i + 1)).map (·.size)).sum = ((ks.take i).map (·.size)).sum + s.size) := by
        unfold Hid
        rw [List.take_add_one, hs]; simp
      have hms : m + s.size ≤ 1048576 := by
        have h1 := sum_take_le ks (i + 1)
        have h2 := HS.out
        have h3 := HBY.out
        have h4 := HMM.out
        omega
      clear hKE hs hcs
      go_wp2_with fail
      go_roundg (kl - (i + 1))
      case measure => omega
      case rel => exact ⟨i + 1, m + s.size, by go_num, by go_num, rfl, by omega, by have h2 := HS.out; have h4 := HMM.out; omega, HM.out⟩
    · have hik : i = kl := by omega
      subst hik
      have HM0 : Hid (m = t.size + (ks.map (·.size)).sum) := by
        have h1 := HMM.out
        rw [List.take_of_length_le (by have := HKSL.out; omega)] at h1
        exact h1
      clear HMM
      go_wp2_with fail
      go_loopg [6, 7, 8, 9, 11] ll (fun gk s6 s7 s8 s9 s11 wx => ∃ (j : Nat) (a d e g : Nat), s6 = .int .i64 a ∧ s7 = .int .i64 d ∧ s8 = .int .i64 e ∧ s9 = .int .i64 g ∧ s11 = .int .i64 j ∧ gk = ll - j ∧ j ≤ ll ∧ RM W ⟨k, b, n, t, ka, i, kc, la, ll, lc, ks⟩ wx ∧ SzI a d e g ⟨k, b, n, t, ka, i, kc, la, ll, lc, ks⟩ (c.toL.take j))
      case atStart => exact ⟨0, 1, 0, m, ll, rfl, rfl, rfl, rfl, rfl, rfl, Nat.zero_le _, HM.out, by simp [preL, szN], by simp [preL, szD, mxL], by have := HM0.out; simp [preL, bytesL]; omega, by simp [preL, szL, mxL]⟩
      case round =>
        obtain ⟨j, a, d, e, g, rfl, rfl, rfl, rfl, rfl, rfl, hj, hM2, hz⟩ := hrel
        have HM2 := Lib.hid hM2
        have HZ := Lib.hid hz
        clear hM2 hz x0 x1 x2 x3 x4 x5
        obtain ⟨x0, x1, x2, x3, x4, x5⟩ := HM2.out.six.cells
        simp only [Nat.zero_add] at x0 x1 x2 x3 x4 x5
        by_cases hlt2 : j < ll
        · have hgv := HG.out.vals.keep (Cellsy.of_below (HM2.out.bl.mono hn))
          obtain ⟨y, cy, b2, o2, hp, ha, hcs, hgy⟩ := hgv.get (i := j) (by rw [← HLLL.out]; exact hlt2)
          simp only at ha
          subst ha
          have hC := (HI.out.mem _ (List.mem_of_getElem? hp)) n₀ _ hgy (Nat.le_trans hn HM2.out.bl.size)
          obtain ⟨yk, yb, yn, yt, yka, ykl, ykc, yla, yll, ylc, yks⟩ := y
          obtain ⟨c0, c1, c2, c3, c4, c5⟩ := hcs
          simp only at c0 c1 c2 c3 c4 c5
          simp only [Nd.val, szV] at hC
          have hnext : SzI (a + szN (Nd.pre 1 ⟨yk, yb, yn, yt, yka, ykl, ykc, yla, yll, ylc, yks⟩ cy)) (max d (szD (Nd.pre 1 ⟨yk, yb, yn, yt, yka, ykl, ykc, yla, yll, ylc, yks⟩ cy))) (e + bytesL (Nd.pre 1 ⟨yk, yb, yn, yt, yka, ykl, ykc, yla, yll, ylc, yks⟩ cy)) (max g (szL (Nd.pre 1 ⟨yk, yb, yn, yt, yka, ykl, ykc, yla, yll, ylc, yks⟩ cy))) ⟨k, b, n, t, ka, i, kc, some ⟨b2, o2, none⟩, ll, lc, ks⟩ (c.toL.take (j + 1)) := by
            have ht : c.toL.take (j + 1) = c.toL.take j ++ [(⟨yk, yb, yn, yt, yka, ykl, ykc, yla, yll, ylc, yks⟩, cy)] := by rw [List.take_add_one, hp]; rfl
            rw [ht]
            refine ⟨?_, ?_, ?_, ?_⟩
            · rw [preL_snoc, HZ.out.n]; simp only [szN, List.length_append]; omega
            · rw [preL_snoc, szD_app, HZ.out.d]
            · rw [preL_snoc, bytesL_append, HZ.out.b]; simp only; omega
            · rw [preL_snoc, szL_app, HZ.out.l]; simp only; omega
          have hle : a + szN (Nd.pre 1 ⟨yk, yb, yn, yt, yka, ykl, ykc, yla, yll, ylc, yks⟩ cy) ≤ 1048576 ∧ e + bytesL (Nd.pre 1 ⟨yk, yb, yn, yt, yka, ykl, ykc, yla, yll, ylc, yks⟩ cy) ≤ 1099511627776 := by
            have h1 := hnext.n
            have h2 := hnext.b
            have h3 : ∃ q, c.pre 1 = preL 1 (c.toL.take (j + 1)) ++ q := by
              exact ⟨preL 1 (c.toL.drop (j + 1)), by rw [← preL_toL]; exact preL_split 1 (j + 1) _⟩
            obtain ⟨q, hq⟩ := h3
            have h4 := HN.out; have h5 := HB.out; have h6 := HSZ.out
            rw [hq, bytesL_append] at h5
            rw [hq] at h4
            simp only [szN, List.length_append] at h1 h4 h5 h6 ⊢
            simp only at h2
            omega
          have HC := Lib.hid hC
          have HNX := Lib.hid hnext
          clear hC hp hgy hgv hnext
          generalize szN (Nd.pre 1 ⟨yk, yb, yn, yt, yka, ykl, ykc, yla, yll, ylc, yks⟩ cy) = a1 at *
          generalize szD (Nd.pre 1 ⟨yk, yb, yn, yt, yka, ykl, ykc, yla, yll, ylc, yks⟩ cy) = d1 at *
          generalize bytesL (Nd.pre 1 ⟨yk, yb, yn, yt, yka, ykl, ykc, yla, yll, ylc, yks⟩ cy) = e1 at *
          generalize szL (Nd.pre 1 ⟨yk, yb, yn, yt, yka, ykl, ykc, yla, yll, ylc, yks⟩ cy) = g1 at *
          obtain ⟨hle1, hle2⟩ := hle
          go_wp2_with (go_at_call 38; refine HC.out.mono ?_; rintro e w4 ⟨rfl, hb4⟩)
          all_goals go_roundg (ll - (j + 1))
          all_goals (try (case measure => omega))
          all_goals (try (case rel => exact ⟨j + 1, a + a1, max d d1, e + e1, max g g1, by go_num, by first | rfl | exact congrArg _ (imax _ _) | go_num, by go_num, by first | rfl | exact congrArg _ (imax _ _) | go_num, by go_num, rfl, by omega, HM2.out.next hb4, HNX.out⟩))
        · have hjl : j = ll := by omega
          subst hjl
          have HE : Hid (N = a ∧ D = d + 1 ∧ B = e ∧ L = g) := by
            have h0 := HZ.out
            rw [List.take_of_length_le (by rw [Fo.len_toL, ← HLLL.out]; omega)] at h0
            have h1 := h0.n; have h2 := h0.d; have h3 := h0.b; have h4 := h0.l
            rw [preL_toL] at h1 h2 h3 h4
            have g1 := HN.out; have g2 := HD.out; have g3 := HB.out; have g4 := HL.out
            simp only at h3 h4 g3 g4
            unfold Hid; omega
          have hd1 : d ≤ 1048577 := by have := HE.out; have := HSZ.out; omega
          go_wp2
          exact bodyPost_ret (v := .tuple #[.int .i64 (N : Nat), .int .i64 (D : Nat), .int .i64 (B : Nat), .int .i64 (L : Nat)]) (by obtain ⟨rfl, rfl, rfl, rfl⟩ := HE.out; simp [results, Tryd.results38, go_sem]) rfl ⟨rfl, HM2.out.bl⟩
end Go.Proofs.YtlokoepljmlcgaaDoor
