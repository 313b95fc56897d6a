/-
  THE WALKS of the document's Print and Same.
-/
import Derived.Test.YtimhhacfjgbomaaGreatDoorRmay
import Derived.Test.YtimhhacfjgbomaaGreatDoorBackP
namespace Go.Proofs.YtimhhacfjgbomaaGreatDoor
set_option linter.unusedSimpArgs false
set_option linter.unusedVariables false
open Go.RowKit Go.Shelf

set_option maxHeartbeats 4000000 in
set_option maxRecDepth 100000 in
theorem rprint_any {n₀ : Nat} {a : Option Addr} {l : List Gw} (n cap : Nat) (w : World) (h : Gws w a l) (hn : n = l.length) (hs : Short l) (hN : ∀ g ∈ l, g.n < 18446744073709551616) (hlen : ((l.map Gw.tell).map fun x => x.length + 1).sum ≤ 549755813888) (hm : n ≤ 1099511627776) (hE : Env n₀ w) :
    Calls Tryz.prog 28 #[.slice a n cap] w fun e w' => e = .returned (.tuple #[.string ⟨(printL l).1.toArray⟩, .int .i64 (printL l).2]) ∧ Below w.heap.size w w' := by
  have hA : printL l = if l.any (fun g => !g.may) then ([], 2) else if 1048576 < (joinL (l.map Gw.tell)).length then ([], 3) else (joinL (l.map Gw.tell), 0) := rfl
  have HG := Lib.hid h
  have HL := Lib.hid hn
  have HS := Lib.hid hs
  have HE := Lib.hid hE
  have HNN := Lib.hid hN
  have HLE := Lib.hid hlen
  have HA := Lib.hid hA
  clear h hn hs hE hN hlen hA
  generalize printL l = ANS at *
  go_enter Tryz.func28, Tryz.ntmps28
  go_wp2_with fail
  go_loopg [4, 5] n (fun gk u v wr => ∃ (j : Nat) (T : ByteArray), gk = n - j ∧ u = .string T ∧ v = .int .i64 j ∧ j ≤ n ∧ T.data.toList = joinL ((l.take j).map Gw.tell) ∧ (l.take j).any (fun g => !g.may) = false ∧ Below w.heap.size w wr)
  case atStart => exact ⟨0, ⟨#[]⟩, rfl, rfl, rfl, by omega, rfl, rfl, Below.refl _ _⟩
  case round =>
    obtain ⟨j, T, rfl, rfl, rfl, hj, hT, hq, hb⟩ := hrel
    have HT := Lib.hid hT
    have HQ := Lib.hid hq
    have hjl := join_take l j
    have hTs : T.size ≤ 549755813888 := by rw [← sz, hT]; exact Nat.le_trans hjl HLE.out
    clear hT hq hjl
    by_cases hlt : j < n
    · obtain ⟨g, p, o, hg, rfl, hat⟩ := (HG.out.below hb).get (i := j) (by rw [← HL.out]; exact hlt)
      have HGM := Lib.hid (List.mem_of_getElem? hg)
      have HJ := Lib.hid (join_next hg)
      have hM := rmay_any g wr (HS.out g HGM.out)
      have HQN : Hid ((l.take (j + 1)).any (fun g => !g.may) = !g.may) := Lib.hid (by
        rw [List.take_add_one, hg, List.any_append, HQ.out]; simp)
      have hatB := hat
      obtain ⟨c0, c1, c2, c3⟩ := hat
      cases hmay : g.may with
      | false =>
        rw [hmay] at hM
        have HM := Lib.hid hM
        have HB : Hid (ANS = ([], 2)) := Lib.hid (by
          have : l.any (fun g => !g.may) = true := List.any_eq_true.2 ⟨g, HGM.out, by rw [hmay]; rfl⟩
          rw [HA.out, this, if_pos rfl])
        clear hM hmay hg HQN hatB HA
        obtain ⟨A1, A2⟩ := ANS
        obtain ⟨rfl, rfl⟩ : A1 = [] ∧ A2 = 2 := by have := HB.out; cases this; exact ⟨rfl, rfl⟩
        go_wp2_with (go_at_call 54; refine HM.out.mono ?_; rintro e w1 ⟨rfl, hb1⟩)
        exact bodyPost_ret (v := .tuple #[.string ⟨#[]⟩, .int .i64 2]) (by simp [results, Tryz.results28, go_sem]) rfl ⟨rfl, hb.trans (hb1.mono hb.size)⟩
      | true =>
        rw [hmay] at hM HQN
        have HM := Lib.hid hM
        have hto := rtold_may hmay
        have HTO : Hid (∀ V, Env n₀ V → Calls Tryz.prog 44 #[.agg #[.int .i64 g.k, .int .i64 g.p, .string g.t, .int .u64 g.n]] V fun e w' => e = .returned (.string ⟨g.tell.toArray⟩) ∧ Below V.heap.size V w') := Lib.hid fun V hV => by
          have := rtold_any g V (HS.out g HGM.out) (HNN.out g HGM.out) hV
          rw [hto] at this
          exact this
        have hts : g.tell.length ≤ 549755813888 := Nat.le_trans (Nat.le_trans (mem_sum_len HGM.out) (Nat.le_refl _)) HLE.out
        obtain ⟨S, hS⟩ : ∃ S : ByteArray, (⟨g.tell.toArray⟩ : ByteArray) = S := ⟨_, rfl⟩
        have HSL : Hid (S.data.toList = g.tell) := Lib.hid (by rw [← hS])
        have hSs : S.size ≤ 549755813888 := by rw [← sz, HSL.out]; exact hts
        rw [hS] at HTO
        have HAT := Lib.hid hatB
        clear hM hmay hg hatB hto hts hS
        by_cases h0 : j = 0
        · have HJ0 : Hid ((T ++ S).data.toList = joinL ((l.take (j + 1)).map Gw.tell)) := Lib.hid (by
            rw [HJ.out, if_pos h0, List.nil_append]
            have e : (T ++ S).data.toList = T.data.toList ++ S.data.toList := by simp
            rw [e, HT.out, HSL.out])
          have hz : ¬ ((j : Int) > 0) := by omega
          have k1 : ¬ 9223372036854775807 < T.size + S.size := by omega
          clear h0
          go_wp2_with (first
            | (go_at_call 54; refine HM.out.mono ?_; rintro e w1 ⟨rfl, hb1⟩; obtain ⟨d0, d1, d2, d3⟩ := HAT.out.below hb1; have HB1 := Lib.hid (hb.trans (hb1.mono hb.size)); have E1 := Lib.hid (HE.out.below HB1.out))
            | (go_at_call 44; refine (HTO.out _ E1.out).mono ?_; rintro e w2 ⟨rfl, hb2⟩))
          go_roundg (n - (j + 1))
          case measure => omega
          case rel => exact ⟨j + 1, _, rfl, rfl, rfl, hlt, HJ0.out, HQN.out, HB1.out.trans (hb2.mono HB1.out.size)⟩
        · have HJ0 : Hid ((T ++ ⟨#[32]⟩ ++ S).data.toList = joinL ((l.take (j + 1)).map Gw.tell)) := Lib.hid (by
            rw [HJ.out, if_neg h0]
            have e : (T ++ (⟨#[32]⟩ : ByteArray) ++ S).data.toList = T.data.toList ++ ([32] ++ S.data.toList) := by simp
            rw [e, HT.out, HSL.out])
          have hz : (j : Int) > 0 := by omega
          have k1 : ¬ 9223372036854775807 < T.size + 1 := by omega
          have k2 : ¬ 9223372036854775807 < T.size + 1 + S.size := by omega
          clear h0
          go_wp2_with (first
            | (go_at_call 54; refine HM.out.mono ?_; rintro e w1 ⟨rfl, hb1⟩; obtain ⟨d0, d1, d2, d3⟩ := HAT.out.below hb1; have HB1 := Lib.hid (hb.trans (hb1.mono hb.size)); have E1 := Lib.hid (HE.out.below HB1.out))
            | (go_at_call 44; refine (HTO.out _ E1.out).mono ?_; rintro e w2 ⟨rfl, hb2⟩))
          go_roundg (n - (j + 1))
          case measure => omega
          case rel => exact ⟨j + 1, _, rfl, rfl, rfl, hlt, HJ0.out, HQN.out, HB1.out.trans (hb2.mono HB1.out.size)⟩
    · obtain rfl : j = n := by omega
      have hA := HA.out
      have h1 := HQ.out
      have h2 := HT.out
      rw [List.take_of_length_le (by rw [← HL.out]; exact Nat.le_refl _)] at h1 h2
      rw [h1, if_neg (by decide), ← h2, sz] at hA
      clear h1 h2 HA
      by_cases hlong : 1048576 < T.size
      · rw [if_pos hlong] at hA
        have hz : (T.size : Int) > 1048576 := by omega
        subst hA
        clear hlong
        go_wp2_with fail
        exact bodyPost_ret (v := .tuple #[.string ⟨#[]⟩, .int .i64 3]) (by simp [results, Tryz.results28, go_sem]) rfl ⟨rfl, hb⟩
      · rw [if_neg hlong] at hA
        have hz : ¬ (T.size : Int) > 1048576 := by omega
        subst hA
        clear hlong
        go_wp2_with fail
        exact bodyPost_ret (v := .tuple #[.string T, .int .i64 0]) (by simp [results, Tryz.results28, go_sem]) rfl ⟨rfl, hb⟩

set_option maxHeartbeats 8000000 in
set_option maxRecDepth 100000 in
theorem rsame_any {a b : Option Addr} {l k : List Gw} (n cap n' cap' : Nat) (w : World) (h : Gws w a l) (h' : Gws w b k) (hn : n = l.length) (hn' : n' = k.length) (hm : n ≤ 1099511627776) :
    Calls Tryz.prog 30 #[.slice a n cap, .slice b n' cap'] w fun e w' => e = .returned (.bool (sameL l k)) ∧ Below w.heap.size w w' := by
  by_cases hne : n = n'
  · subst hne
    have HG := Lib.hid h
    have HK := Lib.hid h'
    have HL := Lib.hid hn
    have HL' := Lib.hid hn'
    clear h h' hn hn'
    go_enter Tryz.func30, Tryz.ntmps30
    go_wp2_with fail
    go_loopg [5] n (fun gk v wr => ∃ j : Nat, gk = n - j ∧ v = .int .i64 j ∧ j ≤ n ∧ sameL (l.take j) (k.take j) = true ∧ Below w.heap.size w wr)
    case atStart => exact ⟨0, rfl, rfl, by omega, by simp [sameL], Below.refl _ _⟩
    case round =>
      obtain ⟨j, rfl, rfl, hj, hq, hb⟩ := hrel
      have HQ := Lib.hid hq
      clear hq
      rcases Nat.lt_or_ge j n with hlt | hge
      · obtain ⟨x, p, o, hx, rfl, hat⟩ := (HG.out.below hb).get (i := j) (by rw [← HL.out]; exact hlt)
        obtain ⟨y, p', o', hy, rfl, hat'⟩ := (HK.out.below hb).get (i := j) (by rw [← HL'.out]; exact hlt)
        have HT := Lib.hid (sameL_take l k j HQ.out x y hx hy)
        have HBR := Lib.hid (sameL_break l k j (by rw [← HL.out, ← HL'.out]) x y hx hy)
        obtain ⟨c0, c1, c2, c3⟩ := hat
        obtain ⟨d0, d1, d2, d3⟩ := hat'
        obtain ⟨xk, xp, xt, xn⟩ := x
        obtain ⟨yk, yp, yt, yn⟩ := y
        simp only at c0 c1 c2 c3 d0 d1 d2 d3
        have HBL := Lib.hid hb
        have hsame : Gw.same ⟨xk, xp, xt, xn⟩ ⟨yk, yp, yt, yn⟩ = (decide (xk = yk) && (decide (xt = yt) && decide (xn = yn))) := rfl
        rw [hsame] at HT HBR
        clear hx hy hb hsame
        by_cases h1 : xk = yk
        · subst h1
          by_cases h2 : xt = yt
          · subst h2
            by_cases h3 : xn = yn
            · subst h3
              have HT2 : Hid (sameL (l.take (j + 1)) (k.take (j + 1)) = true) := Lib.hid (by rw [HT.out]; simp)
              clear HT HBR
              go_wp2_with fail
              go_quiet (fail)
              go_wp2_with fail
              go_roundg (n - (j + 1))
              case measure => omega
              case rel => exact ⟨j + 1, rfl, rfl, hlt, HT2.out, bdrewN HBL.out _⟩
            · have HA : Hid (sameL l k = false) := Lib.hid (HBR.out (by simp [h3]))
              have u1 : ((xn : Int) != (yn : Int)) = true := by simp; omega
              clear HT HBR h3
              go_wp2_with fail
              go_quiet (fail)
              go_wp2_with fail
              go_ret
              exact ⟨retB HA.out.symm, bdrewN HBL.out _⟩
          · have HA : Hid (sameL l k = false) := Lib.hid (HBR.out (by simp [h2]))
            have u1 : ¬ xt.toList = yt.toList := by rw [ByteArray.toList_eq, ByteArray.toList_eq]; exact fun e => h2 (ba_ext e)
            have u2 : (xt.toList == yt.toList) = false := by simp [u1]
            have u3 : (xt.toList != yt.toList) = true := by simp [u1]
            clear HT HBR h2
            go_wp2_with fail
            go_quiet (fail)
            go_wp2_with fail
            go_ret
            exact ⟨retB HA.out.symm, bdrewN HBL.out _⟩
        · have HA : Hid (sameL l k = false) := Lib.hid (HBR.out (by simp [h1]))
          have u1 : (xk != yk) = true := by simp [h1]
          clear HT HBR h1
          go_wp2_with fail
          go_quiet (fail)
          go_wp2_with fail
          go_ret
          exact ⟨retB HA.out.symm, bdrewN HBL.out _⟩
      · have HA : Hid (sameL l k = true) := Lib.hid (by
          have := HQ.out
          rw [List.take_of_length_le (by rw [← HL.out]; exact hge), List.take_of_length_le (by rw [← HL'.out]; exact hge)] at this
          exact this)
        clear HQ
        go_wp2_with fail
        go_ret
        exact ⟨retB HA.out.symm, hb⟩
  · have HA : Hid (sameL l k = false) := Lib.hid (sameL_ne (by rw [← hn, ← hn']; exact hne))
    have hz : ((n : Int) != (n' : Int)) = true := by simp; omega
    clear h h' hn hn' hne
    go_enter Tryz.func30, Tryz.ntmps30
    go_wp2_with fail
    go_ret
    exact ⟨retB HA.out.symm, Below.refl _ _⟩
end Go.Proofs.YtimhhacfjgbomaaGreatDoor
