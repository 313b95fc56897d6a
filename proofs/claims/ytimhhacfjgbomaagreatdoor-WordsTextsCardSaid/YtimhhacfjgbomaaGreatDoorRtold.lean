/-
  THE WALKS of the document's Told and Spell.
-/
import Derived.Test.YtimhhacfjgbomaaGreatDoorRquote
import Derived.Test.YtimhhacfjgbomaaGreatDoorRres
namespace Go.Proofs.YtimhhacfjgbomaaGreatDoor
set_option linter.unusedSimpArgs false
set_option linter.unusedVariables false
open Go.RowKit Go.Shelf

/-- What Told answers. -/
def rtoldL (k : Int) (t : List UInt8) (n : Nat) : List UInt8 := if k = 2 then betweenL t else if k = 3 then 39 :: (t.flatMap escB ++ [39]) else if k = 4 then Lib.decDigits n else t
theorem rtold_may {g : Gw} (h : g.may = true) : rtoldL g.k g.t.data.toList g.n = g.tell := by
  unfold rtoldL Gw.tell tellL
  by_cases h3 : g.k = 3
  · rw [if_neg (by omega), if_pos h3, if_neg (by omega), if_pos h3]
    unfold Gw.may mayB at h
    rw [if_neg (by omega), if_neg (by omega), if_pos h3] at h
    simp at h
    unfold quoteL
    rw [if_pos h.2]
  · rw [if_neg h3, if_neg h3]
theorem one_byte (s : ByteArray) (j : Nat) (h : j < s.size) : (s.extract j (j + 1)).data.toList = [s[j]] := by
  rw [extract_take, drop_at h, show j + 1 - j = 1 by omega]
  rfl

set_option maxRecDepth 100000 in
set_option maxHeartbeats 8000000 in
theorem rtold_any {n₀ : Nat} (g : Gw) (w : World) (ht : g.t.size ≤ 1048576) (hn : g.n < 18446744073709551616) (hE : Env n₀ w) :
    Calls Tryz.prog 44 #[.agg #[.int .i64 g.k, .int .i64 g.p, .string g.t, .int .u64 g.n]] w fun e w' => e = .returned (.string ⟨(rtoldL g.k g.t.data.toList g.n).toArray⟩) ∧ Below w.heap.size w w' := by
  obtain ⟨k, p, t, n⟩ := g
  simp only at ht hn ⊢
  have hB4 : Box4 (w.alloc (.cells #[.int .i64 k, .int .i64 p, .string t, .int .u64 n] 33)) w.heap.size k p t n := new_at w _
  obtain ⟨c0, c1, c2, c3⟩ := hB4.cells
  have hb0 := ballocR w (.cells #[.int .i64 k, .int .i64 p, .string t, .int .u64 n] 33)
  have hE0 := hE.below hb0
  have hA : rtoldL k t.data.toList n = if k = 2 then betweenL t.data.toList else if k = 3 then 39 :: (t.data.toList.flatMap escB ++ [39]) else if k = 4 then Lib.decDigits n else t.data.toList := rfl
  generalize rtoldL k t.data.toList n = ANS at *
  by_cases h2 : k = 2
  · subst h2
    rw [if_pos rfl] at hA
    subst hA
    clear hE hE0 hB4
    go_enter Tryz.func44, Tryz.ntmps44
    go_upto_region 4 with (fail)
    generalize w.alloc (.cells #[.int .i64 2, .int .i64 p, .string t, .int .u64 n] 33) = V at *
    have HB0 := Lib.hid hb0
    obtain ⟨bx, hbx⟩ : ∃ b, w.heap.size = b := ⟨_, rfl⟩
    rw [hbx] at c0 c1 c2 c3 ⊢
    clear hbx
    clear hb0
    go_wp2_with fail
    go_loopg [3, 4] t.size (fun gk u v wr => V = wr ∧ ∃ (j : Nat) (T : ByteArray), gk = t.size - j ∧ u = .string T ∧ v = .int .i64 j ∧ j ≤ t.size ∧ T.data.toList = (t.data.toList.take j).flatMap twice)
    case atStart => exact ⟨rfl, 0, ⟨#[]⟩, rfl, rfl, rfl, by omega, rfl⟩
    case round =>
      obtain ⟨rfl, j, T, rfl, rfl, rfl, hj, hq⟩ := hrel
      have HQ := Lib.hid hq
      have hTs : T.size ≤ 2 * t.size := by
        have h1 := (flatTwice_len (t.data.toList.take j)).2
        rw [← hq, List.length_take, sz, sz] at h1
        omega
      clear hq
      by_cases hlt : j < t.size
      · have hT : Hid (∀ T' : ByteArray, T'.data.toList = T.data.toList ++ twice t[j] → T'.data.toList = (t.data.toList.take (j + 1)).flatMap twice) := Lib.hid fun T' e => by
          rw [at_take (by rw [sz]; exact hlt), get_list hlt, e, HQ.out, List.flatMap_append]; simp
        have HX := Lib.hid (one_byte t j hlt)
        have hxs : (t.extract j (j + 1)).size = 1 := by rw [← sz, HX.out]; rfl
        have k1 : ¬ 9223372036854775807 < T.size + (t.extract j (j + 1)).size := by omega
        have k2 : ¬ 9223372036854775807 < T.size + (t.extract j (j + 1)).size + 1 := by omega
        have y1 : IntKind.i64.wrap ((j : Int) + 1) = (j : Int) + 1 := IntWalk.i64_in _ (by omega)
        have y2 : ((j : Int) + 1).toNat = j + 1 := by omega
        have HXS := Lib.hid hxs
        clear hxs
        by_cases hc : t[j] = 96
        · have hz : ((t[j].toNat : Int) == 96) = true := by rw [hc]; rfl
          have HT2 : Hid ((T ++ t.extract j (j + 1) ++ ⟨#[96]⟩).data.toList = (t.data.toList.take (j + 1)).flatMap twice) := Lib.hid (hT.out _ (by
            have e : (T ++ t.extract j (j + 1) ++ (⟨#[96]⟩ : ByteArray)).data.toList = T.data.toList ++ ((t.extract j (j + 1)).data.toList ++ [96]) := by simp
            rw [e, HX.out, hc]; rfl))
          clear hc
          go_wp2_with fail
          go_roundg (t.size - (j + 1))
          case measure => omega
          case rel => exact ⟨rfl, j + 1, _, rfl, rfl, rfl, hlt, HT2.out⟩
        · have hz : ((t[j].toNat : Int) == 96) = false := by
            have : t[j].toNat ≠ 96 := fun e => hc (UInt8.toNat_inj.1 (by rw [e]; rfl))
            simp; omega
          have HT2 : Hid ((T ++ t.extract j (j + 1)).data.toList = (t.data.toList.take (j + 1)).flatMap twice) := Lib.hid (hT.out _ (by
            have e : (T ++ t.extract j (j + 1)).data.toList = T.data.toList ++ (t.extract j (j + 1)).data.toList := by simp
            rw [e, HX.out]; unfold twice; rw [if_neg hc]))
          clear hc
          go_wp2_with fail
          go_roundg (t.size - (j + 1))
          case measure => omega
          case rel => exact ⟨rfl, j + 1, _, rfl, rfl, rfl, hlt, HT2.out⟩
      · obtain rfl : j = t.size := by omega
        have HA : Hid ((⟨#[96]⟩ ++ T) ++ ⟨#[96]⟩ = (⟨(betweenL t.data.toList).toArray⟩ : ByteArray)) := Lib.hid (ba_ext (by
          have h1 := HQ.out
          rw [List.take_of_length_le (by rw [sz]; exact Nat.le_refl _)] at h1
          unfold betweenL
          rw [← h1]; simp))
        have k1 : ¬ 9223372036854775807 < 1 + T.size := by omega
        have k2 : ¬ 9223372036854775807 < 1 + T.size + 1 := by omega
        go_wp2_with fail
        go_ret
        exact ⟨retS HA.out, HB0.out⟩
  · rw [if_neg h2] at hA
    have t2 : (k == 2) = false := by simpa using h2
    by_cases h3 : k = 3
    · subst h3
      rw [if_pos rfl] at hA
      subst hA
      have H := Lib.hid (rquote_any t (w.alloc (.cells #[.int .i64 3, .int .i64 p, .string t, .int .u64 n] 33)) ht)
      clear hE hE0 hB4
      go_enter Tryz.func44, Tryz.ntmps44
      go_wp2_with (go_at_call 76; refine H.out.mono ?_; rintro e w' ⟨rfl, hb⟩)
      go_ret
      exact ⟨rfl, hb0.trans (hb.mono hb0.size)⟩
    · rw [if_neg h3] at hA
      have t3 : (k == 3) = false := by simpa using h3
      by_cases h4 : k = 4
      · subst h4
        rw [if_pos rfl] at hA
        subst hA
        have H := Lib.hid (fmt_any n hn _ hE0)
        clear hE hE0 hB4
        go_enter Tryz.func44, Tryz.ntmps44
        go_wp2_with (go_at_call 77; refine H.out.mono ?_; rintro e w' ⟨rfl, hb⟩)
        go_ret
        exact ⟨rfl, hb0.trans (hb.mono hb0.size)⟩
      · rw [if_neg h4] at hA
        have t4 : (k == 4) = false := by simpa using h4
        have HA := Lib.hid hA
        clear hE hE0 hA hB4
        go_enter Tryz.func44, Tryz.ntmps44
        go_wp2_with fail
        go_ret
        exact ⟨retS (ba_ext HA.out.symm), hb0⟩

set_option maxRecDepth 100000 in
set_option maxHeartbeats 4000000 in
theorem rspell_any {n₀ : Nat} (s : ByteArray) (w : World) (hs : s.size ≤ 1048576) (hE : Env n₀ w) :
    Calls Tryz.prog 23 #[.string s] w fun e w' => e = .returned (.string ⟨(spellL s.data.toList).toArray⟩) ∧ Below w.heap.size w w' := by
  have hN := rname_any s w (by omega)
  have hP := rplain_any s w (by omega)
  have hR := rres_any s w (by omega)
  have hS : spellL s.data.toList = if nameB s.data.toList then (if plainB s.data.toList && !resB s.data.toList then s.data.toList else betweenL s.data.toList) else [] := rfl
  have hpl := plain_ref s.data.toList
  have hT := fun V (h : Env n₀ V) => rtold_any ⟨2, 0, s, 0⟩ V hs (by show (0 : Nat) < _; omega) h
  have HT : Hid (∀ V, Env n₀ V → Calls Tryz.prog 44 #[.agg #[.int .i64 2, .int .i64 0, .string s, .int .u64 0]] V fun e w' => e = .returned (.string ⟨(betweenL s.data.toList).toArray⟩) ∧ Below V.heap.size V w') := Lib.hid hT
  have HE := Lib.hid hE
  clear hT hE
  cases hn : nameB s.data.toList with
  | false =>
    rw [hn] at hN hS
    rw [hS]
    have HN := Lib.hid hN
    clear hN hn hS HT hP hR hpl
    go_enter Tryz.func23, Tryz.ntmps23
    go_wp2_with (go_at_call 19; refine HN.out.mono ?_; rintro e w1 ⟨rfl, rfl⟩)
    go_ret
    exact ⟨rfl, Below.refl _ _⟩
  | true =>
    rw [hn, Bool.and_true] at hpl
    rw [hn, if_pos rfl, hpl] at hS
    rw [hn] at hN
    have HN := Lib.hid hN
    cases hp : rplainB s.data.toList with
    | false =>
      rw [hp] at hP hS
      rw [hS]
      have HP := Lib.hid hP
      clear hN hP hR hpl hS hn hp
      go_enter Tryz.func23, Tryz.ntmps23
      go_wp2_with (first | (go_at_call 19; refine HN.out.mono ?_; rintro e w1 ⟨rfl, rfl⟩) | (go_at_call 43; refine HP.out.mono ?_; rintro e w1 ⟨rfl, rfl⟩) | (go_at_call 44; refine (HT.out _ HE.out).mono ?_; rintro e w1 ⟨rfl, hb⟩))
      go_ret
      exact ⟨rfl, hb⟩
    | true =>
      rw [hp] at hP hS
      have HP := Lib.hid hP
      cases hr : resB s.data.toList with
      | false =>
        rw [hr] at hR hS
        rw [hS]
        have HR := Lib.hid hR
        clear hN hP hR hpl hS hn hp hr
        go_enter Tryz.func23, Tryz.ntmps23
        go_wp2_with (first | (go_at_call 19; refine HN.out.mono ?_; rintro e w1 ⟨rfl, rfl⟩) | (go_at_call 43; refine HP.out.mono ?_; rintro e w1 ⟨rfl, rfl⟩) | (go_at_call 21; refine HR.out.mono ?_; rintro e w1 ⟨rfl, hb⟩))
        go_ret
        exact ⟨rfl, hb⟩
      | true =>
        rw [hr] at hR hS
        rw [hS]
        have HR := Lib.hid hR
        clear hN hP hR hpl hS hn hp hr
        go_enter Tryz.func23, Tryz.ntmps23
        go_wp2_with (first | (go_at_call 19; refine HN.out.mono ?_; rintro e w1 ⟨rfl, rfl⟩) | (go_at_call 43; refine HP.out.mono ?_; rintro e w1 ⟨rfl, rfl⟩) | (go_at_call 21; refine HR.out.mono ?_; rintro e w1 ⟨rfl, hb⟩) | (go_at_call 44; refine (HT.out _ (HE.out.below hb)).mono ?_; rintro e w2 ⟨rfl, hb2⟩))
        go_ret
        exact ⟨rfl, hb.trans (hb2.mono hb.size)⟩
end Go.Proofs.YtimhhacfjgbomaaGreatDoor
