/-
  THE WALK of WordsBack.
-/
import Derived.Test.YtimhhacfjgbomaaGreatDoorLawC
import Derived.Test.YtimhhacfjgbomaaGreatDoorSmall
import Derived.Test.YtimhhacfjgbomaaGreatDoorBackP
namespace Go.Proofs.YtimhhacfjgbomaaGreatDoor
set_option linter.unusedSimpArgs false
set_option linter.unusedVariables false
open Go.RowKit Go.Shelf

/-- Print, as the laws call it. -/
theorem printg_any {n₀ : Nat} {a : Option Addr} {l : List Gw} {T : List UInt8} {E : Nat} (n cap : Nat) (w : World) (h : Gws w a l) (hn : n = l.length) (hp : Prn l) (hm : n ≤ 1099511627776) (hA : printL l = (T, E)) (hE : Env n₀ w) :
    Calls Tryz.prog 26 #[.slice a n cap] w fun e w' => e = .returned (.tuple #[.string ⟨T.toArray⟩, .int .i64 E]) ∧ Below w.heap.size w w' := by
  have := print_any n cap w h hn hp.t hp.n hp.sum hm hE
  rw [hA] at this
  exact this
theorem lex_list {T : List UInt8} {k : List (Wd × Nat)} (hs : T.length ≤ 1048576) (h : scan T 0 = (k, none)) : lexL ⟨T.toArray⟩ = (k, 0, 0) := by
  have e := lexL_none (s := ⟨T.toArray⟩) hs (by show (scan T 0).2 = none; rw [h])
  rw [e]
  show ((scan T 0).1, 0, 0) = _
  rw [h]

set_option maxHeartbeats 8000000 in
set_option maxRecDepth 100000 in
theorem back_walk {a : Option Addr} {l : List Gw} (n cap : Nat) (x : ByteArray) (W : World) (hl : Gws W a l) (hn : n = l.length) (hf : ∀ g ∈ l, g.n < 18446744073709551616) (hL : Laid W) :
    Calls Tryz.prog 9 #[.slice a n cap, .string x] W fun e W' => e = .returned (.bool true) ∧ Below W.heap.size W W' := by
  have HE := Lib.hid (Env.start hL)
  have HW : Hid (∀ V, Env W.heap.size V → Calls Tryz.prog 11 #[] V fun e w' => e = .returned (.bool true) ∧ Below V.heap.size V w') := Lib.hid fun V h => works_any V h
  have H0 := Lib.hid (small_any n cap W hl hn)
  have HG := Lib.hid hl
  have HN := Lib.hid hn
  have HF := Lib.hid hf
  clear hL hl hn hf
  go_enter Tryz.func9, Tryz.ntmps9
  go_wp2_with (go_at_call 27; refine H0.out.mono ?_)
  rintro e w1 ⟨⟨b, rfl, hb⟩, rfl⟩
  cases b with
  | false =>
    go_wp2_with (go_at_call 11; refine (HW.out _ HE.out).mono ?_; rintro e w' ⟨rfl, hb⟩)
    go_ret
    exact ⟨rfl, hb⟩
  | true =>
    have hsm := hb rfl
    clear hb H0
    by_cases hx : 4000 < x.size
    · have hz : (x.size : Int) > 4000 := by omega
      clear hx
      go_wp2_with (go_at_call 11; refine (HW.out _ HE.out).mono ?_; rintro e w' ⟨rfl, hb⟩)
      go_ret
      exact ⟨rfl, hb⟩
    · have hz : ¬ (x.size : Int) > 4000 := by omega
      have hx4 : x.size ≤ 4000 := by omega
      clear hx
      have hn200 : n ≤ 200 := by have := HN.out; have := hsm.1; omega
      have hprn := prn_small hsm.1 hsm.2 hsm.short HF.out
      have hps := print_small hsm.1 hsm.2 HF.out
      have HPR := Lib.hid hprn
      clear hprn
      rcases hps with ⟨hm, hpl, hlen⟩ | hpl
      · obtain ⟨k, hk, hsame⟩ := back_words hm
        generalize joinL (l.map Gw.tell) = T at *
        have HP := Lib.hid (printg_any n cap W HG.out HN.out HPR.out (by omega) hpl HE.out)
        have hkl := scan_count T
        rw [hk] at hkl
        have hlx := lex_list (by omega) hk
        have HX : Hid (∀ V, Env W.heap.size V → Calls Tryz.prog 12 #[.string ⟨T.toArray⟩] V (LexQ (k, 0, 0) V)) := Lib.hid fun V h => by
          have := lexg_any (n₀ := W.heap.size) ⟨T.toArray⟩ V (by show T.length ≤ _; omega) h
          rw [hlx] at this
          exact this
        have HS := Lib.hid hsame
        clear hm hpl hk hlx hsame hsm hlen hkl
        go_wp2_with (go_at_call 26; refine HP.out.mono ?_)
        rintro e w2 ⟨rfl, hb2⟩
        have E2 := Lib.hid (HE.out.below hb2)
        go_wp2_with (first | (go_at_call 14; refine (num_any _ _).mono ?_; rintro e w' ⟨rfl, rfl⟩))
        refine (HX.out _ E2.out).mono ?_
        rintro e w3 ⟨a3, c3, rfl, g3, hb3⟩
        have hb4 := hb2.trans (hb3.mono hb2.size)
        have E3 := Lib.hid (HE.out.below hb4)
        have G3 : Hid (Gws w3 a3 (k.map gwOf)) := Lib.hid g3
        have HB4 := Lib.hid hb4
        clear g3 hb2 hb3 hb4
        go_wp2_with (first
          | (go_at_call 29; refine (same_any (l := l) (k := k.map gwOf) n cap k.length c3 w3 (HG.out.below HB4.out) G3.out HN.out (by simp) (by omega)).mono ?_; rintro e w4 ⟨rfl, hb5⟩; rw [HS.out]; have HB5 := Lib.hid (HB4.out.trans (hb5.mono HB4.out.size)); clear hb5)
          | (go_at_call 14; refine (num_any _ _).mono ?_; rintro e w' ⟨rfl, rfl⟩))
        have E5 := Lib.hid (HE.out.below HB5.out)
        generalize (⟨T.toArray⟩ : ByteArray) = TB at *
        cases hsc : (scan x.data.toList 0).2 with
        | some m =>
          have h6 := lexg_any (n₀ := W.heap.size) x w4 (by omega) E5.out
          rw [lexL_some (by omega) hsc] at h6
          have H6 := Lib.hid h6
          clear h6 hsc
          refine H6.out.mono ?_
          rintro e w5 ⟨a5, c5, rfl, _, hb6⟩
          have hb7 := HB5.out.trans (hb6.mono HB5.out.size)
          have E6 := Lib.hid (HE.out.below hb7)
          go_wp2_with (first
            | (go_at_call 14; refine (num_any _ _).mono ?_; rintro e w' ⟨rfl, rfl⟩)
            | (go_at_call 11; refine (HW.out _ E6.out).mono ?_; rintro e w' ⟨rfl, hb⟩))
          go_ret
          exact ⟨rfl, hb7.trans (hb.mono hb7.size)⟩
        | none =>
          have h6 := lexg_any (n₀ := W.heap.size) x w4 (by omega) E5.out
          rw [lexL_none (by omega) hsc] at h6
          obtain ⟨T2, again, q1, q2, q3, q4, q5, q6, q7, q8, q9⟩ := back_read (by rw [sz]; exact hx4) hsc
          generalize (scan x.data.toList 0).1 = k2 at *
          have hlx2 := lex_list (by omega) q3
          have HX2 : Hid (∀ V, Env W.heap.size V → Calls Tryz.prog 12 #[.string ⟨T2.toArray⟩] V (LexQ (again, 0, 0) V)) := Lib.hid fun V h => by
            have := lexg_any (n₀ := W.heap.size) ⟨T2.toArray⟩ V (by show T2.length ≤ _; omega) h
            rw [hlx2] at this
            exact this
          have H6 := Lib.hid h6
          have Q1 := Lib.hid q1
          have Q4 := Lib.hid q4
          have Q5 := Lib.hid q5
          have Q6 := Lib.hid q6
          have Q7 := Lib.hid q7
          clear h6 hsc hlx2 q1 q2 q3 q4 q5 q6 q7
          generalize hTB : (⟨T2.toArray⟩ : ByteArray) = TB2 at *
          have HTB := Lib.hid hTB
          clear hTB
          refine H6.out.mono ?_
          rintro e w5 ⟨a5, c5, rfl, g5, hb6⟩
          have G5 : Hid (Gws w5 a5 (k2.map gwOf)) := Lib.hid g5
          have HB7 := Lib.hid (HB5.out.trans (hb6.mono HB5.out.size))
          have E6 := Lib.hid (HE.out.below HB7.out)
          clear g5 hb6 H6 HB5 E5
          go_wp2_with (first | (go_at_call 14; refine (num_any _ _).mono ?_; rintro e w' ⟨rfl, rfl⟩))
          refine (printg_any (l := k2.map gwOf) k2.length c5 w5 G5.out (by simp) Q6.out (by omega) Q1.out E6.out).mono ?_
          rintro e w6 ⟨rfl, hb8⟩
          rw [HTB.out]
          have G6 := Lib.hid (G5.out.below hb8)
          have HB8 := Lib.hid (HB7.out.trans (hb8.mono HB7.out.size))
          have E7 := Lib.hid (HE.out.below HB8.out)
          clear hb8 G5 HB7 E6
          go_wp2_with fail
          refine (HX2.out _ E7.out).mono ?_
          rintro e w7 ⟨a7, c7, rfl, g7, hb9⟩
          have G7 : Hid (Gws w7 a7 (again.map gwOf)) := Lib.hid g7
          have G8 := Lib.hid (G6.out.below hb9)
          have HB9 := Lib.hid (HB8.out.trans (hb9.mono HB8.out.size))
          have E8 := Lib.hid (HE.out.below HB9.out)
          clear g7 hb9 G6 HB8 E7
          go_wp2_with fail
          refine (printg_any (l := again.map gwOf) again.length c7 w7 G7.out (by simp) Q7.out (by omega) Q5.out E8.out).mono ?_
          rintro e w8 ⟨rfl, hb10⟩
          rw [HTB.out]
          have G9 := Lib.hid (G7.out.below hb10)
          have G10 := Lib.hid (G8.out.below hb10)
          have HB10 := Lib.hid (HB9.out.trans (hb10.mono HB9.out.size))
          have E9 := Lib.hid (HE.out.below HB10.out)
          clear hb10 G7 G8 HB9 E8
          go_wp2_with (first
            | (go_at_call 14; refine (num_any _ _).mono ?_; rintro e w' ⟨rfl, rfl⟩)
            | (go_at_call 29; refine (same_any (l := k2.map gwOf) (k := again.map gwOf) k2.length c5 again.length c7 w8 G10.out G9.out (by simp) (by simp) (by omega)).mono ?_; rintro e w9 ⟨rfl, hb11⟩; rw [Q4.out]; have HB11 := Lib.hid (HB10.out.trans (hb11.mono HB10.out.size)); have E10 := Lib.hid (HE.out.below HB11.out); clear hb11)
            | (go_at_call 11; refine (HW.out _ E10.out).mono ?_; rintro e w' ⟨rfl, hb⟩))
          go_ret
          exact ⟨rfl, HB11.out.trans (hb.mono HB11.out.size)⟩
      · have HP := Lib.hid (printg_any n cap W HG.out HN.out HPR.out (by omega) hpl HE.out)
        clear hpl hsm
        go_wp2_with (go_at_call 26; refine HP.out.mono ?_)
        rintro e w4 ⟨rfl, hb2⟩
        have HB5 := Lib.hid hb2
        have E5 := Lib.hid (HE.out.below hb2)
        clear hb2
        go_wp2_with (first | (go_at_call 14; refine (num_any _ _).mono ?_; rintro e w' ⟨rfl, rfl⟩))
        cases hsc : (scan x.data.toList 0).2 with
        | some m =>
          have h6 := lexg_any (n₀ := W.heap.size) x w4 (by omega) E5.out
          rw [lexL_some (by omega) hsc] at h6
          have H6 := Lib.hid h6
          clear h6 hsc
          refine H6.out.mono ?_
          rintro e w5 ⟨a5, c5, rfl, _, hb6⟩
          have hb7 := HB5.out.trans (hb6.mono HB5.out.size)
          have E6 := Lib.hid (HE.out.below hb7)
          go_wp2_with (first
            | (go_at_call 14; refine (num_any _ _).mono ?_; rintro e w' ⟨rfl, rfl⟩)
            | (go_at_call 11; refine (HW.out _ E6.out).mono ?_; rintro e w' ⟨rfl, hb⟩))
          go_ret
          exact ⟨rfl, hb7.trans (hb.mono hb7.size)⟩
        | none =>
          have h6 := lexg_any (n₀ := W.heap.size) x w4 (by omega) E5.out
          rw [lexL_none (by omega) hsc] at h6
          obtain ⟨T2, again, q1, q2, q3, q4, q5, q6, q7, q8, q9⟩ := back_read (by rw [sz]; exact hx4) hsc
          generalize (scan x.data.toList 0).1 = k2 at *
          have hlx2 := lex_list (by omega) q3
          have HX2 : Hid (∀ V, Env W.heap.size V → Calls Tryz.prog 12 #[.string ⟨T2.toArray⟩] V (LexQ (again, 0, 0) V)) := Lib.hid fun V h => by
            have := lexg_any (n₀ := W.heap.size) ⟨T2.toArray⟩ V (by show T2.length ≤ _; omega) h
            rw [hlx2] at this
            exact this
          have H6 := Lib.hid h6
          have Q1 := Lib.hid q1
          have Q4 := Lib.hid q4
          have Q5 := Lib.hid q5
          have Q6 := Lib.hid q6
          have Q7 := Lib.hid q7
          clear h6 hsc hlx2 q1 q2 q3 q4 q5 q6 q7
          generalize hTB : (⟨T2.toArray⟩ : ByteArray) = TB2 at *
          have HTB := Lib.hid hTB
          clear hTB
          refine H6.out.mono ?_
          rintro e w5 ⟨a5, c5, rfl, g5, hb6⟩
          have G5 : Hid (Gws w5 a5 (k2.map gwOf)) := Lib.hid g5
          have HB7 := Lib.hid (HB5.out.trans (hb6.mono HB5.out.size))
          have E6 := Lib.hid (HE.out.below HB7.out)
          clear g5 hb6 H6 HB5 E5
          go_wp2_with (first | (go_at_call 14; refine (num_any _ _).mono ?_; rintro e w' ⟨rfl, rfl⟩))
          refine (printg_any (l := k2.map gwOf) k2.length c5 w5 G5.out (by simp) Q6.out (by omega) Q1.out E6.out).mono ?_
          rintro e w6 ⟨rfl, hb8⟩
          rw [HTB.out]
          have G6 := Lib.hid (G5.out.below hb8)
          have HB8 := Lib.hid (HB7.out.trans (hb8.mono HB7.out.size))
          have E7 := Lib.hid (HE.out.below HB8.out)
          clear hb8 G5 HB7 E6
          go_wp2_with fail
          refine (HX2.out _ E7.out).mono ?_
          rintro e w7 ⟨a7, c7, rfl, g7, hb9⟩
          have G7 : Hid (Gws w7 a7 (again.map gwOf)) := Lib.hid g7
          have G8 := Lib.hid (G6.out.below hb9)
          have HB9 := Lib.hid (HB8.out.trans (hb9.mono HB8.out.size))
          have E8 := Lib.hid (HE.out.below HB9.out)
          clear g7 hb9 G6 HB8 E7
          go_wp2_with fail
          refine (printg_any (l := again.map gwOf) again.length c7 w7 G7.out (by simp) Q7.out (by omega) Q5.out E8.out).mono ?_
          rintro e w8 ⟨rfl, hb10⟩
          rw [HTB.out]
          have G9 := Lib.hid (G7.out.below hb10)
          have G10 := Lib.hid (G8.out.below hb10)
          have HB10 := Lib.hid (HB9.out.trans (hb10.mono HB9.out.size))
          have E9 := Lib.hid (HE.out.below HB10.out)
          clear hb10 G7 G8 HB9 E8
          go_wp2_with (first
            | (go_at_call 14; refine (num_any _ _).mono ?_; rintro e w' ⟨rfl, rfl⟩)
            | (go_at_call 29; refine (same_any (l := k2.map gwOf) (k := again.map gwOf) k2.length c5 again.length c7 w8 G10.out G9.out (by simp) (by simp) (by omega)).mono ?_; rintro e w9 ⟨rfl, hb11⟩; rw [Q4.out]; have HB11 := Lib.hid (HB10.out.trans (hb11.mono HB10.out.size)); have E10 := Lib.hid (HE.out.below HB11.out); clear hb11)
            | (go_at_call 11; refine (HW.out _ E10.out).mono ?_; rintro e w' ⟨rfl, hb⟩))
          go_ret
          exact ⟨rfl, HB11.out.trans (hb.mono HB11.out.size)⟩
end Go.Proofs.YtimhhacfjgbomaaGreatDoor
