/-
  THE WALK of WordsTexts.
-/
import Derived.Test.YtimhhacfjgbomaaGreatDoorRsome
import Derived.Test.YtimhhacfjgbomaaGreatDoorGoes
namespace Go.Proofs.YtimhhacfjgbomaaGreatDoor
set_option linter.unusedSimpArgs false
set_option linter.unusedVariables false
open Go.RowKit Go.Shelf

theorem lexq_of {r : List (Wd × Nat) × Nat × Nat} {W : World} {e : Ending} {w' : World} (h : SomeQ r W e w') : LexQ r W e w' := by
  obtain ⟨v, h1, h2, h3⟩ := h
  obtain ⟨a, cap, rfl, hg⟩ := gws_owns h2
  exact ⟨a, cap, h1, hg, h3⟩
theorem lexR_len (s : ByteArray) : (lexR s).1.length ≤ s.size := by
  have h := scan_count s.data.toList
  rw [sz] at h
  unfold lexR
  split
  · simp
  · split <;> exact h
theorem lexL_len (s : ByteArray) : (lexL s).1.length ≤ s.size := by
  unfold lexL
  split
  · exact lexR_len s
  · simp

set_option maxHeartbeats 8000000 in
set_option maxRecDepth 100000 in
theorem texts_walk (s : ByteArray) (leave : Int) (W : World) (hL : Laid W) :
    Calls Tryz.prog 3 #[.string s, .int .i64 leave] W fun e W' => e = .returned (.bool true) ∧ Below W.heap.size W W' := by
  have HE := Lib.hid (Env.start hL)
  have HW : Hid (∀ V, Env W.heap.size V → Calls Tryz.prog 11 #[] V fun e w' => e = .returned (.bool true) ∧ Below V.heap.size V w') := Lib.hid fun V h => works_any V h
  clear hL
  by_cases hx : 4000 < s.size
  · have hz : (s.size : Int) > 4000 := by omega
    clear hx
    go_enter Tryz.func3, Tryz.ntmps3
    go_wp2_with (go_at_call 11; refine (HW.out _ HE.out).mono ?_; rintro e w' ⟨rfl, hb⟩)
    go_ret
    exact ⟨rfl, hb⟩
  have hz : ¬ (s.size : Int) > 4000 := by omega
  have X1 : Hid (Calls Tryz.prog 12 #[.string s] W (LexQ (lexL s) W)) := Lib.hid (lexg_any s W (by omega) HE.out)
  have X2 : Hid (∀ V, Calls Tryz.prog 13 #[.string s] V (LexQ (lexL s) V)) := Lib.hid fun V => (rlex_any s V (by omega)).mono fun e w' h => lexq_of h
  have X3 : Hid (∀ V, Calls Tryz.prog 15 #[.string s] V (LexQ (lexR s) V)) := Lib.hid fun V => (rsome_any s V (by omega)).mono fun e w' h => lexq_of h
  have hl1 := lexL_len s
  have hl2 := lexR_len s
  obtain ⟨k, at1, e1, hk⟩ : ∃ k a e, lexL s = (k, a, e) := ⟨_, _, _, rfl⟩
  obtain ⟨L, at2, e2, hR⟩ : ∃ k a e, lexR s = (k, a, e) := ⟨_, _, _, rfl⟩
  rw [hk] at X1 X2 hl1
  rw [hR] at X3 hl2
  have hk4 : k.length ≤ 4000 := by simp only at hl1; omega
  have hL4 : L.length ≤ 4000 := by simp only at hl2; omega
  have HR := Lib.hid hR
  have HSS : Hid (s.size ≤ 4000) := Lib.hid (by omega)
  clear hl1 hl2 hk hR hx
  go_enter Tryz.func3, Tryz.ntmps3
  go_wp2_with fail
  refine X1.out.mono ?_
  rintro e w1 ⟨a1, c1, rfl, g1, hb1⟩
  have HB1 := Lib.hid hb1
  have G1 := Lib.hid g1
  clear g1 hb1 X1
  go_wp2_with fail
  refine (X2.out _).mono ?_
  rintro e w2 ⟨a2, c2, rfl, g2, hb2⟩
  have HB2 := Lib.hid (HB1.out.trans (hb2.mono HB1.out.size))
  have G2 := Lib.hid (show Gws w2 a1 (k.map gwOf) from G1.out.below hb2)
  have G3 := Lib.hid (show Gws w2 a2 (k.map gwOf) from g2)
  clear g2 hb2 X2 G1 HB1
  simp only
  go_wp2_with (go_at_call 14; refine (num_any _ _).mono ?_; rintro e w' ⟨rfl, rfl⟩)
  go_loopg [11] k.length (fun gk v wr => ∃ j : Nat, gk = k.length - j ∧ v = .int .i64 j ∧ j ≤ k.length ∧ Below w2.heap.size w2 wr)
  case atStart => exact ⟨0, rfl, rfl, by omega, Below.refl _ _⟩
  case round =>
    obtain ⟨j, rfl, rfl, hj, hb⟩ := hrel
    by_cases hlt : j < k.length
    · obtain ⟨x, b3, o3, hgx, rfl, hat⟩ := (G2.out.below hb).get (i := j) (by simp; omega)
      obtain ⟨y, b4, o4, hgy, rfl, hat2⟩ := (G3.out.below hb).get (i := j) (by simp; omega)
      rw [hgx] at hgy
      obtain rfl : x = y := Option.some.inj hgy
      have hEq := eqB_refl x
      have hwn := word_neq x.k x.p x.t x.n x.k x.p x.t x.n
      rw [show (⟨x.k, x.p, x.t, x.n⟩ : Gw) = x from rfl, hEq] at hwn
      obtain ⟨c0, c1, c2, c3⟩ := hat
      obtain ⟨d0, d1, d2, d3⟩ := hat2
      have HBB := Lib.hid hb
      clear hgx hgy hEq hb
      go_wp2_with fail
      go_quiet (fail)
      go_wp2
      go_roundg (k.length - (j + 1))
      case measure => omega
      case rel => exact ⟨j + 1, rfl, by first | rfl | (rw [show wrap64 ((j : Int) + 1) = (j : Int) + 1 by unfold wrap64; omega]; rfl), by omega, bdrewN HBB.out nq⟩
    · obtain rfl : j = k.length := by omega
      have HBB := Lib.hid (HB2.out.trans (hb.mono HB2.out.size))
      clear hlt hj hb
      go_wp2_with fail
      refine (X3.out _).mono ?_
      rintro e w3 ⟨a3, c3, rfl, g3, hb3⟩
      have HB3 := Lib.hid (HBB.out.trans (hb3.mono HBB.out.size))
      have G4 := Lib.hid (show Gws w3 a3 (L.map gwOf) from g3)
      have E3 := Lib.hid (HE.out.below HB3.out)
      clear g3 hb3 X3 HBB HB2 G2 G3
      simp only
      have hb4 := ballocR w3 (.cells #[.string s] 9)
      have P1 := Lib.hid (fun (v : Int) => goes_any s L at2 e2 HR.out (by have := HSS.out; omega) (by omega) w3.heap.size a3 c3 v (w3.alloc (.cells #[.string s] 9)) (by simp) (by rw [Lib.cell_of_heap (new_at w3 _)]; rfl) (E3.out.below hb4) (G4.out.below hb4))
      have P2 := Lib.hid (fun (v : Int) V (h : Below (w3.alloc (.cells #[.string s] 9)).heap.size (w3.alloc (.cells #[.string s] 9)) V) => goes_any s L at2 e2 HR.out (by have := HSS.out; omega) (by omega) w3.heap.size a3 c3 v V (by have := h.size; simp at this; omega) ((h.cell (p := ⟨w3.heap.size, 0, none⟩) (by simp)).trans (by rw [Lib.cell_of_heap (new_at w3 _)]; rfl)) ((E3.out.below hb4).below h) ((G4.out.below hb4).below h))
      have HB4 := Lib.hid (HB3.out.trans (hb4.mono HB3.out.size))
      have E4 := Lib.hid (E3.out.below hb4)
      clear hb4
      go_upto_region 14 with (go_at_call 16; refine (all_any s _).mono ?_; rintro e w4 ⟨rfl, rfl⟩)
      generalize w3.heap.size = BB at *
      generalize w3.alloc (.cells #[.string s] 9) = w4 at *
      go_wp2_with (go_at_call 17; refine (P1.out _).mono ?_)
      rintro e w5 ⟨rfl, hb5⟩
      have HB5 := Lib.hid hb5
      clear hb5 P1
      go_wp2_with (go_at_call 17; refine (P2.out _ _ HB5.out).mono ?_)
      rintro e w6 ⟨rfl, hb6⟩
      have HB6 := Lib.hid (HB5.out.trans (hb6.mono HB5.out.size))
      have E6 := Lib.hid (E4.out.below HB6.out)
      clear hb6 P2
      go_wp2_with (go_at_call 11; refine (HW.out _ E6.out).mono ?_; rintro e w' ⟨rfl, hb9⟩)
      go_ret
      have h1 := HB4.out.trans (HB6.out.mono HB4.out.size)
      exact ⟨rfl, h1.trans (hb9.mono h1.size)⟩
end Go.Proofs.YtimhhacfjgbomaaGreatDoor
