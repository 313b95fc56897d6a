/-
  THE WALK of WordsSpells.
-/
import Derived.Test.YtimhhacfjgbomaaGreatDoorLawC
namespace Go.Proofs.YtimhhacfjgbomaaGreatDoor
set_option linter.unusedSimpArgs false
set_option linter.unusedVariables false
open Go.RowKit Go.Shelf

theorem is_not {s : ByteArray} (h : lowL s.data.toList ≠ [109, 97, 116, 99, 104]) : isB 1 s ⟨#[109, 97, 116, 99, 104]⟩ = false := by
  unfold isB
  have e : lowL (⟨#[109, 97, 116, 99, 104]⟩ : ByteArray).data.toList = [109, 97, 116, 99, 104] := by decide
  rw [e]
  simp [h]
theorem ba_id (s : ByteArray) : (⟨s.data.toList.toArray⟩ : ByteArray) = s := ba_ext rfl

set_option maxHeartbeats 8000000 in
set_option maxRecDepth 100000 in
theorem spells_walk (s : ByteArray) (W : World) (hL : Laid W) :
    Calls Tryz.prog 6 #[.string s] W fun e W' => e = .returned (.bool true) ∧ Below W.heap.size W W' := by
  have HE := Lib.hid (Env.start hL)
  have HW : Hid (∀ V, Env W.heap.size V → Calls Tryz.prog 11 #[] V fun e w' => e = .returned (.bool true) ∧ Below V.heap.size V w') := Lib.hid fun V h => works_any V h
  clear hL
  by_cases ha : 4000 < s.size
  · have hz : (s.size : Int) > 4000 := by omega
    clear ha
    go_enter Tryz.func6, Tryz.ntmps6
    go_wp2_with (go_at_call 11; refine (HW.out _ HE.out).mono ?_; rintro e w' ⟨rfl, hb⟩)
    go_ret
    exact ⟨rfl, hb⟩
  · have hz : ¬ (s.size : Int) > 4000 := by omega
    have hs : s.size ≤ 4000 := by omega
    clear ha
    have h1 := fun V h => spell_any (n₀ := W.heap.size) s V (by omega) h
    have h2 := fun V h => name_any (n₀ := W.heap.size) s V (by omega) h
    have h3 := fun V h => reserved_any (n₀ := W.heap.size) s V (by omega) h
    cases hn : nameB s.data.toList with
    | false =>
      have e1 : spellL s.data.toList = [] := by unfold spellL; rw [hn]; rfl
      rw [hn] at h2
      rw [e1] at h1
      have H1 : Hid (∀ V, Env W.heap.size V → Calls Tryz.prog 22 #[.string s] V fun e w' => e = .returned (.string ⟨#[]⟩) ∧ Below V.heap.size V w') := Lib.hid h1
      have H2 := Lib.hid h2
      clear h1 h2 h3 hn e1
      go_enter Tryz.func6, Tryz.ntmps6
      go_wp2_with (first
        | (go_at_call 22; refine (H1.out _ HE.out).mono ?_; rintro e w1 ⟨rfl, hb1⟩; have E1 := Lib.hid (HE.out.below hb1))
        | (go_at_call 18; refine (H2.out _ E1.out).mono ?_; rintro e w2 ⟨rfl, hb2⟩; have hb3 := hb1.trans (hb2.mono hb1.size); have E2 := Lib.hid (HE.out.below hb3))
        | (go_at_call 11; refine (HW.out _ E2.out).mono ?_; rintro e w' ⟨rfl, hb⟩))
      go_ret
      exact ⟨rfl, hb3.trans (hb.mono hb3.size)⟩
    | true =>
      rw [hn] at h2
      have H2 := Lib.hid h2
      have hsl := spell_len s.data.toList
      rw [sz] at hsl
      rcases spell_law hn with ⟨p1, p2, p3, p4, p5⟩ | ⟨p1, p2⟩
      · rw [p3] at h1 p5
        rw [ba_id] at h1
        rw [p2] at h3
        have h4 := fun V h => lexg_any (n₀ := W.heap.size) s V (by omega) h
        have e : lexL s = ([(⟨1, s.data.toList, 0⟩, 0)], 0, 0) := by rw [lexL_none (by omega) (by rw [p5]), p5]
        rw [e] at h4
        have h5 := fun V => is_any 1 0 s 0 ⟨#[109, 97, 116, 99, 104]⟩ V (by omega) (by decide)
        rw [is_not p4] at h5
        have H1 := Lib.hid h1
        have H3 := Lib.hid h3
        have H4 := Lib.hid h4
        have H5 : Hid (∀ V, Calls Tryz.prog 24 #[.agg #[.int .i64 1, .int .i64 0, .string s, .int .u64 0], .string ⟨#[109, 97, 116, 99, 104]⟩] V fun e w' => e = .returned (.bool false) ∧ Below V.heap.size V w') := Lib.hid h5
        clear h1 h2 h3 h4 h5 hn p1 p2 p3 p4 p5 e hsl
        go_enter Tryz.func6, Tryz.ntmps6
        go_wp2_with (first
          | (go_at_call 22; refine (H1.out _ HE.out).mono ?_; rintro e w1 ⟨rfl, hb1⟩; have E1 := Lib.hid (HE.out.below hb1))
          | (go_at_call 18; refine (H2.out _ E1.out).mono ?_; rintro e w2 ⟨rfl, hb2⟩; have hb3 := hb1.trans (hb2.mono hb1.size); have E2 := Lib.hid (HE.out.below hb3)))
        refine (H4.out _ E2.out).mono ?_
        rintro e w3 ⟨a, c, rfl, hg, hb4⟩
        have hb5 := hb3.trans (hb4.mono hb3.size)
        have E3 := Lib.hid (HE.out.below hb5)
        obtain ⟨g, b, o, hgg, rfl, hat⟩ := hg.get (i := 0) Nat.one_pos
        obtain rfl : gwOf (⟨1, s.data.toList, 0⟩, 0) = g := Option.some.inj hgg
        obtain ⟨c0, c1, c2, c3⟩ := hat
        simp only [gwOf, ba_id, Nat.zero_mul, Nat.add_zero] at c0 c1 c2 c3
        replace c0 : w3.cell? ⟨b, o, none⟩ = some (.int .i64 1) := c0
        replace c1 : w3.cell? ⟨b, o + 1, none⟩ = some (.int .i64 0) := c1
        replace c3 : w3.cell? ⟨b, o + 3, none⟩ = some (.int .u64 0) := c3
        have hat : Gw.At ⟨1, 0, s, 0⟩ w3 b o := ⟨c0, c1, c2, c3⟩
        clear hg hgg
        go_wp2_with (first
          | (go_at_call 14; refine (num_any _ _).mono ?_; rintro e w' ⟨rfl, rfl⟩)
          | (go_at_call 20; refine (H3.out _ E3.out).mono ?_; rintro e w4 ⟨rfl, hb6⟩; obtain ⟨d0, d1, d2, d3⟩ := hat.below hb6; have hb7 := hb5.trans (hb6.mono hb5.size); have E4 := Lib.hid (HE.out.below hb7); replace d3 : w4.cell? ⟨b, o + 3, none⟩ = some (.int .u64 0) := d3)
          | (go_at_call 24; refine (H5.out _).mono ?_; rintro e w5 ⟨rfl, hb8⟩; have hb9 := hb7.trans (hb8.mono hb7.size); have E5 := Lib.hid (HE.out.below hb9))
          | (go_at_call 11; refine (HW.out _ E5.out).mono ?_; rintro e w' ⟨rfl, hb⟩))
        go_ret
        exact ⟨rfl, hb9.trans (hb.mono hb9.size)⟩
      · have e : lexL ⟨(spellL s.data.toList).toArray⟩ = ([(⟨2, s.data.toList, 0⟩, 0)], 0, 0) := by
          have hsz : (⟨(spellL s.data.toList).toArray⟩ : ByteArray).size ≤ 1048576 := by
            show (spellL s.data.toList).length ≤ _
            omega
          rw [lexL_none hsz (by show (scan (spellL s.data.toList) 0).2 = none; rw [p2])]
          show ((scan (spellL s.data.toList) 0).1, 0, 0) = _
          rw [p2]
        have h4 := fun V h => lexg_any (n₀ := W.heap.size) ⟨(spellL s.data.toList).toArray⟩ V (by show (spellL s.data.toList).length ≤ _; omega) h
        rw [e] at h4
        have h6 := fun V h => lexg_any (n₀ := W.heap.size) s V (by omega) h
        generalize (⟨(spellL s.data.toList).toArray⟩ : ByteArray) = T at *
        have H1 := Lib.hid h1
        have H3 := Lib.hid h3
        have H4 := Lib.hid h4
        have P1 := Lib.hid p1
        cases hsc : (scan s.data.toList 0).2 with
        | some n =>
          rw [lexL_some (by omega) hsc] at h6
          have H6 := Lib.hid h6
          clear h1 h2 h3 h4 h6 hn p1 p2 e hsl hsc
          go_enter Tryz.func6, Tryz.ntmps6
          go_wp2_with (first
            | (go_at_call 22; refine (H1.out _ HE.out).mono ?_; rintro e w1 ⟨rfl, hb1⟩; have E1 := Lib.hid (HE.out.below hb1))
            | (go_at_call 18; refine (H2.out _ E1.out).mono ?_; rintro e w2 ⟨rfl, hb2⟩; have hb3 := hb1.trans (hb2.mono hb1.size); have E2 := Lib.hid (HE.out.below hb3)))
          refine (H4.out _ E2.out).mono ?_
          rintro e w3 ⟨a, c, rfl, hg, hb4⟩
          have hb5 := hb3.trans (hb4.mono hb3.size)
          have E3 := Lib.hid (HE.out.below hb5)
          obtain ⟨g, b, o, hgg, rfl, hat⟩ := hg.get (i := 0) Nat.one_pos
          obtain rfl : gwOf (⟨2, s.data.toList, 0⟩, 0) = g := Option.some.inj hgg
          obtain ⟨c0, c1, c2, c3⟩ := hat
          simp only [gwOf, ba_id, Nat.zero_mul, Nat.add_zero] at c0 c1 c2 c3
          replace c0 : w3.cell? ⟨b, o, none⟩ = some (.int .i64 2) := c0
          replace c1 : w3.cell? ⟨b, o + 1, none⟩ = some (.int .i64 0) := c1
          replace c3 : w3.cell? ⟨b, o + 3, none⟩ = some (.int .u64 0) := c3
          have hat : Gw.At ⟨2, 0, s, 0⟩ w3 b o := ⟨c0, c1, c2, c3⟩
          clear hg hgg
          go_wp2_with (go_at_call 14; refine (num_any _ _).mono ?_; rintro e w' ⟨rfl, rfl⟩)
          refine (H6.out _ E3.out).mono ?_
          rintro e w4 ⟨a2, cc2, rfl, hg, hb6⟩
          have hb7 := hb5.trans (hb6.mono hb5.size)
          have E4 := Lib.hid (HE.out.below hb7)
          obtain ⟨d0, d1, d2, d3⟩ := hat.below hb6
          replace d0 : w4.cell? ⟨b, o, none⟩ = some (.int .i64 2) := d0
          clear c0 c1 c2 c3
          clear hg
          go_wp2_with (first
            | (go_at_call 14; refine (num_any _ _).mono ?_; rintro e w' ⟨rfl, rfl⟩)
            | (go_at_call 11; refine (HW.out _ E4.out).mono ?_; rintro e w' ⟨rfl, hb⟩))
          go_ret
          exact ⟨rfl, hb7.trans (hb.mono hb7.size)⟩
        | none =>
          rw [lexL_none (by omega) hsc] at h6
          obtain ⟨L, hL⟩ : ∃ L, (scan s.data.toList 0).1 = L := ⟨_, rfl⟩
          rw [hL] at h6
          by_cases hl1 : L.length = 1
          · obtain ⟨q, rfl⟩ := List.length_eq_one_iff.1 hl1
            have H6 := Lib.hid h6
            have HSC : Hid (scan s.data.toList 0 = ([q], none)) := Lib.hid (by rw [← hL, ← hsc])
            clear h1 h2 h3 h4 h6 hn p1 p2 e hsl hsc hL hl1
            go_enter Tryz.func6, Tryz.ntmps6
            go_wp2_with (first
              | (go_at_call 22; refine (H1.out _ HE.out).mono ?_; rintro e w1 ⟨rfl, hb1⟩; have E1 := Lib.hid (HE.out.below hb1))
              | (go_at_call 18; refine (H2.out _ E1.out).mono ?_; rintro e w2 ⟨rfl, hb2⟩; have hb3 := hb1.trans (hb2.mono hb1.size); have E2 := Lib.hid (HE.out.below hb3)))
            refine (H4.out _ E2.out).mono ?_
            rintro e w3 ⟨a, c, rfl, hg, hb4⟩
            have hb5 := hb3.trans (hb4.mono hb3.size)
            have E3 := Lib.hid (HE.out.below hb5)
            obtain ⟨g, b, o, hgg, rfl, hat⟩ := hg.get (i := 0) Nat.one_pos
            obtain rfl : gwOf (⟨2, s.data.toList, 0⟩, 0) = g := Option.some.inj hgg
            obtain ⟨c0, c1, c2, c3⟩ := hat
            simp only [gwOf, ba_id, Nat.zero_mul, Nat.add_zero] at c0 c1 c2 c3
            replace c0 : w3.cell? ⟨b, o, none⟩ = some (.int .i64 2) := c0
            replace c1 : w3.cell? ⟨b, o + 1, none⟩ = some (.int .i64 0) := c1
            replace c3 : w3.cell? ⟨b, o + 3, none⟩ = some (.int .u64 0) := c3
            have hat : Gw.At ⟨2, 0, s, 0⟩ w3 b o := ⟨c0, c1, c2, c3⟩
            clear hg hgg
            go_wp2_with (go_at_call 14; refine (num_any _ _).mono ?_; rintro e w' ⟨rfl, rfl⟩)
            refine (H6.out _ E3.out).mono ?_
            rintro e w4 ⟨a2, cc2, rfl, hg, hb6⟩
            have hb7 := hb5.trans (hb6.mono hb5.size)
            have E4 := Lib.hid (HE.out.below hb7)
            obtain ⟨d0, d1, d2, d3⟩ := hat.below hb6
            replace d0 : w4.cell? ⟨b, o, none⟩ = some (.int .i64 2) := d0
            clear c0 c1 c2 c3
            obtain ⟨g2, b2, o2, hgg, rfl, hat2⟩ := hg.get (i := 0) Nat.one_pos
            obtain rfl : gwOf q = g2 := Option.some.inj hgg
            obtain ⟨⟨qk, qt, qn⟩, qp⟩ := q
            obtain ⟨y0, y1, y2, y3⟩ := hat2
            simp only [gwOf, Nat.zero_mul, Nat.add_zero] at y0 y1 y2 y3
            clear hg hgg
            by_cases hk : qk = 1
            · subst hk
              replace y0 : w4.cell? ⟨b2, o2, none⟩ = some (.int .i64 1) := y0
              by_cases hx : qt = s.data.toList
              · subst hx
                have hr := P1.out qn qp HSC.out
                rw [hr] at H3
                rw [ba_id] at y2
                clear hr
                go_wp2_with (first
                  | (go_at_call 14; refine (num_any _ _).mono ?_; rintro e w' ⟨rfl, rfl⟩)
                  | (go_at_call 20; refine (H3.out _ E4.out).mono ?_; rintro e w5 ⟨rfl, hb8⟩; have hb9 := hb7.trans (hb8.mono hb7.size); have E5 := Lib.hid (HE.out.below hb9))
                  | (go_at_call 11; refine (HW.out _ E5.out).mono ?_; rintro e w' ⟨rfl, hb⟩))
                go_ret
                exact ⟨rfl, hb9.trans (hb.mono hb9.size)⟩
              · obtain ⟨X, hX⟩ : ∃ X : ByteArray, (⟨qt.toArray⟩ : ByteArray) = X := ⟨_, rfl⟩
                rw [hX] at y2
                have x1 : ¬ X.toList = s.toList := by
                  rw [← hX, ByteArray.toList_eq, ByteArray.toList_eq]; exact hx
                have x2 : (X.toList == s.toList) = false := by simp [x1]
                clear hx hX
                go_wp2_with (first
                  | (go_at_call 14; refine (num_any _ _).mono ?_; rintro e w' ⟨rfl, rfl⟩)
                  | (go_at_call 11; refine (HW.out _ E4.out).mono ?_; rintro e w' ⟨rfl, hb⟩))
                go_ret
                exact ⟨rfl, hb7.trans (hb.mono hb7.size)⟩
            · have hz : ((qk : Int) == 1) = false := by simp; omega
              clear hk
              go_wp2_with (first
                | (go_at_call 14; refine (num_any _ _).mono ?_; rintro e w' ⟨rfl, rfl⟩)
                | (go_at_call 11; refine (HW.out _ E4.out).mono ?_; rintro e w' ⟨rfl, hb⟩))
              go_ret
              exact ⟨rfl, hb7.trans (hb.mono hb7.size)⟩
          · have hlz : ((L.length : Int) == 1) = false := by simp; omega
            have H6 := Lib.hid h6
            clear h1 h2 h3 h4 h6 hn p1 p2 e hsl hsc hL hl1
            go_enter Tryz.func6, Tryz.ntmps6
            go_wp2_with (first
              | (go_at_call 22; refine (H1.out _ HE.out).mono ?_; rintro e w1 ⟨rfl, hb1⟩; have E1 := Lib.hid (HE.out.below hb1))
              | (go_at_call 18; refine (H2.out _ E1.out).mono ?_; rintro e w2 ⟨rfl, hb2⟩; have hb3 := hb1.trans (hb2.mono hb1.size); have E2 := Lib.hid (HE.out.below hb3)))
            refine (H4.out _ E2.out).mono ?_
            rintro e w3 ⟨a, c, rfl, hg, hb4⟩
            have hb5 := hb3.trans (hb4.mono hb3.size)
            have E3 := Lib.hid (HE.out.below hb5)
            obtain ⟨g, b, o, hgg, rfl, hat⟩ := hg.get (i := 0) Nat.one_pos
            obtain rfl : gwOf (⟨2, s.data.toList, 0⟩, 0) = g := Option.some.inj hgg
            obtain ⟨c0, c1, c2, c3⟩ := hat
            simp only [gwOf, ba_id, Nat.zero_mul, Nat.add_zero] at c0 c1 c2 c3
            replace c0 : w3.cell? ⟨b, o, none⟩ = some (.int .i64 2) := c0
            replace c1 : w3.cell? ⟨b, o + 1, none⟩ = some (.int .i64 0) := c1
            replace c3 : w3.cell? ⟨b, o + 3, none⟩ = some (.int .u64 0) := c3
            have hat : Gw.At ⟨2, 0, s, 0⟩ w3 b o := ⟨c0, c1, c2, c3⟩
            clear hg hgg
            go_wp2_with (go_at_call 14; refine (num_any _ _).mono ?_; rintro e w' ⟨rfl, rfl⟩)
            refine (H6.out _ E3.out).mono ?_
            rintro e w4 ⟨a2, cc2, rfl, hg, hb6⟩
            have hb7 := hb5.trans (hb6.mono hb5.size)
            have E4 := Lib.hid (HE.out.below hb7)
            obtain ⟨d0, d1, d2, d3⟩ := hat.below hb6
            replace d0 : w4.cell? ⟨b, o, none⟩ = some (.int .i64 2) := d0
            clear c0 c1 c2 c3
            clear hg
            go_wp2_with (first
              | (go_at_call 14; refine (num_any _ _).mono ?_; rintro e w' ⟨rfl, rfl⟩)
              | (go_at_call 11; refine (HW.out _ E4.out).mono ?_; rintro e w' ⟨rfl, hb⟩))
            go_ret
            exact ⟨rfl, hb7.trans (hb.mono hb7.size)⟩
end Go.Proofs.YtimhhacfjgbomaaGreatDoor
