/-
  THE WALKS of the document's Signs and May.
-/
import Derived.Test.YtimhhacfjgbomaaGreatDoorRtold
namespace Go.Proofs.YtimhhacfjgbomaaGreatDoor
set_option linter.unusedSimpArgs false
set_option linter.unusedVariables false
open Go.RowKit Go.Shelf

def sgC : List Value := signL.map fun w => Value.string ⟨w.toArray⟩
theorem sg_len : signL.length = 22 := by decide
theorem sg_at {V : World} {g : Nat} {t : TypeId} (h : V.heap[g]? = some (.cells sgC.toArray t (0, 0))) {j : Nat} (hj : j < 22) : ∃ T : ByteArray, V.cell? ⟨g, j, none⟩ = some (.string T) ∧ signL[j]? = some T.data.toList := by
  have hk := sg_len
  have h1 : signL[j]? = some (signL[j]'(by omega)) := List.getElem?_eq_getElem _
  refine ⟨⟨(signL[j]'(by omega)).toArray⟩, ?_, h1⟩
  rw [Lib.cell_of_heap h]
  have : sgC.toArray[j]? = sgC[j]? := by simp
  rw [this]
  unfold sgC
  rw [List.getElem?_map, h1]
  rfl
set_option maxRecDepth 100000 in
set_option maxHeartbeats 2000000 in
theorem signs_any (w : World) : Calls Tryz.prog 65 #[] w fun e w' => e = .returned (.slice (some ⟨w.heap.size, 0, none⟩) 22 22) ∧ w'.heap[w.heap.size]? = some (.cells sgC.toArray 9 (0, 0)) ∧ Below w.heap.size w w' ∧ w.heap.size < w'.heap.size := by
  go_enter Tryz.func65, Tryz.ntmps65
  go_wp2_with fail
  go_ret
  exact ⟨rfl, new_at w _, ballocR w _, by simp⟩

set_option maxRecDepth 100000 in
set_option maxHeartbeats 8000000 in
theorem rmay_any (g : Gw) (w : World) (ht : g.t.size ≤ 1048576) :
    Calls Tryz.prog 54 #[.agg #[.int .i64 g.k, .int .i64 g.p, .string g.t, .int .u64 g.n]] w fun e w' => e = .returned (.bool g.may) ∧ Below w.heap.size w w' := by
  obtain ⟨k, p, t, n⟩ := g
  simp only at ht ⊢
  obtain ⟨c0, c1, c2, c3⟩ := Box4.cells (k := k) (p := p) (t := t) (n := n) (new_at w (.cells #[.int .i64 k, .int .i64 p, .string t, .int .u64 n] 33))
  have hb0 := ballocR w (.cells #[.int .i64 k, .int .i64 p, .string t, .int .u64 n] 33)
  have hbx : Box4 (w.alloc (.cells #[.int .i64 k, .int .i64 p, .string t, .int .u64 n] 33)) w.heap.size k p t n := new_at w _
  have hA : Gw.may ⟨k, p, t, n⟩ = mayB k t.data.toList n := rfl
  unfold mayB at hA
  generalize Gw.may ⟨k, p, t, n⟩ = ANS at *
  have hmt := empty_tests t
  by_cases h4 : k = 4
  · subst h4
    rw [if_neg (by decide), if_neg (by decide), if_neg (by decide), if_pos rfl] at hA
    by_cases h0 : t.size = 0
    · obtain ⟨e1, e2⟩ := hmt.1 h0
      have HA : Hid (ANS = decide (n ≤ 9223372036854775808)) := Lib.hid (by
        have e : t.data.toList = [] := List.eq_nil_of_length_eq_zero (by rw [sz]; exact h0)
        rw [hA, e]; simp)
      clear hA hmt h0 hbx
      go_enter Tryz.func54, Tryz.ntmps54
      go_wp2_with fail
      go_ret
      exact ⟨retB (by rw [HA.out]; apply decide_eq_decide.2; omega), hb0⟩
    · obtain ⟨e1, e2⟩ := hmt.2 h0
      have HA : Hid (false = ANS) := Lib.hid (by
        rw [hA, decide_eq_false (p := t.data.toList = []) (fun e => h0 (by rw [← sz, e]; rfl))]; rfl)
      clear hA hmt h0 hbx
      go_enter Tryz.func54, Tryz.ntmps54
      go_wp2_with fail
      go_ret
      exact ⟨retB HA.out, hb0⟩
  · have t4 : (k == 4) = false := by simpa using h4
    have t4' : (k != 4) = true := by simpa using h4
    by_cases hn : n = 0
    · subst hn
      simp only [decide_true, Bool.true_and, Bool.and_true] at hA
      have hnn : (((0 : Nat) : Int) != 0) = false := by decide
      clear hmt
      by_cases h1 : k = 1
      · subst h1
        rw [if_pos rfl, plain_ref] at hA
        have hP := rplain_any t (w.alloc (.cells #[.int .i64 1, .int .i64 p, .string t, .int .u64 ((0 : Nat) : Int)] 33)) (by omega)
        have hN := rname_any t (w.alloc (.cells #[.int .i64 1, .int .i64 p, .string t, .int .u64 ((0 : Nat) : Int)] 33)) (by omega)
        have HN := Lib.hid hN
        cases hp : rplainB t.data.toList with
        | false =>
          rw [hp] at hP hA
          have HA := Lib.hid hA
          have HP := Lib.hid hP
          clear hP hN hA hp hbx
          go_enter Tryz.func54, Tryz.ntmps54
          go_wp2_with (first | (go_at_call 43; refine HP.out.mono ?_; rintro e w1 ⟨rfl, rfl⟩) | (go_at_call 19; refine HN.out.mono ?_; rintro e w1 ⟨rfl, rfl⟩))
          go_ret
          exact ⟨retB HA.out.symm, hb0⟩
        | true =>
          rw [hp] at hP hA
          have HA := Lib.hid hA
          have HP := Lib.hid hP
          clear hP hN hA hp hbx
          go_enter Tryz.func54, Tryz.ntmps54
          go_wp2_with (first | (go_at_call 43; refine HP.out.mono ?_; rintro e w1 ⟨rfl, rfl⟩) | (go_at_call 19; refine HN.out.mono ?_; rintro e w1 ⟨rfl, rfl⟩))
          go_ret
          exact ⟨retB HA.out.symm, hb0⟩
      · rw [if_neg h1] at hA
        have t1 : (k == 1) = false := by simpa using h1
        by_cases h2 : k = 2
        · subst h2
          rw [if_pos rfl] at hA
          have HN := Lib.hid (rname_any t (w.alloc (.cells #[.int .i64 2, .int .i64 p, .string t, .int .u64 ((0 : Nat) : Int)] 33)) (by omega))
          have HA := Lib.hid hA
          clear hA hbx
          go_enter Tryz.func54, Tryz.ntmps54
          go_wp2_with (go_at_call 19; refine HN.out.mono ?_; rintro e w1 ⟨rfl, rfl⟩)
          go_ret
          exact ⟨retB HA.out.symm, hb0⟩
        · rw [if_neg h2] at hA
          have t2 : (k == 2) = false := by simpa using h2
          by_cases h3 : k = 3
          · subst h3
            rw [if_pos rfl] at hA
            have HN := Lib.hid (utf8_any t (w.alloc (.cells #[.int .i64 3, .int .i64 p, .string t, .int .u64 ((0 : Nat) : Int)] 33)) (by omega))
            have HA := Lib.hid hA
            clear hA hbx
            go_enter Tryz.func54, Tryz.ntmps54
            go_wp2_with (go_at_call 37; refine HN.out.mono ?_; rintro e w1 ⟨rfl, rfl⟩)
            go_ret
            exact ⟨retB HA.out.symm, hb0⟩
          · rw [if_neg h3, if_neg h4] at hA
            have t3 : (k == 3) = false := by simpa using h3
            by_cases h5 : k = 5
            · subst h5
              rw [if_pos rfl] at hA
              have HA := Lib.hid hA
              have HBX := Lib.hid hbx
              have HB0 := Lib.hid hb0
              have HSG := Lib.hid (signs_any (w.alloc (.cells #[.int .i64 5, .int .i64 p, .string t, .int .u64 ((0 : Nat) : Int)] 33)))
              clear hA hbx hb0
              go_enter Tryz.func54, Tryz.ntmps54
              go_wp2_with (go_at_call 65; refine HSG.out.mono ?_)
              rintro e V ⟨rfl, hblk, hb1, hgt⟩
              have hbx1 := HBX.out.next hb1
              have HB2 := Lib.hid (HB0.out.trans (hb1.mono (by have := HBX.out.lt; omega)))
              generalize (w.alloc (.cells #[.int .i64 5, .int .i64 p, .string t, .int .u64 ((0 : Nat) : Int)] 33)).heap.size = G at *
              have HK := Lib.hid hblk
              have HG := Lib.hid hgt
              have HX1 := Lib.hid hbx1
              clear hblk hgt hbx1 hb1 c0 c1 c2 c3 HSG HBX HB0
              go_wp2_with fail
              go_loopg [4] 22 (fun gk v wr => ∃ j : Nat, gk = 22 - j ∧ v = .int .i64 j ∧ j ≤ 22 ∧ (signL.take j).contains t.data.toList = false ∧ Below V.heap.size V wr)
              case atStart => exact ⟨0, rfl, rfl, by omega, rfl, Below.refl _ _⟩
              case round =>
                obtain ⟨j, rfl, rfl, hj, hq, hb⟩ := hrel
                have HQ := Lib.hid hq
                clear hq
                by_cases hlt : j < 22
                · obtain ⟨T, hc, hk⟩ := sg_at ((hb.block G HG.out).trans HK.out) hlt
                  obtain ⟨d0, d1, d2, d3⟩ := (HX1.out.next hb).cells
                  have HKK := Lib.hid hk
                  have HBL := Lib.hid hb
                  clear hk hb
                  by_cases hx : T.data.toList = t.data.toList
                  · have hTL : T = t := ba_ext hx
                    subst hTL
                    have HA2 : Hid (true = ANS) := Lib.hid (by
                      rw [HA.out]
                      exact (List.contains_iff_mem.2 (List.mem_of_getElem? HKK.out)).symm)
                    clear hx
                    go_wp2_with fail
                    go_quiet (fail)
                    go_wp2_with fail
                    go_ret
                    exact ⟨retB HA2.out, (HB2.out.trans (HBL.out.mono (by have := HB2.out.size; omega))).trans (bdrewN (Below.refl _ _) _)⟩
                  · have x1 : ¬ T.toList = t.toList := by rw [ByteArray.toList_eq, ByteArray.toList_eq]; exact hx
                    have x2 : (T.toList == t.toList) = false := by simp [x1]
                    have HQ2 : Hid ((signL.take (j + 1)).contains t.data.toList = false) := Lib.hid (by
                      rw [List.take_add_one, HKK.out, List.contains_append, HQ.out]
                      have : (t.data.toList == T.data.toList) = false := beq_eq_false_iff_ne.2 fun e => hx e.symm
                      simp only [Option.toList_some, List.contains_cons, this, Bool.false_or]; rfl)
                    clear hx
                    go_wp2_with fail
                    go_quiet (fail)
                    go_wp2_with fail
                    go_roundg (22 - (j + 1))
                    case measure => omega
                    case rel => exact ⟨j + 1, rfl, rfl, hlt, HQ2.out, bdrewN HBL.out _⟩
                · obtain rfl : j = 22 := by omega
                  have HA2 : Hid (false = ANS) := Lib.hid (by
                    have h1 := HQ.out
                    rw [List.take_of_length_le (by rw [sg_len]; exact Nat.le_refl _)] at h1
                    rw [HA.out, h1])
                  have hb2 : Below w.heap.size w wr := HB2.out.trans (hb.mono (by have := HB2.out.size; omega))
                  go_wp2_with fail
                  go_ret
                  exact ⟨retB HA2.out, hb2⟩
            · rw [if_neg h5] at hA
              have t5 : (k == 5) = false := by simpa using h5
              have HA := Lib.hid hA
              clear hA hbx
              go_enter Tryz.func54, Tryz.ntmps54
              go_wp2_with fail
              go_ret
              exact ⟨retB HA.out.symm, hb0⟩
    · have hnn : ((n : Int) != 0) = true := by simp; omega
      have HA : Hid (false = ANS) := Lib.hid (by
        rw [hA]
        have : decide (n = 0) = false := by simp [hn]
        rw [this, if_neg h4]
        simp)
      clear hA hmt hbx hn
      go_enter Tryz.func54, Tryz.ntmps54
      go_wp2_with fail
      go_ret
      exact ⟨retB HA.out, hb0⟩
end Go.Proofs.YtimhhacfjgbomaaGreatDoor
