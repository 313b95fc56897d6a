/-
  THE WALKS of the document's Some and Lex: all words of a text.
-/
import Derived.Test.YtimhhacfjgbomaaGreatDoorRskip
import Derived.Test.YtimhhacfjgbomaaGreatDoorRword
import Derived.Test.YtimhhacfjgbomaaGreatDoorReads
namespace Go.Proofs.YtimhhacfjgbomaaGreatDoor
set_option linter.unusedSimpArgs false
set_option linter.unusedVariables false
open Go.RowKit Go.Shelf

/-- What is left behind a gap. -/
def restS (L : List UInt8) (p : Nat × Bool) : List (Wd × Nat) × Option Nat := if p.2 = false then ([], some p.1) else scanA (L.drop p.1) p.1
theorem scan_rest (L : List UInt8) (p : Nat) : scan (L.drop p) p = restS L (skR L p) := by
  rw [scan_A]
  unfold restS skR
  simp only [List.drop_drop]
theorem rest_end {L : List UInt8} {j : Nat} (h : L.length ≤ j) : restS L (j, true) = ([], none) := by
  unfold restS
  rw [if_neg (by simp), List.drop_eq_nil_of_le h]
  rfl
theorem rest_bad {L : List UInt8} {j : Nat} (h : j < L.length) (hw : word1 (L.drop j) = none) : restS L (j, true) = ([], some j) := by
  unfold restS
  rw [if_neg (by simp)]
  rw [List.drop_eq_getElem_cons h] at hw ⊢
  exact scanA_bad j hw
theorem rest_word {L : List UInt8} {j n : Nat} {d : Wd} (h : j < L.length) (hw : word1 (L.drop j) = some (d, n)) :
    restS L (j, true) = ((d, j) :: (restS L (skR L (j + n))).1, (restS L (skR L (j + n))).2) := by
  rw [← scan_rest]
  unfold restS
  rw [if_neg (by simp)]
  have e : L.drop (j + n) = (L.drop j).drop n := by rw [List.drop_drop]
  rw [e]
  rw [List.drop_eq_getElem_cons h] at hw ⊢
  exact scanA_word j hw
theorem skR_le (L : List UInt8) (p : Nat) (h : p ≤ L.length) : p ≤ (skR L p).1 ∧ (skR L p).1 ≤ L.length := by
  unfold skR
  have := skip_le (L.drop p)
  rw [List.length_drop] at this
  simp only; omega
structure SmI (w : World) (l : List (Wd × Nat)) (v : Value) (wr : World) : Prop where
  own : wr.ownsRow w.heap.size 33 4 v l.length (wdCells l)
  bel : Below w.heap.size w wr
theorem SmI.nil (w : World) : SmI w [] (.slice none 0 0) w := ⟨World.ownsRow_nil _ _ _ _, Below.refl _ _⟩
theorem SmI.next {w : World} {l : List (Wd × Nat)} {v : Value} {wr w' : World} (h : SmI w l v wr) (hb : Below wr.heap.size wr w') : SmI w l v w' :=
  ⟨h.own.kept (only_of_below hb none) (by by_cases hv : v.ownBlock = none; exact .inl hv; exact .inr hv), h.bel.trans (hb.mono h.bel.size)⟩
theorem SmI.more {w : World} {l : List (Wd × Nat)} {p : Wd × Nat} {v v' : Value} {V V' : World} (h : SmI w l v V) (hg : V.grownBy V' v.ownBlock) (ho : V'.ownsRow w.heap.size 33 4 v' (l.length + 1) (wdCells l ++ wdOne p)) : SmI w (l ++ [p]) v' V' := by
  refine ⟨?_, h.bel.grown hg h.bel.size (fun k hk => (h.own.lt k hk).1)⟩
  rw [wdCells_snoc, List.length_append]
  exact ho

set_option maxRecDepth 100000 in
set_option maxHeartbeats 16000000 in
theorem rsome_any (s : ByteArray) (w : World) (hs : s.size ≤ 281474976710656) :
    Calls Tryz.prog 15 #[.string s] w (SomeQ (lexR s) w) := by
  obtain ⟨i0, hi, hz0, hz1, hz2⟩ := info_parts info_word
  by_cases hlong : 1048576 < s.size
  · have hz : (s.size : Int) > 1048576 := by omega
    have e : lexR s = ([], 0, 3) := by unfold lexR; rw [if_pos hlong]
    rw [e]
    clear e hlong
    go_enter Tryz.func15, Tryz.ntmps15
    go_wp2_with fail
    go_ret3
    exact ⟨_, rfl, World.ownsRow_nil _ _ _ _, Below.refl _ _⟩
  have hz : ¬ (s.size : Int) > 1048576 := by omega
  have hlex : lexR s = match (scan s.data.toList 0).2 with | none => ((scan s.data.toList 0).1, 0, 0) | some n => ((scan s.data.toList 0).1, n, 130) := by unfold lexR; rw [if_neg hlong]; cases (scan s.data.toList 0).2 <;> rfl
  obtain ⟨R, hR⟩ : ∃ R, lexR s = R := ⟨_, rfl⟩
  obtain ⟨sc, hsc⟩ : ∃ sc, scan s.data.toList 0 = sc := ⟨_, rfl⟩
  rw [hR, hsc] at hlex
  rw [hR]
  have hs0 : restS s.data.toList (skR s.data.toList 0) = sc := by rw [← scan_rest, List.drop_zero]; exact hsc
  have HSK := Lib.hid fun (p : Nat) (hp : p ≤ s.size) W => rskip_any s p W (by omega) hp
  have HWD := Lib.hid fun (p : Nat) (hp : p < s.size) W => rword_any s p W (by omega) hp
  have hle := skR_le s.data.toList
  rw [sz] at hle
  have HLE := Lib.hid hle
  have HLX := Lib.hid hlex
  have hss : s.size ≤ 1048576 := by omega
  obtain ⟨j0, ok0, hj0⟩ : ∃ j ok, skR s.data.toList 0 = (j, ok) := ⟨_, _, rfl⟩
  have h00 := HSK.out 0 (by omega) w
  rw [hj0] at h00 hs0
  have hj0s : j0 ≤ s.size := by have := (HLE.out 0 (by omega)).2; rw [hj0] at this; exact this
  have H00 := Lib.hid h00
  have HS0 := Lib.hid hs0
  clear hR hsc hlex hle hlong h00 hs0 hj0
  go_enter Tryz.func15, Tryz.ntmps15
  go_wp2_with (go_at_call 32; refine H00.out.mono ?_; rintro e w' ⟨rfl, rfl⟩)
  clear H00
  go_loopg [5, 6, 7] (s.size - j0) (fun gk v u o wr => ∃ (l : List (Wd × Nat)) (j : Nat) (ok : Bool), gk = s.size - j ∧ u = .int .i64 j ∧ o = .bool ok ∧ j ≤ s.size ∧ l.length ≤ j ∧ SmI w l v wr ∧ (l ++ (restS s.data.toList (j, ok)).1, (restS s.data.toList (j, ok)).2) = sc)
  case atStart => exact ⟨[], j0, ok0, rfl, rfl, rfl, hj0s, by simp, SmI.nil w, by rw [HS0.out]; rfl⟩
  case round =>
    clear HS0 hj0s
    obtain ⟨l, j, ok, rfl, rfl, rfl, hj, hlj, hsm, hq⟩ := hrel
    have HQ := Lib.hid hq
    have HM := Lib.hid hsm
    clear hq hsm
    obtain ⟨av, cv, rfl⟩ := owns_form HM.out.own
    cases ok with
    | false =>
      have HR : Hid (R = (l, j, 130)) := Lib.hid (by
        rw [HLX.out, ← HQ.out]
        simp [restS])
      obtain rfl := HR.out
      clear HR HLX HQ HSK HWD
      go_wp2_with fail
      go_ret3
      exact ⟨_, rfl, HM.out.own, HM.out.bel⟩
    | true =>
      by_cases hlt : j < s.size
      · have hW := HWD.out j hlt wr
        cases hw : word1 (s.data.toList.drop j) with
        | none =>
          rw [hw] at hW
          have HW := Lib.hid hW
          have HR : Hid (R = (l, j, 130)) := Lib.hid (by
            rw [HLX.out, ← HQ.out, rest_bad (by rw [sz]; exact hlt) hw]
            simp)
          obtain rfl := HR.out
          clear HR HLX HQ HSK HWD hW hw
          go_wp2_with (go_at_call 33; refine HW.out.mono ?_)
          rintro e V1 ⟨⟨k, m, n, t, rfl⟩, hb1⟩
          have HM1 := Lib.hid ((HM.out.next hb1).next (ballocR V1 (.cells #[.int .i64 k, .int .i64 j, .string t, .int .u64 n] 33)))
          clear HW hb1 HM
          go_wp2_with fail
          go_ret3
          exact ⟨_, rfl, HM1.out.own, HM1.out.bel⟩
        | some p =>
          obtain ⟨d, n⟩ := p
          rw [hw] at hW
          have HW := Lib.hid hW
          have hwl := word1_len hw
          rw [List.length_drop, sz] at hwl
          have HRS := Lib.hid (rest_word (L := s.data.toList) (j := j) (by rw [sz]; exact hlt) hw)
          obtain ⟨N, hN⟩ : ∃ N, j + n = N := ⟨_, rfl⟩
          obtain ⟨j2, ok2, hj2⟩ : ∃ j2 ok2, skR s.data.toList N = (j2, ok2) := ⟨_, _, rfl⟩
          have hN2 := HLE.out N (by omega)
          rw [hj2] at hN2
          have hNX : ((l ++ [(d, j)]) ++ (restS s.data.toList (j2, ok2)).1, (restS s.data.toList (j2, ok2)).2) = sc := by
            rw [← HQ.out, HRS.out, hN, hj2]; simp
          have HNX := Lib.hid hNX
          have HS2 : Hid (∀ W, Calls Tryz.prog 32 #[.string s, .int .i64 N] W fun e w' => e = .returned (.tuple #[.int .i64 j2, .bool ok2]) ∧ W = w') := Lib.hid fun W => by
            have := HSK.out N (by omega) W
            rw [hj2] at this
            exact this
          have hWN : Hid (Calls Tryz.prog 33 #[.string s, .int .i64 j] wr fun e w' => e = .returned (.tuple #[.agg #[.int .i64 d.k, .int .i64 j, .string ⟨d.t.toArray⟩, .int .u64 d.n], .int .i64 N, .bool true]) ∧ Below wr.heap.size wr w') := Lib.hid (by
            rw [← hN]; exact HW.out)
          have hj2b : N ≤ j2 ∧ j2 ≤ s.size := hN2
          have hNj : j < N := by omega
          obtain ⟨k, t, m⟩ := d
          have C3 : Hid (l.length + 1 ≤ maxLen) := by unfold Hid maxLen; omega
          have C4 : Hid ((l.length + 1) * 40 ≤ 140737488355328) := by unfold Hid; omega
          have C1 : Hid (∀ u ∈ wdOne (⟨k, t, m⟩, j), u.oneCell' = true) := Lib.hid (wdOne_one _)
          clear HLX HSK HWD hW hw HRS HQ HW hNX hN hj2 hN2 hwl
          simp only at hWN
          go_wp2_with (go_at_call 33; refine hWN.out.mono ?_)
          rintro e V1 ⟨rfl, hb1⟩
          have HM1 := Lib.hid ((HM.out.next hb1).next (ballocR V1 (.cells #[.int .i64 k, .int .i64 j, .string ⟨t.toArray⟩, .int .u64 m] 33)))
          obtain ⟨d0, d1, d2, d3⟩ := Box4.cells (k := k) (p := j) (t := ⟨t.toArray⟩) (n := m) (new_at V1 (.cells #[.int .i64 k, .int .i64 j, .string ⟨t.toArray⟩, .int .u64 m] 33))
          clear hWN hb1 HM
          go_upto_region 9 with fail
          have hszz : V1.heap.size + 1 = (V1.alloc (.cells #[.int .i64 k, .int .i64 j, .string ⟨t.toArray⟩, .int .u64 m] 33)).heap.size := by simp
          generalize V1.alloc (.cells #[.int .i64 k, .int .i64 j, .string ⟨t.toArray⟩, .int .u64 m] 33) = V2 at *
          have HM2 := Lib.hid (HM1.out.next (ballocR V2 (.cells #[.int .i64 k, .int .i64 j, .string ⟨t.toArray⟩, .int .u64 m] 33)))
          have C5 := Lib.hid HM2.out.bel.size
          clear HM1 hszz
          go_wp2_with (first
            | (at_builtin; refine wpList_append_own _ rfl _ _ 23 rfl w.heap.size 33 i0 (.agg #[.int .i64 0, .int .i64 0, .string ⟨#[]⟩, .int .u64 0]) 4 40 Tryz.underlying23 hi hz0 hz1 hz2 rfl (by decide) _ _ _ rfl HM2.out.own ⟨V2.heap.size, 0, none⟩ 1 1 (wdOne (⟨k, t, m⟩, j)) rfl rfl (four_new _ _ _ _ _ _) C1.out C3.out C4.out C5.out ?_; intro v' w2 hown' hgrow _; obtain ⟨a2, c2, rfl⟩ := owns_form hown'; have HN := Lib.hid (HM2.out.more (p := (⟨k, t, m⟩, j)) hgrow hown'); clear hown' hgrow d0 d1 d2 d3)
            | (go_at_call 32; refine (HS2.out _).mono ?_; rintro e w' ⟨rfl, rfl⟩))
          go_roundg (s.size - j2)
          case measure => omega
          case rel => exact ⟨l ++ [(⟨k, t, m⟩, j)], j2, ok2, rfl, rfl, rfl, hj2b.2, by simp; omega, HN.out, HNX.out⟩
      · obtain rfl : j = s.size := by omega
        have HR : Hid (R = (l, 0, 0)) := Lib.hid (by
          rw [HLX.out, ← HQ.out, rest_end (by rw [sz]; exact Nat.le_refl _)]
          simp)
        obtain rfl := HR.out
        clear HR HLX HQ HSK HWD
        go_wp2_with fail
        go_ret3
        exact ⟨_, rfl, HM.out.own, HM.out.bel⟩

set_option maxRecDepth 100000 in
set_option maxHeartbeats 4000000 in
theorem rlex_any (s : ByteArray) (W : World) (hs : s.size ≤ 281474976710656) :
    Calls Tryz.prog 13 #[.string s] W (SomeQ (lexL s) W) := by
  have hR := rsome_any s W hs
  unfold lexL
  generalize lexR s = R at *
  obtain ⟨l, a, e⟩ := R
  simp only
  have HR := Lib.hid hR
  clear hR
  by_cases he : e = 0
  · subst he
    rw [if_pos rfl]
    go_enter Tryz.func13, Tryz.ntmps13
    go_wp2_with fail
    refine HR.out.mono ?_
    rintro e w1 ⟨v, rfl, ho, hb⟩
    obtain ⟨av, cv, rfl⟩ := owns_form ho
    have HO := Lib.hid ho
    clear HR ho
    go_wp2_with fail
    go_ret3
    exact ⟨_, rfl, HO.out, hb⟩
  · rw [if_neg he]
    have hez : ((e : Int) != 0) = true := by simp; omega
    clear he
    go_enter Tryz.func13, Tryz.ntmps13
    go_wp2_with fail
    refine HR.out.mono ?_
    rintro e w1 ⟨v, rfl, ho, hb⟩
    obtain ⟨av, cv, rfl⟩ := owns_form ho
    clear HR ho
    go_wp2_with fail
    go_ret3
    exact ⟨_, rfl, World.ownsRow_nil _ _ _ _, hb⟩
end Go.Proofs.YtimhhacfjgbomaaGreatDoor
