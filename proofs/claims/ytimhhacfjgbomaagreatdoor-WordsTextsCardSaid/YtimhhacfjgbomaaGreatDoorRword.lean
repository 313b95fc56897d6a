/-
  THE WALK of the document's Word: the one that begins at a place.
-/
import Derived.Test.YtimhhacfjgbomaaGreatDoorRquoted
import Derived.Test.YtimhhacfjgbomaaGreatDoorRmay
namespace Go.Proofs.YtimhhacfjgbomaaGreatDoor
set_option linter.unusedSimpArgs false
set_option linter.unusedVariables false
open Go.RowKit Go.Shelf

/-- How Word ends. -/
def RWordQ (a : Nat) (r : Option (Wd × Nat)) (e : Ending) : Prop := match r with
  | some p => e = .returned (.tuple #[.agg #[.int .i64 p.1.k, .int .i64 a, .string ⟨p.1.t.toArray⟩, .int .u64 p.1.n], .int .i64 ((a + p.2 : Nat) : Int), .bool true])
  | none => ∃ (k m n : Int) (t : ByteArray), e = .returned (.tuple #[.agg #[.int .i64 k, .int .i64 a, .string t, .int .u64 n], .int .i64 m, .bool false])
/-- What is known within it. -/
structure RwI (w : World) (b a : Nat) (k : Int) (t : ByteArray) (n : Int) (V : World) : Prop where
  res : Box4 V b 0 0 ⟨#[]⟩ 0
  loc : Box4 V (b + 1) k a t n
  bel : Below w.heap.size w V
  old : w.heap.size ≤ b
theorem RwI.start {w : World} {b a : Nat} (hb : w.heap.size = b) : RwI w b a 0 ⟨#[]⟩ 0 ((w.alloc (.cells #[.int .i64 0, .int .i64 0, .string ⟨#[]⟩, .int .u64 0] 33)).alloc (.cells #[.int .i64 0, .int .i64 a, .string ⟨#[]⟩, .int .u64 0] 33)) :=
  ⟨new_old (new_at' hb _), new_at' (by simp [hb]) _, (ballocR w _).trans ((ballocR _ _).mono (by simp)), by omega⟩
theorem RwI.next {w : World} {b a : Nat} {k n : Int} {t : ByteArray} {V V' : World} (h : RwI w b a k t n V) (hg : Below V.heap.size V V') : RwI w b a k t n V' :=
  ⟨h.res.next hg, h.loc.next hg, h.bel.trans (hg.mono h.bel.size), h.old⟩
theorem RwI.set0 {w : World} {b a : Nat} {k n : Int} {t : ByteArray} {V : World} (h : RwI w b a k t n V) (x : Int) : RwI w b a x t n (V.setCell ⟨b + 1, 0, none⟩ (.int .i64 x)) :=
  ⟨h.res.other (by omega) _, h.loc.set0 x, h.bel.setCell (by have := h.old; simp; omega) _, h.old⟩
theorem RwI.set2 {w : World} {b a : Nat} {k n : Int} {t : ByteArray} {V : World} (h : RwI w b a k t n V) (x : ByteArray) : RwI w b a k x n (V.setCell ⟨b + 1, 2, none⟩ (.string x)) :=
  ⟨h.res.other (by omega) _, h.loc.set2 x, h.bel.setCell (by have := h.old; simp; omega) _, h.old⟩
theorem RwI.set3 {w : World} {b a : Nat} {k n : Int} {t : ByteArray} {V : World} (h : RwI w b a k t n V) (x : Int) : RwI w b a k t x (V.setCell ⟨b + 1, 3, none⟩ (.int .u64 x)) :=
  ⟨h.res.other (by omega) _, h.loc.set3 x, h.bel.setCell (by have := h.old; simp; omega) _, h.old⟩
theorem RwI.done {w : World} {b a : Nat} {k n : Int} {t : ByteArray} {V : World} (h : RwI w b a k t n V) :
    ∃ V', (((V.setCell ⟨b, 0, none⟩ (.int .i64 k)).setCell ⟨b, 1, none⟩ (.int .i64 a)).setCell ⟨b, 2, none⟩ (.string t)).setCell ⟨b, 3, none⟩ (.int .u64 n) = V' ∧ Box4 V' b k a t n ∧ Below w.heap.size w V' := by
  have ho := h.old
  exact ⟨_, rfl, (((h.res.set0 k).set1 a).set2 t).set3 n, (((h.bel.setCell ho _).setCell ho _).setCell ho _).setCell ho _⟩
theorem run_end (L : List UInt8) (a : Nat) : runL (L.drop a) = (L.drop a).take (runL (L.drop a)).length := (List.prefix_iff_eq_take.1 (List.takeWhile_prefix _))
theorem run_step {L : List UInt8} {k : Nat} (h : k < L.length) (hd : runB L[k] = true) : runL (L.drop k) = L[k] :: runL (L.drop (k + 1)) := by
  rw [List.drop_eq_getElem_cons h]
  unfold runL
  rw [List.takeWhile_cons_of_pos hd]
theorem run_stop {L : List UInt8} {k : Nat} (h : k < L.length) (hd : runB L[k] = false) : runL (L.drop k) = [] := by
  rw [List.drop_eq_getElem_cons h]
  unfold runL
  rw [List.takeWhile_cons_of_neg (by simp [hd])]
theorem cls_letter {c : Nat} (h : letN c = true) : cls c = 1 := by unfold cls; rw [if_pos h]
theorem cls_digit {c : Nat} (h1 : letN c = false) (h : digN c = true) : cls c = 2 := by unfold cls; rw [if_neg (by rw [h1]; decide), if_pos h]
theorem dig_runL {c : UInt8} {r : List UInt8} (h1 : letN c.toNat = false) (h : digN c.toNat = true) : word1 (c :: r) = (rnum (c :: r)).map fun p => (⟨4, [], p.1⟩, p.2) := by
  rw [w1_num (cls_digit h1 h), rnum_eq h]
  cases numB (runL (c :: r)) <;> rfl

theorem textV_word (a k : Nat) (f : List UInt8 → Bool) (r : Option (List UInt8 × Nat)) : ∃ (T : ByteArray) (m : Int) (ok : Bool), textV a f r = .tuple #[.string T, .int .i64 m, .bool ok] ∧
    RWordQ a (mkW k f r) (.returned (.tuple #[.agg #[.int .i64 k, .int .i64 a, .string T, .int .u64 0], .int .i64 m, .bool ok])) := by
  cases r with
  | none => exact ⟨⟨#[]⟩, a, false, rfl, _, _, _, _, rfl⟩
  | some p =>
    refine ⟨⟨p.1.toArray⟩, ((a + 1 + p.2 : Nat) : Int), f p.1, rfl, ?_⟩
    cases h : f p.1 with
    | true =>
      rw [show mkW k f (some p) = some (⟨k, p.1, 0⟩, p.2 + 1) from if_pos h]
      show _ = Ending.returned (.tuple #[.agg #[.int .i64 k, .int .i64 a, .string ⟨p.1.toArray⟩, .int .u64 0], .int .i64 ((a + (p.2 + 1) : Nat) : Int), .bool true])
      rw [show a + (p.2 + 1) = a + 1 + p.2 by omega]
    | false =>
      rw [show mkW k f (some p) = none from if_neg (by rw [h]; decide)]
      exact ⟨_, _, _, _, rfl⟩
theorem num_word {a : Nat} {r : Option (Nat × Nat)} {e : Ending} (h : NumQ a r e) : ∃ (x m : Int) (ok : Bool), e = .returned (.tuple #[.int .u64 x, .int .i64 m, .bool ok]) ∧
    RWordQ a (r.map fun p => (⟨4, [], p.1⟩, p.2)) (.returned (.tuple #[.agg #[.int .i64 4, .int .i64 a, .string ⟨#[]⟩, .int .u64 x], .int .i64 m, .bool ok])) := by
  cases r with
  | none => obtain ⟨x, y, rfl⟩ := h; exact ⟨x, y, false, rfl, _, _, _, _, rfl⟩
  | some p => obtain rfl := h; exact ⟨_, _, true, rfl, rfl⟩
theorem first_step {l : List (List UInt8)} {u x : List UInt8} {j : Nat} (h : l[j]? = some x) : firstL (l.drop j) u = if x.isPrefixOf u then some x else firstL (l.drop (j + 1)) u := by
  obtain ⟨hlt, hx⟩ := List.getElem?_eq_some_iff.1 h
  rw [List.drop_eq_getElem_cons hlt, hx]
  rfl

set_option maxRecDepth 100000 in
set_option maxHeartbeats 16000000 in
theorem rword_any (s : ByteArray) (a : Nat) (w : World) (hs : s.size ≤ 1048576) (ha : a < s.size) :
    Calls Tryz.prog 33 #[.string s, .int .i64 a] w fun e w' => RWordQ a (word1 (s.data.toList.drop a)) e ∧ Below w.heap.size w w' := by
  obtain ⟨b, hb⟩ : ∃ b, w.heap.size = b := ⟨_, rfl⟩
  have hI := RwI.start (a := a) hb
  have HI := Lib.hid hI
  obtain ⟨ANS, hA⟩ : ∃ A, word1 (s.data.toList.drop a) = A := ⟨_, rfl⟩
  rw [hA]
  have HA := Lib.hid hA
  have HD := Lib.hid (drop_at ha)
  have HBB := Lib.hid hb
  have HLET := Lib.hid fun (c : UInt8) V => rletter_any c V
  have HDIG := Lib.hid fun (c : UInt8) V => rdigit_any c V
  clear hA hI
  go_enter Tryz.func33, Tryz.ntmps33
  go_wp2_with fail
  generalize (w.alloc (.cells #[.int .i64 0, .int .i64 0, .string ⟨#[]⟩, .int .u64 0] 33)).alloc (.cells #[.int .i64 0, .int .i64 a, .string ⟨#[]⟩, .int .u64 0] 33) = V at *
  clear hb
  cases hl : letN s[a].toNat with
  | true =>
    have HC := Lib.hid (HLET.out s[a])
    rw [hl] at HC
    have HR : Hid (ANS = if (runL (s.data.toList.drop a)).length ≤ 64 then some (⟨1, runL (s.data.toList.drop a), 0⟩, (runL (s.data.toList.drop a)).length) else none) := Lib.hid (by
      rw [← HA.out, HD.out]; exact w1_name (cls_letter hl))
    have HLL := Lib.hid hl
    clear hl HA
    go_upto_region 5 with (go_at_call 60; refine (HC.out _).mono ?_; rintro e w' ⟨rfl, rfl⟩)
    go_loopg [9] (s.size - a) (fun gk u wr => V = wr ∧ ∃ k : Nat, gk = s.size - k ∧ u = .int .i64 k ∧ a ≤ k ∧ k ≤ s.size ∧ (runL (s.data.toList.drop a)).length = (k - a) + (runL (s.data.toList.drop k)).length)
    case atStart => exact ⟨rfl, a, rfl, rfl, Nat.le_refl _, by omega, by omega⟩
    case round =>
      obtain ⟨rfl, k, rfl, rfl, hak, hk, hq⟩ := hrel
      have HQ := Lib.hid hq
      clear hq
      by_cases hgo : ∃ h : k < s.size, runB s[k] = true
      · obtain ⟨hlt, hrb⟩ := hgo
        have HNX : Hid ((runL (s.data.toList.drop a)).length = (k + 1 - a) + (runL (s.data.toList.drop (k + 1))).length) := Lib.hid (by
          rw [HQ.out, run_step (L := s.data.toList) (k := k) (by rw [sz]; exact hlt) (by rw [get_list hlt]; exact hrb), List.length_cons]
          omega)
        have HL2 := Lib.hid (HLET.out s[k])
        have HG2 := Lib.hid (HDIG.out s[k])
        unfold runB at hrb
        cases hl : letN s[k].toNat with
        | true =>
          rw [hl] at HL2
          clear hl hrb
          go_wp2_with (go_at_call 60; refine (HL2.out _).mono ?_; rintro e w' ⟨rfl, rfl⟩)
          go_roundg (s.size - (k + 1))
          case measure => omega
          case rel => exact ⟨rfl, k + 1, rfl, rfl, by omega, hlt, HNX.out⟩
        | false =>
          rw [hl] at HL2 hrb
          rw [Bool.false_or] at hrb
          rw [hrb] at HG2
          clear hl hrb
          go_wp2_with (first | (go_at_call 60; refine (HL2.out _).mono ?_; rintro e w' ⟨rfl, rfl⟩) | (go_at_call 61; refine (HG2.out _).mono ?_; rintro e w' ⟨rfl, rfl⟩))
          go_roundg (s.size - (k + 1))
          case measure => omega
          case rel => exact ⟨rfl, k + 1, rfl, rfl, by omega, hlt, HNX.out⟩
      · have hend : Hid ((runL (s.data.toList.drop a)).length = k - a) := Lib.hid (by
          rw [HQ.out]
          by_cases hlt : k < s.size
          · rw [run_stop (L := s.data.toList) (k := k) (by rw [sz]; exact hlt) (by rw [get_list hlt]; cases h : runB s[k]; rfl; exact absurd ⟨hlt, h⟩ hgo)]; simp
          · rw [quot_at (by omega)]; simp [runL])
        have HTX : Hid (s.extract a k = ⟨(runL (s.data.toList.drop a)).toArray⟩) := Lib.hid (ba_ext (by
          rw [extract_take, ← hend.out, ← run_end]))
        have HNB : Hid (nameB (runL (s.data.toList.drop a)) = decide ((runL (s.data.toList.drop a)).length ≤ 64)) := Lib.hid (by
          have hne : runL (s.data.toList.drop a) ≠ [] := by
            rw [run_step (L := s.data.toList) (k := a) (by rw [sz]; exact ha) (by rw [get_list ha]; unfold runB; rw [HLL.out]; rfl)]; simp
          by_cases h64 : (runL (s.data.toList.drop a)).length ≤ 64
          · rw [nameB_run run_mem hne h64]; simp [h64]
          · simp [nameB, h64])
        have hor : k = s.size ∨ ∃ h : k < s.size, letN s[k].toNat = false ∧ digN s[k].toNat = false := by
          rcases Nat.lt_or_ge k s.size with h | h
          · right
            refine ⟨h, ?_⟩
            have : runB s[k] = false := by cases h2 : runB s[k]; rfl; exact absurd ⟨h, h2⟩ hgo
            unfold runB at this
            simpa using this
          · left; omega
        have HI2 := HI
        clear hgo HQ HI
        have hnm : ∀ W, Calls Tryz.prog 19 #[.string (s.extract a k)] W fun e w' => e = .returned (.bool (decide ((runL (s.data.toList.drop a)).length ≤ 64))) ∧ W = w' := fun W => by
          have hsz : (s.extract a k).size ≤ s.size := by rw [ByteArray.size_extract]; omega
          have := rname_any (s.extract a k) W (by omega)
          rw [HTX.out] at this ⊢
          rw [← HNB.out]
          exact this
        have HNM := Lib.hid hnm
        have HFIN : Hid (RWordQ a ANS (.returned (.tuple #[.agg #[.int .i64 1, .int .i64 a, .string (s.extract a k), .int .u64 0], .int .i64 k, .bool (decide ((runL (s.data.toList.drop a)).length ≤ 64))]))) := Lib.hid (by
          rw [HR.out, HTX.out]
          have hk2 := hend.out
          by_cases h64 : (runL (s.data.toList.drop a)).length ≤ 64
          · rw [if_pos h64, decide_eq_true h64]
            show _ = Ending.returned (.tuple #[.agg #[.int .i64 1, .int .i64 a, .string ⟨(runL (s.data.toList.drop a)).toArray⟩, .int .u64 0], .int .i64 ((a + (runL (s.data.toList.drop a)).length : Nat) : Int), .bool true])
            rw [hk2, show a + (k - a) = k by omega]
          · rw [if_neg h64, decide_eq_false h64]
            exact ⟨_, _, _, _, rfl⟩)
        clear hnm
        rcases hor with hor | ⟨hlt, hl, hd⟩
        · have hks : ¬ (k : Int) < s.size := by omega
          clear hor
          go_upto_region 7 with fail
          have b0 : (0 : Int) ≤ a := by omega
          have b1 : (a : Int) ≤ k := by omega
          have b2 : (k : Int) ≤ s.size := by omega
          obtain ⟨c0, c1, c2, c3⟩ := HI2.out.loc.cells
          have f0 := HI2.out.loc.fr 0
          have f2 := HI2.out.loc.fr 2
          go_region_with (fail)
          all_goals
            have HI5 := Lib.hid (((HI2.out.set0 1).set2 (s.extract a k)).next (Below.refl _ _).drew)
            generalize s.extract a k = T at *
            generalize World.drew _ = V5 at *
            clear c0 c1 c2 c3 f0 f2 HI2 HLET HDIG HC
            obtain ⟨c0, c1, c2, c3⟩ := HI5.out.loc.cells
            obtain ⟨q0, q1, q2, q3⟩ := HI5.out.res.cells
            have g0 := HI5.out.res.fr 0
            have g1 := HI5.out.res.fr 1
            have g2 := HI5.out.res.fr 2
            have g3 := HI5.out.res.fr 3
            go_wp2_with fail
            go_region_with (go_at_call 19; refine (HNM.out _).mono ?_; rintro e w' ⟨rfl, rfl⟩)
            all_goals
              obtain ⟨V9, e9, s9, o9⟩ := HI5.out.done
              go_wp2_with fail
              rw [e9]
              obtain ⟨d0, d1, d2, d3⟩ := (s9.next (Below.refl _ _).drew).cells
              exact bodyPost_ret (v := .tuple #[.agg #[.int .i64 1, .int .i64 a, .string T, .int .u64 0], .int .i64 k, .bool (decide ((runL (s.data.toList.drop a)).length ≤ 64))]) (by simp [results, Tryz.results33, go_sem, d0, d1, d2, d3]) rfl ⟨HFIN.out, o9.drew⟩
        · have HL2 := Lib.hid (HLET.out s[k])
          have HG2 := Lib.hid (HDIG.out s[k])
          rw [hl] at HL2
          rw [hd] at HG2
          clear hl hd
          go_upto_region 7 with (first | (go_at_call 60; refine (HL2.out _).mono ?_; rintro e w' ⟨rfl, rfl⟩) | (go_at_call 61; refine (HG2.out _).mono ?_; rintro e w' ⟨rfl, rfl⟩))
          clear HL2 HG2
          have b0 : (0 : Int) ≤ a := by omega
          have b1 : (a : Int) ≤ k := by omega
          have b2 : (k : Int) ≤ s.size := by omega
          obtain ⟨c0, c1, c2, c3⟩ := HI2.out.loc.cells
          have f0 := HI2.out.loc.fr 0
          have f2 := HI2.out.loc.fr 2
          go_region_with (fail)
          all_goals
            have HI5 := Lib.hid (((HI2.out.set0 1).set2 (s.extract a k)).next (Below.refl _ _).drew)
            generalize s.extract a k = T at *
            generalize World.drew _ = V5 at *
            clear c0 c1 c2 c3 f0 f2 HI2 HLET HDIG HC
            obtain ⟨c0, c1, c2, c3⟩ := HI5.out.loc.cells
            obtain ⟨q0, q1, q2, q3⟩ := HI5.out.res.cells
            have g0 := HI5.out.res.fr 0
            have g1 := HI5.out.res.fr 1
            have g2 := HI5.out.res.fr 2
            have g3 := HI5.out.res.fr 3
            go_wp2_with fail
            go_region_with (go_at_call 19; refine (HNM.out _).mono ?_; rintro e w' ⟨rfl, rfl⟩)
            all_goals
              obtain ⟨V9, e9, s9, o9⟩ := HI5.out.done
              go_wp2_with fail
              rw [e9]
              obtain ⟨d0, d1, d2, d3⟩ := (s9.next (Below.refl _ _).drew).cells
              exact bodyPost_ret (v := .tuple #[.agg #[.int .i64 1, .int .i64 a, .string T, .int .u64 0], .int .i64 k, .bool (decide ((runL (s.data.toList.drop a)).length ≤ 64))]) (by simp [results, Tryz.results33, go_sem, d0, d1, d2, d3]) rfl ⟨HFIN.out, o9.drew⟩
  | false =>
    have HC := Lib.hid (HLET.out s[a])
    rw [hl] at HC
    have HLL := Lib.hid hl
    clear hl
    have hcases : s[a].toNat = 96 ∨ s[a].toNat = 39 ∨ s[a].toNat = 34 ∨ (s[a].toNat ≠ 96 ∧ s[a].toNat ≠ 39 ∧ s[a].toNat ≠ 34) := by omega
    rcases hcases with h | h | h | ⟨h1, h2, h3⟩
    · have HR : Hid (ANS = mkW 2 nameB (quotL (s.data.toList.drop (a + 1)))) := Lib.hid (by
        rw [← HA.out, HD.out]; exact w1_quot (by rw [h]; decide))
      have z : ((s[a].toNat : Int) == 96) = true := by rw [h]; rfl
      clear HA h
      obtain ⟨T, m, ok, hv, hf⟩ := textV_word a 2 nameB (quotL (s.data.toList.drop (a + 1)))
      have hQ := rquoted_any s a V hs ha
      rw [hv] at hQ
      rw [← HR.out] at hf
      have HQ := Lib.hid hQ
      have HF := Lib.hid hf
      clear hQ hf hv HDIG HLET HR
      go_wp2_with (first | (go_at_call 60; refine (HC.out _).mono ?_; rintro e w' ⟨rfl, rfl⟩) | (go_at_call 62; refine HQ.out.mono ?_))
      rintro e V1 ⟨rfl, hb1⟩
      have HI1 := Lib.hid (HI.out.next hb1)
      clear hb1 HI HQ HC
      obtain ⟨c0, c1, c2, c3⟩ := HI1.out.loc.cells
      have f0 := HI1.out.loc.fr 0
      have f2 := HI1.out.loc.fr 2
      go_upto_region 12 with fail
      have HI5 := Lib.hid ((HI1.out.set0 2).set2 T)
      generalize (V1.setCell ⟨b + 1, 0, none⟩ (.int .i64 2)).setCell ⟨b + 1, 2, none⟩ (.string T) = V5 at *
      clear c0 c1 c2 c3 f0 f2 HI1
      obtain ⟨c0, c1, c2, c3⟩ := HI5.out.loc.cells
      obtain ⟨q0, q1, q2, q3⟩ := HI5.out.res.cells
      have g0 := HI5.out.res.fr 0
      have g1 := HI5.out.res.fr 1
      have g2 := HI5.out.res.fr 2
      have g3 := HI5.out.res.fr 3
      go_wp2_with fail
      obtain ⟨V9, e9, s9, o9⟩ := HI5.out.done
      rw [e9]
      obtain ⟨d0, d1, d2, d3⟩ := s9.cells
      exact bodyPost_ret (v := .tuple #[.agg #[.int .i64 2, .int .i64 a, .string T, .int .u64 0], .int .i64 m, .bool ok]) (by simp [results, Tryz.results33, go_sem, d0, d1, d2, d3]) rfl ⟨HF.out, o9⟩
    · have HR : Hid (ANS = mkW 3 Lib.validD (textL s[a] (s.data.toList.drop (a + 1)))) := Lib.hid (by
        rw [← HA.out, HD.out]; exact w1_text (by rw [h]; decide))
      have z : ((s[a].toNat : Int) == 96) = false := by rw [h]; rfl
      have z1 : ((s[a].toNat : Int) == 39) = true := by rw [h]; rfl
      have hne : s[a] ≠ 92 := fun e => by rw [e] at h; exact absurd h (by decide)
      clear HA h
      obtain ⟨T, m, ok, hv, hf⟩ := textV_word a 3 Lib.validD (textL s[a] (s.data.toList.drop (a + 1)))
      have hQ := rtext_any s a V hs ha hne
      rw [hv] at hQ
      rw [← HR.out] at hf
      have HQ := Lib.hid hQ
      have HF := Lib.hid hf
      clear hQ hf hv HDIG HLET HR
      go_wp2_with (first | (go_at_call 60; refine (HC.out _).mono ?_; rintro e w' ⟨rfl, rfl⟩) | (go_at_call 63; refine HQ.out.mono ?_))
      rintro e V1 ⟨rfl, hb1⟩
      have HI1 := Lib.hid (HI.out.next hb1)
      clear hb1 HI HQ HC
      obtain ⟨c0, c1, c2, c3⟩ := HI1.out.loc.cells
      have f0 := HI1.out.loc.fr 0
      have f2 := HI1.out.loc.fr 2
      go_upto_region 16 with fail
      have HI5 := Lib.hid ((HI1.out.set0 3).set2 T)
      generalize (V1.setCell ⟨b + 1, 0, none⟩ (.int .i64 3)).setCell ⟨b + 1, 2, none⟩ (.string T) = V5 at *
      clear c0 c1 c2 c3 f0 f2 HI1
      obtain ⟨c0, c1, c2, c3⟩ := HI5.out.loc.cells
      obtain ⟨q0, q1, q2, q3⟩ := HI5.out.res.cells
      have g0 := HI5.out.res.fr 0
      have g1 := HI5.out.res.fr 1
      have g2 := HI5.out.res.fr 2
      have g3 := HI5.out.res.fr 3
      go_wp2_with fail
      obtain ⟨V9, e9, s9, o9⟩ := HI5.out.done
      rw [e9]
      obtain ⟨d0, d1, d2, d3⟩ := s9.cells
      exact bodyPost_ret (v := .tuple #[.agg #[.int .i64 3, .int .i64 a, .string T, .int .u64 0], .int .i64 m, .bool ok]) (by simp [results, Tryz.results33, go_sem, d0, d1, d2, d3]) rfl ⟨HF.out, o9⟩
    · have HR : Hid (ANS = mkW 3 Lib.validD (textL s[a] (s.data.toList.drop (a + 1)))) := Lib.hid (by
        rw [← HA.out, HD.out]; exact w1_text (by rw [h]; decide))
      have z : ((s[a].toNat : Int) == 96) = false := by rw [h]; rfl
      have z1 : ((s[a].toNat : Int) == 39) = false := by rw [h]; rfl
      have z2 : ((s[a].toNat : Int) == 34) = true := by rw [h]; rfl
      have hne : s[a] ≠ 92 := fun e => by rw [e] at h; exact absurd h (by decide)
      clear HA h
      obtain ⟨T, m, ok, hv, hf⟩ := textV_word a 3 Lib.validD (textL s[a] (s.data.toList.drop (a + 1)))
      have hQ := rtext_any s a V hs ha hne
      rw [hv] at hQ
      rw [← HR.out] at hf
      have HQ := Lib.hid hQ
      have HF := Lib.hid hf
      clear hQ hf hv HDIG HLET HR
      go_wp2_with (first | (go_at_call 60; refine (HC.out _).mono ?_; rintro e w' ⟨rfl, rfl⟩) | (go_at_call 63; refine HQ.out.mono ?_))
      rintro e V1 ⟨rfl, hb1⟩
      have HI1 := Lib.hid (HI.out.next hb1)
      clear hb1 HI HQ HC
      obtain ⟨c0, c1, c2, c3⟩ := HI1.out.loc.cells
      have f0 := HI1.out.loc.fr 0
      have f2 := HI1.out.loc.fr 2
      go_upto_region 16 with fail
      have HI5 := Lib.hid ((HI1.out.set0 3).set2 T)
      generalize (V1.setCell ⟨b + 1, 0, none⟩ (.int .i64 3)).setCell ⟨b + 1, 2, none⟩ (.string T) = V5 at *
      clear c0 c1 c2 c3 f0 f2 HI1
      obtain ⟨c0, c1, c2, c3⟩ := HI5.out.loc.cells
      obtain ⟨q0, q1, q2, q3⟩ := HI5.out.res.cells
      have g0 := HI5.out.res.fr 0
      have g1 := HI5.out.res.fr 1
      have g2 := HI5.out.res.fr 2
      have g3 := HI5.out.res.fr 3
      go_wp2_with fail
      obtain ⟨V9, e9, s9, o9⟩ := HI5.out.done
      rw [e9]
      obtain ⟨d0, d1, d2, d3⟩ := s9.cells
      exact bodyPost_ret (v := .tuple #[.agg #[.int .i64 3, .int .i64 a, .string T, .int .u64 0], .int .i64 m, .bool ok]) (by simp [results, Tryz.results33, go_sem, d0, d1, d2, d3]) rfl ⟨HF.out, o9⟩
    · have z : ((s[a].toNat : Int) == 96) = false := by simp; omega
      have z1 : ((s[a].toNat : Int) == 39) = false := by simp; omega
      have z2 : ((s[a].toNat : Int) == 34) = false := by simp; omega
      have HG := Lib.hid (HDIG.out s[a])
      cases hd : digN s[a].toNat with
      | true =>
        rw [hd] at HG
        have HR : Hid (ANS = (rnum (s.data.toList.drop a)).map fun p => (⟨4, [], p.1⟩, p.2)) := Lib.hid (by
          rw [← HA.out, HD.out]; exact dig_runL HLL.out hd)
        have HQ := Lib.hid (rnumber_any s a V hs ha)
        clear hd HA h1 h2 h3 HDIG HLET
        go_upto_region 18 with (first | (go_at_call 60; refine (HC.out _).mono ?_; rintro e w' ⟨rfl, rfl⟩) | (go_at_call 61; refine (HG.out _).mono ?_; rintro e w' ⟨rfl, rfl⟩))
        go_wp2_with (go_at_call 64; refine HQ.out.mono ?_)
        rintro e V1 ⟨hnq, rfl⟩
        obtain ⟨x, m, ok, rfl, hf⟩ := num_word hnq
        rw [← HR.out] at hf
        have HF := Lib.hid hf
        clear hf hnq HQ HC HG HR
        obtain ⟨c0, c1, c2, c3⟩ := HI.out.loc.cells
        have f0 := HI.out.loc.fr 0
        have f3 := HI.out.loc.fr 3
        go_upto_region 20 with fail
        have HI5 := Lib.hid ((HI.out.set0 4).set3 x)
        generalize (V.setCell ⟨b + 1, 0, none⟩ (.int .i64 4)).setCell ⟨b + 1, 3, none⟩ (.int .u64 x) = V5 at *
        clear c0 c1 c2 c3 f0 f3 HI
        obtain ⟨c0, c1, c2, c3⟩ := HI5.out.loc.cells
        obtain ⟨q0, q1, q2, q3⟩ := HI5.out.res.cells
        have g0 := HI5.out.res.fr 0
        have g1 := HI5.out.res.fr 1
        have g2 := HI5.out.res.fr 2
        have g3 := HI5.out.res.fr 3
        go_wp2_with fail
        obtain ⟨V9, e9, s9, o9⟩ := HI5.out.done
        rw [e9]
        obtain ⟨d0, d1, d2, d3⟩ := s9.cells
        exact bodyPost_ret (v := .tuple #[.agg #[.int .i64 4, .int .i64 a, .string ⟨#[]⟩, .int .u64 x], .int .i64 m, .bool ok]) (by simp [results, Tryz.results33, go_sem, d0, d1, d2, d3]) rfl ⟨HF.out, o9⟩
      | false =>
        rw [hd] at HG
        have HR : Hid (ANS = (firstL signL (s.data.toList.drop a)).map fun x => (⟨5, x, 0⟩, x.length)) := Lib.hid (by
          rw [← HA.out, HD.out]; exact word1_sign HLL.out hd (by omega) h1)
        have HSG := Lib.hid (signs_any V)
        clear hd HA h1 h2 h3 HDIG HLET
        go_upto_region 21 with (first | (go_at_call 60; refine (HC.out _).mono ?_; rintro e w' ⟨rfl, rfl⟩) | (go_at_call 61; refine (HG.out _).mono ?_; rintro e w' ⟨rfl, rfl⟩))
        clear HC HG
        go_wp2_with (go_at_call 65; refine HSG.out.mono ?_)
        rintro e V1 ⟨rfl, hblk, hb1, hgt⟩
        have HI1 := Lib.hid (HI.out.next hb1)
        have HG1 : Hid (V.heap.size ≠ b ∧ V.heap.size ≠ b + 1 ∧ V.heap.size < V1.heap.size) := Lib.hid ⟨by have := HI.out.res.lt; omega, by have := HI.out.loc.lt; omega, hgt⟩
        generalize V.heap.size = G at *
        have HK := Lib.hid hblk
        clear hblk hb1 HI HSG hgt
        go_wp2_with fail
        go_loopg [20] 22 (fun gk v wr => V1 = wr ∧ ∃ j : Nat, gk = 22 - j ∧ v = .int .i64 j ∧ j ≤ 22 ∧ firstL signL (s.data.toList.drop a) = firstL (signL.drop j) (s.data.toList.drop a))
        case atStart => exact ⟨rfl, 0, rfl, rfl, by omega, rfl⟩
        case round =>
          obtain ⟨rfl, j, rfl, rfl, hj, hq⟩ := hrel
          have HQ := Lib.hid hq
          clear hq
          by_cases hlt : j < 22
          · obtain ⟨T, hc, hk⟩ := sg_at HK.out hlt
            have HKK := Lib.hid hk
            have hTs : T.size ≤ 2 := by
              have h1 := List.mem_of_getElem? hk
              have h2 := sign_two _ h1
              rw [sz] at h2; exact h2
            have HST := Lib.hid (rstarts_any s a T V1 (by omega) (by omega) (by omega))
            clear hk
            cases hp : T.data.toList.isPrefixOf (s.data.toList.drop a) with
            | false =>
              rw [hp] at HST
              have HQ2 : Hid (firstL signL (s.data.toList.drop a) = firstL (signL.drop (j + 1)) (s.data.toList.drop a)) := Lib.hid (by
                rw [HQ.out, first_step HKK.out, hp]; rfl)
              clear hp
              go_wp2_with (go_at_call 59; refine HST.out.mono ?_; rintro e w' ⟨rfl, rfl⟩)
              go_roundg (22 - (j + 1))
              case measure => omega
              case rel => exact ⟨rfl, j + 1, rfl, rfl, hlt, HQ2.out⟩
            | true =>
              rw [hp] at HST
              have HF : Hid (RWordQ a ANS (.returned (.tuple #[.agg #[.int .i64 5, .int .i64 a, .string T, .int .u64 0], .int .i64 ((a : Int) + (T.size : Int)), .bool true]))) := Lib.hid (by
                rw [HR.out, HQ.out, first_step HKK.out, hp, if_pos (by rfl)]
                show _ = Ending.returned (.tuple #[.agg #[.int .i64 5, .int .i64 a, .string ⟨T.data.toList.toArray⟩, .int .u64 0], .int .i64 ((a + T.data.toList.length : Nat) : Int), .bool true])
                rw [sz]
                rfl)
              have hw1 : IntKind.i64.wrap ((a : Int) + (T.size : Int)) = (a : Int) + (T.size : Int) := IntWalk.i64_in _ (by omega)
              clear hp HR HQ
              go_upto_region 26 with (go_at_call 59; refine HST.out.mono ?_; rintro e w' ⟨rfl, rfl⟩)
              clear HST
              obtain ⟨c0, c1, c2, c3⟩ := HI1.out.loc.cells
              have f0 := HI1.out.loc.fr 0
              have f2 := HI1.out.loc.fr 2
              have y0 : (0 : Int) ≤ j := by omega
              have y1 : (j : Int) < 22 := by omega
              have HC5 : Hid ((((V1.setCell ⟨b + 1, 0, none⟩ (.int .i64 5)).setCell ⟨b + 1, 2, none⟩ (.string T)).drew).cell? ⟨G, j, none⟩ = some (.string T)) := Lib.hid (by
                obtain ⟨T', hc', hk'⟩ := sg_at (V := ((V1.setCell ⟨b + 1, 0, none⟩ (.int .i64 5)).setCell ⟨b + 1, 2, none⟩ (.string T)).drew) (g := G)
                  (((Below.heap_setCell (V1.setCell ⟨b + 1, 0, none⟩ (.int .i64 5)) ⟨b + 1, 2, none⟩ (.string T) G HG1.out.2.1).trans (Below.heap_setCell V1 ⟨b + 1, 0, none⟩ (.int .i64 5) G HG1.out.2.1)).trans HK.out) hlt
                have e := HKK.out
                rw [hk'] at e
                rw [hc', ba_ext (Option.some.inj e)])
              have hgb : ¬ G = b + 1 := HG1.out.2.1
              have hgb2 : ¬ b + 1 = G := fun e => hgb e.symm
              go_region
              all_goals
                have HI5 := Lib.hid (((HI1.out.set0 5).set2 T).next (Below.refl _ _).drew)
                generalize World.drew _ = V5 at *
                have hc5 := HC5.out
                clear c0 c1 c2 c3 f0 f2 HI1 hc HC5
                have hgc : ¬ G = b := HG1.out.1
                have hgc2 : ¬ b = G := fun e => hgc e.symm
                obtain ⟨c0, c1, c2, c3⟩ := HI5.out.loc.cells
                obtain ⟨q0, q1, q2, q3⟩ := HI5.out.res.cells
                have g0 := HI5.out.res.fr 0
                have g1 := HI5.out.res.fr 1
                have g2 := HI5.out.res.fr 2
                have g3 := HI5.out.res.fr 3
                go_wp2_with fail
                go_region
                all_goals
                  obtain ⟨V9, e9, s9, o9⟩ := HI5.out.done
                  go_wp2_with fail
                  rw [e9]
                  obtain ⟨d0, d1, d2, d3⟩ := (s9.next (Below.refl _ _).drew).cells
                  exact bodyPost_ret (v := .tuple #[.agg #[.int .i64 5, .int .i64 a, .string T, .int .u64 0], .int .i64 ((a : Int) + (T.size : Int)), .bool true]) (by simp [results, Tryz.results33, go_sem, d0, d1, d2, d3]) rfl ⟨HF.out, o9.drew⟩
          · obtain rfl : j = 22 := by omega
            have HF : Hid (∀ m, RWordQ a ANS (.returned (.tuple #[.agg #[.int .i64 0, .int .i64 a, .string ⟨#[]⟩, .int .u64 0], .int .i64 m, .bool false]))) := Lib.hid fun m => by
              rw [HR.out, HQ.out, List.drop_eq_nil_of_le (by rw [sg_len]; exact Nat.le_refl _)]
              exact ⟨_, _, _, _, rfl⟩
            clear HR HQ HK
            obtain ⟨c0, c1, c2, c3⟩ := HI1.out.loc.cells
            obtain ⟨q0, q1, q2, q3⟩ := HI1.out.res.cells
            have g0 := HI1.out.res.fr 0
            have g1 := HI1.out.res.fr 1
            have g2 := HI1.out.res.fr 2
            have g3 := HI1.out.res.fr 3
            go_wp2_with fail
            obtain ⟨V9, e9, s9, o9⟩ := HI1.out.done
            rw [e9]
            obtain ⟨d0, d1, d2, d3⟩ := s9.cells
            exact bodyPost_ret (v := .tuple #[.agg #[.int .i64 0, .int .i64 a, .string ⟨#[]⟩, .int .u64 0], .int .i64 a, .bool false]) (by simp [results, Tryz.results33, go_sem, d0, d1, d2, d3]) rfl ⟨HF.out _, o9⟩
end Go.Proofs.YtimhhacfjgbomaaGreatDoor
