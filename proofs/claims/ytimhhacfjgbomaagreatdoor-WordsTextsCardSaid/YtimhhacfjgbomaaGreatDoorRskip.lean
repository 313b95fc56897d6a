/-
  THE WALK of the document's skip: behind blanks and comments.
-/
import Derived.Test.YtimhhacfjgbomaaGreatDoorRlexa
namespace Go.Proofs.YtimhhacfjgbomaaGreatDoor
set_option linter.unusedSimpArgs false
set_option linter.unusedVariables false
open Go.RowKit Go.Shelf

theorem sk_go {L : List UInt8} {j n : Nat} (h : gap1 (L.drop j) = (n, true)) (hn : n ≠ 0) : skip (L.drop j) = (n + (skip (L.drop (j + n))).1, (skip (L.drop (j + n))).2) := by
  rw [skip_eq, h, if_neg hn, List.drop_drop]
theorem sk_stop {L : List UInt8} {j : Nat} {b : Bool} (h : gap1 (L.drop j) = (0, b)) : skip (L.drop j) = (0, b) := by
  rw [skip_eq, h, if_pos rfl]
theorem line_step {L : List UInt8} {k : Nat} (h : k < L.length) (hc : L[k] ≠ 10) : lineL (L.drop k) = lineL (L.drop (k + 1)) + 1 := by
  rw [List.drop_eq_getElem_cons h]
  show (if L[k] = 10 then 0 else _) = _
  rw [if_neg hc]
theorem line_stop {L : List UInt8} {k : Nat} (h : k < L.length) (hc : L[k] = 10) : lineL (L.drop k) = 0 := by
  rw [List.drop_eq_getElem_cons h]
  show (if L[k] = 10 then 0 else _) = _
  rw [if_pos hc]
theorem line_end {L : List UInt8} {k : Nat} (h : L.length ≤ k) : lineL (L.drop k) = 0 := by
  rw [List.drop_eq_nil_of_le h]; rfl
theorem end_step {L : List UInt8} {k : Nat} (h : k < L.length) (hn : [42, 47].isPrefixOf (L.drop k) = false) : endL (L.drop k) = (endL (L.drop (k + 1))).map (· + 1) := by
  rw [List.drop_eq_getElem_cons h] at hn ⊢
  show (if [42, 47].isPrefixOf (L[k] :: L.drop (k + 1)) = true then some 0 else _) = _
  rw [if_neg (by rw [hn]; decide)]
theorem end_stop {L : List UInt8} {k : Nat} (h : k < L.length) (hn : [42, 47].isPrefixOf (L.drop k) = true) : endL (L.drop k) = some 0 := by
  rw [List.drop_eq_getElem_cons h] at hn ⊢
  show (if [42, 47].isPrefixOf (L[k] :: L.drop (k + 1)) = true then some 0 else _) = _
  rw [if_pos hn]
theorem end_end {L : List UInt8} {k : Nat} (h : L.length ≤ k) : endL (L.drop k) = none := by
  rw [List.drop_eq_nil_of_le h]; rfl
/-- What skip answers from a place on. -/
def skR (L : List UInt8) (j : Nat) : Nat × Bool := (j + (skip (L.drop j)).1, (skip (L.drop j)).2)
theorem skR_go {L : List UInt8} {j n : Nat} (h : gap1 (L.drop j) = (n, true)) (hn : n ≠ 0) : skR L j = skR L (j + n) := by
  unfold skR; rw [sk_go h hn]; simp [Nat.add_assoc]
theorem skR_stop {L : List UInt8} {j : Nat} {b : Bool} (h : gap1 (L.drop j) = (0, b)) : skR L j = (j, b) := by
  unfold skR; rw [sk_stop h]; rfl
theorem gap1_blank {c : UInt8} {r : List UInt8} (h : blankN c.toNat = true) : gap1 (c :: r) = (1, true) := by
  unfold gap1; simp only; rw [if_pos h]
theorem gap1_line {c : UInt8} {r : List UInt8} (h : blankN c.toNat = false) (h1 : [47, 47].isPrefixOf (c :: r) = true) : gap1 (c :: r) = (lineL (c :: r), true) := by
  unfold gap1; simp only; rw [if_neg (by rw [h]; decide), if_pos h1]
theorem gap1_block {c : UInt8} {r : List UInt8} (h : blankN c.toNat = false) (h1 : [47, 47].isPrefixOf (c :: r) = false) (h2 : [47, 42].isPrefixOf (c :: r) = true) :
    gap1 (c :: r) = match endL ((c :: r).drop 2) with | some n => (n + 4, true) | none => (0, false) := by
  unfold gap1; simp only; rw [if_neg (by rw [h]; decide), if_neg (by rw [h1]; decide), if_pos h2]
  cases endL ((c :: r).drop 2) <;> rfl
theorem gap1_none {c : UInt8} {r : List UInt8} (h : blankN c.toNat = false) (h1 : [47, 47].isPrefixOf (c :: r) = false) (h2 : [47, 42].isPrefixOf (c :: r) = false) : gap1 (c :: r) = (0, true) := by
  unfold gap1; simp only; rw [if_neg (by rw [h]; decide), if_neg (by rw [h1]; decide), if_neg (by rw [h2]; decide)]

set_option maxRecDepth 100000 in
set_option maxHeartbeats 8000000 in
theorem rskip_any (s : ByteArray) (i : Nat) (w : World) (hs : s.size ≤ 1099511627776) (hi : i ≤ s.size) :
    Calls Tryz.prog 32 #[.string s, .int .i64 i] w fun e w' => e = .returned (.tuple #[.int .i64 ((skR s.data.toList i).1 : Nat), .bool (skR s.data.toList i).2]) ∧ w = w' := by
  obtain ⟨N, B, hR⟩ : ∃ N B, skR s.data.toList i = (N, B) := ⟨_, _, rfl⟩
  rw [hR]
  have H0 := Lib.hid fun (j : Nat) (hj : j ≤ s.size) (x : ByteArray) (hx : x.size ≤ 1048576) => rstarts_any s j x w hs hj hx
  have HR := Lib.hid hR
  have HI := Lib.hid hi
  clear hR hi
  go_enter Tryz.func32, Tryz.ntmps32
  go_wp2_with fail
  go_loopg [1] (s.size - i) (fun gk a wr => w = wr ∧ ∃ j : Nat, gk = s.size - j ∧ a = .int .i64 j ∧ j ≤ s.size ∧ skR s.data.toList j = (N, B))
  case atStart => exact ⟨rfl, i, rfl, rfl, HI.out, HR.out⟩
  case round =>
    clear HR HI
    obtain ⟨rfl, j, rfl, rfl, hj, hq⟩ := hrel
    have HQ := Lib.hid hq
    clear hq
    by_cases hlt : j < s.size
    · have HD := Lib.hid (drop_at hlt)
      obtain ⟨n, hn⟩ : ∃ n, s[j].toNat = n := ⟨_, rfl⟩
      have HN := Lib.hid hn
      have hcs : n = 32 ∨ n = 9 ∨ n = 10 ∨ n = 13 ∨ (n ≠ 32 ∧ n ≠ 9 ∧ n ≠ 10 ∧ n ≠ 13) := by omega
      rcases hcs with h | h | h | h | h
      iterate 4
        · subst h
          have HNX : Hid (skR s.data.toList (j + 1) = (N, B)) := Lib.hid (by
            rw [← HQ.out, skR_go (L := s.data.toList) (j := j) (n := 1) (by rw [HD.out]; exact gap1_blank (by rw [HN.out]; rfl)) (by decide)])
          go_wp2_with fail
          go_roundg (s.size - (j + 1))
          case measure => omega
          case rel => exact ⟨rfl, j + 1, rfl, rfl, hlt, HNX.out⟩
      · obtain ⟨h1, h2, h3, h4⟩ := h
        have z1 : ((n : Int) == 32) = false := by simp; omega
        have z2 : ((n : Int) == 9) = false := by simp; omega
        have z3 : ((n : Int) == 10) = false := by simp; omega
        have z4 : ((n : Int) == 13) = false := by simp; omega
        have HBL : Hid (blankN s[j].toNat = false) := Lib.hid (by rw [HN.out]; unfold blankN; simp [h1, h2, h3, h4])
        clear h1 h2 h3 h4
        have HS1 := Lib.hid (H0.out j hj ⟨#[47, 47]⟩ (by decide))
        have HS2 := Lib.hid (H0.out j hj ⟨#[47, 42]⟩ (by decide))
        cases hp : [47, 47].isPrefixOf (s.data.toList.drop j) with
        | true =>
          rw [show (⟨#[47, 47]⟩ : ByteArray).data.toList = [47, 47] from rfl, hp] at HS1
          have HP := Lib.hid hp
          clear hp HS2
          have HG : Hid (skR s.data.toList (j + lineL (s.data.toList.drop j)) = (N, B) ∧ lineL (s.data.toList.drop j) ≠ 0) := Lib.hid (by
            have hne : lineL (s.data.toList.drop j) ≠ 0 := by
              have hp2 := HP.out
              rw [HD.out] at hp2 ⊢
              have hc : s[j] = 47 := by
                simp only [List.isPrefixOf, Bool.and_eq_true, beq_iff_eq] at hp2
                exact hp2.1.symm
              show (if s[j] = 10 then 0 else _) ≠ 0
              rw [hc, if_neg (by decide)]
              exact Nat.succ_ne_zero _
            refine ⟨?_, hne⟩
            rw [← HQ.out, skR_go (L := s.data.toList) (j := j) (by rw [HD.out]; exact gap1_line HBL.out (by rw [← HD.out]; exact HP.out)) (by rw [← HD.out]; exact hne), ← HD.out])
          go_wp2_with (go_at_call 59; refine HS1.out.mono ?_; rintro e w' ⟨rfl, rfl⟩)
          clear HS1
          go_loopg [1] (s.size - j) (fun gk a wr => w = wr ∧ ∃ k : Nat, gk = s.size - k ∧ a = .int .i64 k ∧ j ≤ k ∧ k ≤ s.size ∧ j + lineL (s.data.toList.drop j) = k + lineL (s.data.toList.drop k))
          case atStart => exact ⟨rfl, j, rfl, rfl, Nat.le_refl _, hj, rfl⟩
          case round =>
            obtain ⟨rfl, k, rfl, rfl, hjk, hk, hl⟩ := hrel
            have HL := Lib.hid hl
            clear hl
            by_cases hkl : k < s.size
            · by_cases hc : s[k] = 10
              · have z : ((s[k].toNat : Int) != 10) = false := by rw [hc]; rfl
                have HNX : Hid (skR s.data.toList k = (N, B) ∧ j < k) := Lib.hid (by
                  have h0 := line_stop (L := s.data.toList) (k := k) (by rw [sz]; exact hkl) (by rw [get_list hkl]; exact hc)
                  have h1 := HL.out
                  have h2 := HG.out
                  rw [h0] at h1
                  exact ⟨by rw [← h2.1, h1]; rfl, by omega⟩)
                clear hc
                go_wp2_with fail
                go_roundg (s.size - k)
                case measure => have := HNX.out.2; omega
                case rel => exact ⟨rfl, k, rfl, rfl, hk, HNX.out.1⟩
              · have z : ((s[k].toNat : Int) != 10) = true := by
                  have : s[k].toNat ≠ 10 := fun e => hc (UInt8.toNat_inj.1 (by rw [e]; rfl))
                  simp; omega
                have HNX : Hid (j + lineL (s.data.toList.drop j) = k + 1 + lineL (s.data.toList.drop (k + 1))) := Lib.hid (by
                  have h0 := line_step (L := s.data.toList) (k := k) (by rw [sz]; exact hkl) (by rw [get_list hkl]; exact hc)
                  have h1 := HL.out
                  omega)
                clear hc
                go_wp2_with fail
                go_roundg (s.size - (k + 1))
                case measure => omega
                case rel => exact ⟨rfl, k + 1, rfl, rfl, by omega, hkl, HNX.out⟩
            · obtain rfl : k = s.size := by omega
              have HNX : Hid (skR s.data.toList s.size = (N, B) ∧ j < s.size) := Lib.hid (by
                have h0 := line_end (L := s.data.toList) (k := s.size) (by rw [sz]; exact Nat.le_refl _)
                have h1 := HL.out
                have h2 := HG.out
                rw [h0] at h1
                exact ⟨by rw [← h2.1, h1]; rfl, by omega⟩)
              go_wp2_with fail
              go_roundg (s.size - s.size)
              case measure => have := HNX.out.2; omega
              case rel => exact ⟨rfl, s.size, rfl, rfl, Nat.le_refl _, HNX.out.1⟩
        | false =>
          rw [show (⟨#[47, 47]⟩ : ByteArray).data.toList = [47, 47] from rfl, hp] at HS1
          have HP := Lib.hid hp
          clear hp
          cases hp2 : [47, 42].isPrefixOf (s.data.toList.drop j) with
          | false =>
            rw [show (⟨#[47, 42]⟩ : ByteArray).data.toList = [47, 42] from rfl, hp2] at HS2
            have HA : Hid (N = j ∧ B = true) := Lib.hid (by
              have := skR_stop (L := s.data.toList) (j := j) (b := true) (by
                have h1 := HP.out
                rw [HD.out] at h1 hp2 ⊢
                exact gap1_none HBL.out h1 hp2)
              rw [HQ.out] at this
              cases this; exact ⟨rfl, rfl⟩)
            clear hp2
            obtain ⟨rfl, rfl⟩ := HA.out
            clear HA HQ
            go_upto_region 8 with (go_at_call 59; refine HS1.out.mono ?_; rintro e w' ⟨rfl, rfl⟩)
            clear HS1
            go_wp2_with (go_at_call 59; refine HS2.out.mono ?_; rintro e w' ⟨rfl, rfl⟩)
            go_ret2
            exact ⟨rfl, rfl⟩
          | true =>
            rw [show (⟨#[47, 42]⟩ : ByteArray).data.toList = [47, 42] from rfl, hp2] at HS2
            have HG : Hid (gap1 (s.data.toList.drop j) = (match endL (s.data.toList.drop (j + 2)) with | some n => (n + 4, true) | none => (0, false)) ∧ j + 2 ≤ s.size) := Lib.hid (by
              refine ⟨?_, ?_⟩
              · have e : s.data.toList.drop (j + 2) = (s.data.toList.drop j).drop 2 := by rw [List.drop_drop]
                rw [e]
                have h1 := HP.out
                rw [HD.out] at h1 hp2 ⊢
                exact gap1_block HBL.out h1 hp2
              · have := (List.isPrefixOf_iff_prefix.1 hp2).length_le
                rw [List.length_drop, sz] at this
                simp at this; omega)
            have hj2 := HG.out.2
            clear hp2
            go_upto_region 8 with (go_at_call 59; refine HS1.out.mono ?_; rintro e w' ⟨rfl, rfl⟩)
            clear HS1
            go_wp2_with (go_at_call 59; refine HS2.out.mono ?_; rintro e w' ⟨rfl, rfl⟩)
            clear HS2
            go_loopg [6] (s.size - (j + 2)) (fun gk a wr => w = wr ∧ ∃ k : Nat, gk = s.size - k ∧ a = .int .i64 k ∧ j + 2 ≤ k ∧ k ≤ s.size ∧ endL (s.data.toList.drop (j + 2)) = (endL (s.data.toList.drop k)).map (· + (k - (j + 2))))
            case atStart => exact ⟨rfl, j + 2, rfl, rfl, Nat.le_refl _, hj2, by simp⟩
            case round =>
              obtain ⟨rfl, k, rfl, rfl, hjk, hk, hl⟩ := hrel
              have HL := Lib.hid hl
              clear hl
              by_cases hkl : k < s.size
              · have HS3 := Lib.hid (H0.out k hk ⟨#[42, 47]⟩ (by decide))
                have hge : ¬ (k : Int) ≥ s.size := by omega
                cases hp3 : [42, 47].isPrefixOf (s.data.toList.drop k) with
                | true =>
                  rw [show (⟨#[42, 47]⟩ : ByteArray).data.toList = [42, 47] from rfl, hp3] at HS3
                  have HNX : Hid (skR s.data.toList (k + 2) = (N, B) ∧ k + 2 ≤ s.size) := Lib.hid (by
                    have h0 := end_stop (L := s.data.toList) (k := k) (by rw [sz]; exact hkl) hp3
                    have h1 := HL.out
                    have h2 := HG.out.1
                    rw [h0] at h1
                    rw [h1] at h2
                    simp only [Option.map_some, Nat.zero_add] at h2
                    refine ⟨?_, ?_⟩
                    · rw [← HQ.out, skR_go (L := s.data.toList) (j := j) h2 (by omega)]
                      congr 1; omega
                    · have := (List.isPrefixOf_iff_prefix.1 hp3).length_le
                      rw [List.length_drop, sz] at this
                      simp at this; omega)
                  clear hp3
                  go_wp2_with (go_at_call 59; refine HS3.out.mono ?_; rintro e w' ⟨rfl, rfl⟩)
                  go_roundg (s.size - (k + 2))
                  case measure => omega
                  case rel => exact ⟨rfl, k + 2, rfl, rfl, HNX.out.2, HNX.out.1⟩
                | false =>
                  rw [show (⟨#[42, 47]⟩ : ByteArray).data.toList = [42, 47] from rfl, hp3] at HS3
                  have HNX : Hid (endL (s.data.toList.drop (j + 2)) = (endL (s.data.toList.drop (k + 1))).map (· + (k + 1 - (j + 2)))) := Lib.hid (by
                    rw [HL.out, end_step (by rw [sz]; exact hkl) hp3, Option.map_map]
                    congr 1
                    funext x
                    simp only [Function.comp]
                    omega)
                  clear hp3
                  go_wp2_with (go_at_call 59; refine HS3.out.mono ?_; rintro e w' ⟨rfl, rfl⟩)
                  go_roundg (s.size - (k + 1))
                  case measure => omega
                  case rel => exact ⟨rfl, k + 1, rfl, rfl, by omega, hkl, HNX.out⟩
              · obtain rfl : k = s.size := by omega
                have HA : Hid (N = j ∧ B = false) := Lib.hid (by
                  have h0 := end_end (L := s.data.toList) (k := s.size) (by rw [sz]; exact Nat.le_refl _)
                  have h1 := HL.out
                  have h2 := HG.out.1
                  rw [h0] at h1
                  rw [h1] at h2
                  have := skR_stop (L := s.data.toList) (j := j) (b := false) h2
                  rw [HQ.out] at this
                  cases this; exact ⟨rfl, rfl⟩)
                obtain ⟨rfl, rfl⟩ := HA.out
                clear HA HQ
                go_wp2_with fail
                go_ret2
                exact ⟨rfl, rfl⟩
    · obtain rfl : j = s.size := by omega
      have HA : Hid (N = s.size ∧ B = true) := Lib.hid (by
        have h0 : skip (s.data.toList.drop s.size) = (0, true) := by rw [List.drop_eq_nil_of_le (by rw [sz]; exact Nat.le_refl _)]; rfl
        have h1 := HQ.out
        unfold skR at h1
        rw [h0] at h1
        cases h1; exact ⟨rfl, rfl⟩)
      obtain ⟨rfl, rfl⟩ := HA.out
      clear HA HQ
      go_wp2_with fail
      go_ret2
      exact ⟨rfl, rfl⟩
end Go.Proofs.YtimhhacfjgbomaaGreatDoor
