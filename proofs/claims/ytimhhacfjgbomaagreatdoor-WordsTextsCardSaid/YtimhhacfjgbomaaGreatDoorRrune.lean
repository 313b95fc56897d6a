/-
  THE WALK of the document's rune4: four digits' rune, as bytes.
-/
import Derived.Test.YtimhhacfjgbomaaGreatDoorRlexa
import Derived.Test.YtimhhacfjgbomaaGreatDoorRacc
namespace Go.Proofs.YtimhhacfjgbomaaGreatDoor
set_option linter.unusedSimpArgs false
set_option linter.unusedVariables false
open Go.RowKit Go.Shelf

def hexF : Nat → List UInt8 → Option Nat
  | acc, [] => some acc
  | acc, c :: r => match hexN c.toNat with | some x => hexF (16 * acc + x) r | none => none
theorem hex4_F (a b c d : UInt8) : hex4 a b c d = hexF 0 [a, b, c, d] := by
  unfold hex4
  simp only [hexF]
  cases hexN a.toNat <;> cases hexN b.toNat <;> cases hexN c.toNat <;> cases hexN d.toNat <;> simp
/-- Four digits' rune at a text's head. -/
def rune4R (u : List UInt8) : Option (List UInt8) := match u with
  | a :: b :: c :: d :: _ => rune4 a b c d
  | _ => none
theorem rune4R_short {u : List UInt8} (h : u.length < 4) : rune4R u = none := by
  match u, h with
  | [], _ => rfl
  | [_], _ => rfl
  | [_, _], _ => rfl
  | [_, _, _], _ => rfl
  | _ :: _ :: _ :: _ :: _, h => simp at h; omega
theorem rune4R_long {u : List UInt8} (h : 4 ≤ u.length) : rune4R u = match hexF 0 (u.take 4) with | some n => if 55296 ≤ n ∧ n ≤ 57343 then none else some (Lib.encodeRune n) | none => none := by
  match u, h with
  | [], h => simp at h
  | [_], h => simp at h
  | [_, _], h => simp at h
  | [_, _, _], h => simp at h
  | a :: b :: c :: d :: r, _ =>
    show rune4 a b c d = _
    unfold rune4
    rw [hex4_F]
    rfl
theorem hexF_step {L : List UInt8} {m k n : Nat} (h : m < L.length) (hk : k < 4) : hexF n ((L.drop m).take (4 - k)) = match hexN L[m].toNat with | some x => hexF (16 * n + x) ((L.drop (m + 1)).take (4 - (k + 1))) | none => none := by
  rw [List.drop_eq_getElem_cons h, show 4 - k = (4 - (k + 1)) + 1 by omega, List.take_succ_cons]
  rfl
theorem hexN_lt {c x : Nat} (h : hexN c = some x) : x < 16 := by
  unfold hexN at h
  split at h
  · cases h; omega
  · split at h
    · cases h; omega
    · split at h
      · cases h; omega
      · cases h
theorem hexI_some {c x : Nat} (h : hexN c = some x) : hexI c = (x : Int) := by unfold hexI; rw [h]
theorem hexI_none {c : Nat} (h : hexN c = none) : hexI c = -1 := by unfold hexI; rw [h]
theorem bytes_conv (w : World) (B : ByteArray) (cs : Array Value) (hcs : cs.toList = Lib.byteCells B.data.toList) :
    (convert 43 9 (.slice (some ⟨w.heap.size, 0, none⟩) B.size B.size)).run Tryz.prog (w.alloc (.cells cs 5)) = .ok (.string B) (w.alloc (.cells cs 5)) := by
  have hb : Lib.Bytes (w.alloc (.cells cs 5)) w.heap.size 0 B := fun i hi => by
    rw [Lib.cell_of_heap (new_at w _)]
    have : cs[i]? = cs.toList[i]? := by simp
    rw [Nat.zero_add, this, hcs]
    have hl : i < B.data.toList.length := by rw [sz]; exact hi
    unfold Lib.byteCells
    rw [List.getElem?_map, List.getElem?_eq_getElem hl]
    rfl
  exact Lib.run_convert_whole _ 43 5 9 Tryz.underlying43 Tryz.underlying5 Tryz.underlying9 w.heap.size 0 B hb B.size
theorem two_bytes (w : World) (a b : UInt8) {x y : Int} (hx : x = a.toNat) (hy : y = b.toNat) : (convert 43 9 (.slice (some ⟨w.heap.size, 0, none⟩) 2 2)).run Tryz.prog (w.alloc (.cells #[.int .u8 x, .int .u8 y] 5)) = .ok (.string ⟨#[a, b]⟩) (w.alloc (.cells #[.int .u8 x, .int .u8 y] 5)) := by
  subst hx; subst hy
  exact bytes_conv w ⟨#[a, b]⟩ _ rfl
theorem three_bytes (w : World) (a b c : UInt8) {x y z : Int} (hx : x = a.toNat) (hy : y = b.toNat) (hz : z = c.toNat) : (convert 43 9 (.slice (some ⟨w.heap.size, 0, none⟩) 3 3)).run Tryz.prog (w.alloc (.cells #[.int .u8 x, .int .u8 y, .int .u8 z] 5)) = .ok (.string ⟨#[a, b, c]⟩) (w.alloc (.cells #[.int .u8 x, .int .u8 y, .int .u8 z] 5)) := by
  subst hx; subst hy; subst hz
  exact bytes_conv w ⟨#[a, b, c]⟩ _ rfl
/-- What rune4 answers. -/
def runeA : Option (List UInt8) → Value
  | some l => .tuple #[.string ⟨l.toArray⟩, .bool true]
  | none => .tuple #[.string ⟨#[]⟩, .bool false]
theorem enc1 {n : Nat} (h : n < 128) : (⟨#[UInt8.ofNat n]⟩ : ByteArray) = ⟨(Lib.encodeRune n).toArray⟩ := by
  unfold Lib.encodeRune
  rw [Lib.encodeRuneZ_one (by omega) (by omega)]
  rfl
theorem toU8 (n : Nat) : ((n : Int).toNat.toUInt8) = UInt8.ofNat n := by rw [Int.toNat_natCast]
theorem enc2 {n : Nat} (h : 128 ≤ n) (h2 : n < 2048) : (⟨#[UInt8.ofNat (192 + n / 64), UInt8.ofNat (128 + n % 64)]⟩ : ByteArray) = ⟨(Lib.encodeRune n).toArray⟩ := by
  unfold Lib.encodeRune
  rw [Lib.encodeRuneZ_two (by omega) (by omega)]
  have e1 : (192 : Int) + (n : Int) / 64 = ((192 + n / 64 : Nat) : Int) := by omega
  have e2 : (128 : Int) + (n : Int) % 64 = ((128 + n % 64 : Nat) : Int) := by omega
  rw [e1, e2]
  simp only [List.map_cons, List.map_nil, toU8]
theorem enc3 {n : Nat} (h : 2048 ≤ n) (h2 : n < 65536) (h3 : ¬ (55296 ≤ n ∧ n ≤ 57343)) : (⟨#[UInt8.ofNat (224 + n / 4096), UInt8.ofNat (128 + n / 64 % 64), UInt8.ofNat (128 + n % 64)]⟩ : ByteArray) = ⟨(Lib.encodeRune n).toArray⟩ := by
  unfold Lib.encodeRune
  rw [Lib.encodeRuneZ_three (by omega)]
  have e1 : (224 : Int) + (n : Int) / 4096 = ((224 + n / 4096 : Nat) : Int) := by omega
  have e2 : (128 : Int) + (n : Int) / 64 % 64 = ((128 + n / 64 % 64 : Nat) : Int) := by omega
  have e3 : (128 : Int) + (n : Int) % 64 = ((128 + n % 64 : Nat) : Int) := by omega
  rw [e1, e2, e3]
  simp only [List.map_cons, List.map_nil, toU8]
theorem ofNat_int {n : Nat} (h : n < 256) : (n : Int) = (UInt8.ofNat n).toNat := by
  have : (UInt8.ofNat n).toNat = n := by simp; omega
  rw [this]

set_option maxRecDepth 100000 in
set_option maxHeartbeats 8000000 in
theorem rrune4_any (s : ByteArray) (j : Nat) (w : World) (hs : s.size ≤ 1099511627776) (hj : j ≤ s.size) :
    Calls Tryz.prog 83 #[.string s, .int .i64 j] w fun e w' => e = .returned (runeA (rune4R (s.data.toList.drop j))) ∧ Below w.heap.size w w' := by
  have w1 : IntKind.i64.wrap ((s.size : Int) - (j : Int)) = (s.size : Int) - (j : Int) := IntWalk.i64_in _ (by omega)
  by_cases h4 : s.size - j < 4
  · rw [rune4R_short (by rw [List.length_drop, sz]; exact h4)]
    have hz : (s.size : Int) - (j : Int) < 4 := by omega
    clear h4
    go_enter Tryz.func83, Tryz.ntmps83
    go_wp2_with fail
    go_ret2
    exact ⟨rfl, Below.refl _ _⟩
  have hz : ¬ (s.size : Int) - (j : Int) < 4 := by omega
  have hlong := rune4R_long (u := s.data.toList.drop j) (by rw [List.length_drop, sz]; omega)
  obtain ⟨R, hR⟩ : ∃ R, hexF 0 ((s.data.toList.drop j).take 4) = R := ⟨_, rfl⟩
  obtain ⟨RES, hRES⟩ : ∃ RES, rune4R (s.data.toList.drop j) = RES := ⟨_, rfl⟩
  rw [hR, hRES] at hlong
  rw [hRES]
  have HR := Lib.hid hR
  have HLG := Lib.hid hlong
  have hj4 : j + 4 ≤ s.size := by omega
  clear hR hlong h4 hRES
  go_enter Tryz.func83, Tryz.ntmps83
  go_wp2_with fail
  go_loopg [6, 7] 4 (fun gk a b wr => w = wr ∧ ∃ k n : Nat, gk = 4 - k ∧ a = .int .i64 n ∧ b = .int .i64 k ∧ k ≤ 4 ∧ n < 16 ^ k ∧ hexF n ((s.data.toList.drop (j + k)).take (4 - k)) = R)
  case atStart => exact ⟨rfl, 0, 0, rfl, rfl, rfl, by omega, by decide, HR.out⟩
  case round =>
    obtain ⟨rfl, k, n, rfl, rfl, rfl, hk, hn, hq⟩ := hrel
    have HQ := Lib.hid hq
    have HNN := Lib.hid hn
    have hn6 : n < 65536 := Nat.lt_of_lt_of_le hn (show 16 ^ k ≤ 16 ^ 4 from Nat.pow_le_pow_right (by decide) hk)
    clear hq hn
    by_cases hlt : k < 4
    · obtain ⟨m, hm⟩ : ∃ m, j + k = m := ⟨_, rfl⟩
      have hmz : (j : Int) + (k : Int) = (m : Int) := by omega
      have hml : m < s.size := by omega
      have HM := Lib.hid hm
      have HST := Lib.hid (hexF_step (L := s.data.toList) (m := m) (k := k) (n := n) (by rw [sz]; exact hml) hlt)
      have HX := Lib.hid (rhex_any s[m] w)
      clear hm
      cases hx : hexN s[m].toNat with
      | none =>
        have HA : Hid (RES = none) := Lib.hid (by
          rw [HLG.out, ← HQ.out, HM.out, HST.out, get_list hml, hx])
        rw [hexI_none hx] at HX
        clear hx HST HQ
        go_wp2_with (go_at_call 98; refine HX.out.mono ?_; rintro e w' ⟨rfl, rfl⟩)
        go_ret2
        rw [HA.out]
        exact ⟨rfl, Below.refl _ _⟩
      | some x =>
        have HNX : Hid (hexF (16 * n + x) ((s.data.toList.drop (j + (k + 1))).take (4 - (k + 1))) = R ∧ 16 * n + x < 16 ^ (k + 1)) := Lib.hid (by
          refine ⟨?_, ?_⟩
          · rw [← HQ.out, HM.out, HST.out, get_list hml, hx, ← HM.out]; rfl
          · have := hexN_lt hx
            have h2 := HNN.out
            rw [Nat.pow_succ]; omega)
        have hx16 := hexN_lt hx
        rw [hexI_some hx] at HX
        have w2 : IntKind.i64.wrap (16 * (n : Int)) = 16 * (n : Int) := IntWalk.i64_in _ (by omega)
        have w3 : IntKind.i64.wrap (16 * (n : Int) + (x : Int)) = 16 * (n : Int) + (x : Int) := IntWalk.i64_in _ (by omega)
        have t1 : ¬ (x : Int) < 0 := by omega
        clear hx HST HQ
        go_wp2_with (go_at_call 98; refine HX.out.mono ?_; rintro e w' ⟨rfl, rfl⟩)
        go_roundg (4 - (k + 1))
        case measure => omega
        case rel => exact ⟨rfl, k + 1, 16 * n + x, rfl, by go_num, rfl, hlt, HNX.out.2, HNX.out.1⟩
    · obtain rfl : k = 4 := by omega
      have HA : Hid (R = some n) := Lib.hid (by rw [← HQ.out]; rfl)
      clear HQ HNN HR
      by_cases hs1 : 55296 ≤ n ∧ n ≤ 57343
      · have HB : Hid (RES = none) := Lib.hid (by rw [HLG.out, HA.out]; exact if_pos hs1)
        have t1 : decide ((n : Int) ≥ 55296) = true := by simp; omega
        have t2 : decide ((n : Int) ≤ 57343) = true := by simp; omega
        clear hs1 HA
        go_wp2_with fail
        go_ret2
        rw [HB.out]
        exact ⟨rfl, Below.refl _ _⟩
      · have HB : Hid (RES = some (Lib.encodeRune n)) := Lib.hid (by rw [HLG.out, HA.out]; exact if_neg hs1)
        obtain rfl := HB.out
        clear HA HB HLG
        by_cases h7 : n < 128
        · have t1 : decide ((n : Int) ≥ 55296) = false := by simp; omega
          have t3 : (n : Int) < 128 := by omega
          have u1 : IntKind.u8.wrap (n : Int) = (n : Int) := IntWalk.u8_in _ (by omega)
          have hcv := one_bytes w (UInt8.ofNat n) (n := (n : Int)) (ofNat_int (by omega))
          have HE := Lib.hid (enc1 h7)
          clear hs1 h7
          go_wp2_with fail
          go_ret2
          exact ⟨by rw [HE.out]; rfl, ballocR w _⟩
        · have t3 : ¬ (n : Int) < 128 := by omega
          by_cases h11 : n < 2048
          · have t1 : decide ((n : Int) ≥ 55296) = false := by simp; omega
            have t4 : (n : Int) < 2048 := by omega
            have HE := Lib.hid (enc2 (by omega) h11)
            obtain ⟨q, hq⟩ : ∃ q, n / 64 = q := ⟨_, rfl⟩
            obtain ⟨r, hr⟩ : ∃ r, n % 64 = r := ⟨_, rfl⟩
            rw [hq, hr] at HE
            have hq1 : q < 32 := by omega
            have hr1 : r < 64 := by omega
            have y1 : (n : Int) / 64 = (q : Int) := by omega
            have y2 : (n : Int) % 64 = (r : Int) := by omega
            have y3 : Int.tdiv (n : Int) 64 = (q : Int) := by rw [Int.tdiv_eq_ediv_of_nonneg (by omega)]; exact y1
            have y4 : Int.tmod (n : Int) 64 = (r : Int) := by rw [Int.tmod_eq_emod_of_nonneg (by omega)]; exact y2
            have u1 : IntKind.u8.wrap (192 + (q : Int)) = 192 + (q : Int) := IntWalk.u8_in _ (by omega)
            have u2 : IntKind.u8.wrap (128 + (r : Int)) = 128 + (r : Int) := IntWalk.u8_in _ (by omega)
            have hcv := two_bytes w (UInt8.ofNat (192 + q)) (UInt8.ofNat (128 + r)) (x := 192 + (q : Int)) (y := 128 + (r : Int)) (by rw [← ofNat_int (by omega)]; omega) (by rw [← ofNat_int (by omega)]; omega)
            generalize UInt8.ofNat (192 + q) = A1 at hcv HE
            generalize UInt8.ofNat (128 + r) = A2 at hcv HE
            clear hs1 h7 h11 hq hr
            go_wp2_with fail
            go_ret2
            exact ⟨by rw [HE.out]; rfl, ballocR w _⟩
          · have t4 : ¬ (n : Int) < 2048 := by omega
            have HE := Lib.hid (enc3 (by omega) hn6 hs1)
            obtain ⟨q, hq⟩ : ∃ q, n / 64 % 64 = q := ⟨_, rfl⟩
            obtain ⟨r, hr⟩ : ∃ r, n % 64 = r := ⟨_, rfl⟩
            obtain ⟨p, hp⟩ : ∃ p, n / 4096 = p := ⟨_, rfl⟩
            obtain ⟨g, hg⟩ : ∃ g, n / 64 = g := ⟨_, rfl⟩
            rw [hq, hr, hp] at HE
            rw [hg] at hq
            have hq1 : q < 64 := by omega
            have hr1 : r < 64 := by omega
            have hp1 : p < 16 := by omega
            have y1 : (n : Int) / 64 = (g : Int) := by omega
            have y2 : (n : Int) % 64 = (r : Int) := by omega
            have y3 : Int.tdiv (n : Int) 64 = (g : Int) := by rw [Int.tdiv_eq_ediv_of_nonneg (by omega)]; exact y1
            have y4 : Int.tmod (n : Int) 64 = (r : Int) := by rw [Int.tmod_eq_emod_of_nonneg (by omega)]; exact y2
            have y5 : (n : Int) / 4096 = (p : Int) := by omega
            have y6 : Int.tdiv (n : Int) 4096 = (p : Int) := by rw [Int.tdiv_eq_ediv_of_nonneg (by omega)]; exact y5
            have y7 : (g : Int) % 64 = (q : Int) := by omega
            have y8 : Int.tmod (g : Int) 64 = (q : Int) := by rw [Int.tmod_eq_emod_of_nonneg (by omega)]; exact y7
            have u1 : IntKind.u8.wrap (224 + (p : Int)) = 224 + (p : Int) := IntWalk.u8_in _ (by omega)
            have u2 : IntKind.u8.wrap (128 + (r : Int)) = 128 + (r : Int) := IntWalk.u8_in _ (by omega)
            have u3 : IntKind.u8.wrap (128 + (q : Int)) = 128 + (q : Int) := IntWalk.u8_in _ (by omega)
            have hcv := three_bytes w (UInt8.ofNat (224 + p)) (UInt8.ofNat (128 + q)) (UInt8.ofNat (128 + r)) (x := 224 + (p : Int)) (y := 128 + (q : Int)) (z := 128 + (r : Int)) (by rw [← ofNat_int (by omega)]; omega) (by rw [← ofNat_int (by omega)]; omega) (by rw [← ofNat_int (by omega)]; omega)
            have hsr : (n < 55296) ∨ (57343 < n) := by omega
            generalize UInt8.ofNat (224 + p) = A1 at hcv HE
            generalize UInt8.ofNat (128 + r) = A2 at hcv HE
            generalize UInt8.ofNat (128 + q) = A3 at hcv HE
            clear h7 h11 hq hr hp hg
            rcases hsr with hsr | hsr
            · have t1 : decide ((n : Int) ≥ 55296) = false := by simp; omega
              clear hs1 hsr
              go_wp2_with fail
              go_ret2
              exact ⟨by rw [HE.out]; rfl, ballocR w _⟩
            · have t1 : decide ((n : Int) ≥ 55296) = true := by simp; omega
              have t2 : decide ((n : Int) ≤ 57343) = false := by simp; omega
              clear hs1 hsr
              go_wp2_with fail
              go_ret2
              exact ⟨by rw [HE.out]; rfl, ballocR w _⟩
end Go.Proofs.YtimhhacfjgbomaaGreatDoor
