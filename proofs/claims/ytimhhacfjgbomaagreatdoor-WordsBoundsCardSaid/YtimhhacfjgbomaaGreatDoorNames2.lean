/-
  THE WALKS of plain, between, Reserved, Spell: names, told.
  THE WALK of Is and of its closure: letters A to Z as a to z.
  THE WALKS of Reserved, Spell, Is.
-/
import Derived.Test.YtimhhacfjgbomaaGreatDoorReader
import Derived.Test.YtimhhacfjgbomaaGreatDoorName
import Derived.Test.YtimhhacfjgbomaaGreatDoorWordsP
import Derived.Test.YtimhhacfjgbomaaGreatDoorShelf
import Derived.RangeFuncRecord
import Derived.Lib.ConvBytes
import Derived.Lib.SlBytesRow
import Derived.Lib.AtoiErrMem
import Derived.Deep.LoopGhost
import Derived.Test.YtimhhacfjgbomaaGreatDoorWordB
namespace Go.Proofs.YtimhhacfjgbomaaGreatDoor
set_option linter.unusedSimpArgs false
set_option linter.unusedVariables false
open Go.RowKit Go.Shelf Go.Lib

theorem empty_tests (s : ByteArray) : (s.size = 0 → s.toList = [] ∧ s.toList.isEmpty = true) ∧ (s.size ≠ 0 → ¬ s.toList = [] ∧ s.toList.isEmpty = false) := by
  have hl : s.toList = [] ↔ s.size = 0 := by
    rw [ByteArray.toList_eq]
    constructor
    · intro h; rw [← sz, h]; rfl
    · intro h; exact List.eq_nil_of_length_eq_zero (by rw [sz]; exact h)
  constructor
  · intro h
    have e1 := hl.2 h
    exact ⟨e1, by rw [e1]; rfl⟩
  · intro h
    have e1 : ¬ s.toList = [] := fun h' => h (hl.1 h')
    exact ⟨e1, by cases h' : s.toList.isEmpty with
      | false => rfl
      | true => exact absurd (List.isEmpty_iff.1 h') e1⟩
theorem plainB_at {s : ByteArray} (h : 0 < s.size) : plainB s.data.toList = (decide (cls s[0].toNat = 1) && decide ((runL s.data.toList).length = s.size) && nameB s.data.toList) := by
  have hd := drop_at h
  rw [List.drop_zero] at hd
  have hr : decide (runL s.data.toList = s.data.toList) = decide ((runL s.data.toList).length = s.size) := by
    apply decide_eq_decide.2
    rw [← sz]
    exact ⟨fun h => by rw [h], fun h => (List.takeWhile_prefix _).eq_of_length h⟩
  rw [← hr]
  conv => lhs; rw [hd]
  unfold plainB
  simp only
  rw [← hd]

set_option maxRecDepth 100000 in
set_option maxHeartbeats 4000000 in
theorem plain_any {n₀ : Nat} (s : ByteArray) (w : World) (hs : s.size ≤ 1048576) (hE : Env n₀ w) :
    Calls Tryz.prog 38 #[.string s] w fun e w' => e = .returned (.bool (plainB s.data.toList)) ∧ Below w.heap.size w w' := by
  have hmt := empty_tests s
  have HE := Lib.hid hE
  have hle := hE.le
  have hrd : Rd (w.alloc (.cells #[.string s, .int .i64 0] 94)) w.heap.size s 0 := World.alloc_heap_new w _
  have hb0 := ballocR w (.cells #[.string s, .int .i64 0] 94)
  have hlt := hrd.lt
  by_cases h0 : s.size = 0
  · obtain ⟨e1, e2⟩ := hmt.1 h0
    have HA : Hid (plainB s.data.toList = false) := by
      have : s.data.toList = [] := List.eq_nil_of_length_eq_zero (by rw [sz]; exact h0)
      unfold Hid; rw [this]; rfl
    clear hmt hrd hE
    generalize plainB s.data.toList = ANS at *
    go_enter Tryz.func38, Tryz.ntmps38
    go_wp2_with fail
    go_ret
    exact ⟨retB HA.out.symm, hb0⟩
  · obtain ⟨e1, e2⟩ := hmt.2 h0
    have hpos : 0 < s.size := by omega
    have hpl := plainB_at hpos
    have hC := class_any s[0]
    have hR := run_any w.heap.size s 0 _ (by omega) hs hrd
    rw [List.drop_zero, Nat.zero_add] at hR
    have hN := fun V => name_any (n₀ := n₀) s V (by omega)
    generalize plainB s.data.toList = ANS at *
    obtain ⟨T, hT⟩ : ∃ T : ByteArray, T = ⟨(runL s.data.toList).toArray⟩ := ⟨_, rfl⟩
    have hTs : T.size = (runL s.data.toList).length := by rw [hT, ← sz]
    unfold RunQ at hR
    rw [← hT] at hR
    rw [← hTs] at hpl
    clear hT hTs
    generalize nameB s.data.toList = NM at *
    generalize cls s[0].toNat = C at *
    have HC := Lib.hid hC
    have HR := Lib.hid hR
    have HN := Lib.hid hN
    have HA := Lib.hid hpl
    clear hC hR hN hpl hmt hrd hE
    by_cases hc : C = 1
    · subst hc
      go_enter Tryz.func38, Tryz.ntmps38
      go_wp2_with (go_at_call 69; refine (HC.out _).mono ?_; rintro e w1 ⟨rfl, rfl⟩)
      refine HR.out.mono ?_
      rintro e w1 ⟨rfl, hg1, _⟩
      have hb1 : Below w.heap.size w w1 := hb0.trans (only_below hg1 (Nat.le_refl _) (by omega))
      by_cases hl : T.size = s.size
      · have hlz : ((T.size : Int) == s.size) = true := by simp; omega
        have HN1 := Lib.hid (HN.out w1 (HE.out.below hb1))
        have HA2 : Hid (NM = ANS) := by unfold Hid; rw [HA.out]; simp [hl]
        clear HA HN HR HC hg1 hl
        go_wp2_with fail
        refine HN1.out.mono ?_
        rintro e w2 ⟨rfl, hb2⟩
        go_wp2_with fail
        go_ret
        exact ⟨retB HA2.out, hb1.trans (hb2.mono hb1.size)⟩
      · have hlz : ((T.size : Int) == s.size) = false := by simp; omega
        have HA2 : Hid (false = ANS) := by unfold Hid; rw [HA.out]; simp [hl]
        clear HA HN HR HC hg1 hl
        go_wp2_with fail
        go_ret
        exact ⟨retB HA2.out, hb1⟩
    · have hcz : ((C : Int) == 1) = false := by simp; omega
      have HA2 : Hid (false = ANS) := by unfold Hid; rw [HA.out]; simp [hc]
      clear HA HN HR hc
      go_enter Tryz.func38, Tryz.ntmps38
      go_wp2_with (go_at_call 69; refine (HC.out _).mono ?_; rintro e w1 ⟨rfl, rfl⟩)
      go_ret
      exact ⟨retB HA2.out, hb0⟩

/-- `` for ` -/
theorem replaceK_cons {c : UInt8} (h : c ≠ 96) (new : List UInt8) : ∀ (k : Nat) (r : List UInt8), replaceK [96] new k (c :: r) = c :: replaceK [96] new k r
  | 0, r => rfl
  | k + 1, r => by
    have h' : ¬ [96].isPrefixOf (c :: r) = true := by simp [List.isPrefixOf]; exact fun e => h e.symm
    have hi : index (c :: r) [96] = if index r [96] == -1 then -1 else index r [96] + 1 := by
      conv => lhs; unfold index
      rw [if_neg h']
    have hge := index_ge r [96]
    unfold replaceK
    rw [hi]
    by_cases hm : index r [96] = -1
    · simp [hm]
    · have h1 : (index r [96] == -1) = false := by simpa using hm
      have h2 : (index r [96] + 1 == -1) = false := by rw [beq_eq_false_iff_ne]; omega
      rw [h1]
      simp only [Bool.false_eq_true, if_false]
      rw [h2]
      simp only [Bool.false_eq_true, if_false]
      have h3 : (index r [96] + 1).toNat = (index r [96]).toNat + 1 := by omega
      rw [h3]
      simp [Nat.add_right_comm]
theorem twice_replace : ∀ s : List UInt8, replaceK [96] [96, 96] (s.count 96) s = s.flatMap twice
  | [] => rfl
  | c :: r => by
    have ih := twice_replace r
    by_cases h : c = 96
    · subst h
      have hi : index (96 :: r) [96] = (0 : Nat) := by unfold index; rw [if_pos (by simp [List.isPrefixOf])]; rfl
      rw [List.count_cons_self, replaceK_hit _ _ _ _ 0 hi]
      simp only [List.take_zero, List.nil_append, List.flatMap_cons]
      rw [← ih]
      simp [twice]
    · rw [List.count_cons_of_ne h, replaceK_cons h, ih]
      simp [twice, h]
theorem twice_all (s : List UInt8) : replaceAll s [96] [96, 96] = s.flatMap twice := by
  unfold replaceAll replace replaceNum
  rw [if_neg (by simp), if_pos (.inl (by decide)), count_one]
  exact twice_replace s

set_option maxRecDepth 100000 in
set_option maxHeartbeats 4000000 in
theorem between_any {n₀ : Nat} (s : ByteArray) (w : World) (hs : s.size ≤ 1048576) (hE : Env n₀ w) :
    Calls Tryz.prog 42 #[.string s] w fun e w' => e = .returned (.string ⟨(betweenL s.data.toList).toArray⟩) ∧ Below w.heap.size w w' := by
  obtain ⟨m, hm⟩ := hE.maxLen
  have hcb : countB s ⟨#[96]⟩ ≤ s.size + 1 := by
    have := count_le s.data.toList [96]
    rw [sz] at this
    exact this
  have hR := Tryz.strings_ReplaceAll s ⟨#[96]⟩ ⟨#[96, 96]⟩ m w (by omega) hm (by decide) (by show s.size + countB s ⟨#[96]⟩ * 2 ≤ _; omega)
  obtain ⟨T, hT⟩ : ∃ T : ByteArray, T = ⟨(s.data.toList.flatMap twice).toArray⟩ := ⟨_, rfl⟩
  have hR : Calls Tryz.prog 75 #[.string s, .string ⟨#[96]⟩, .string ⟨#[96, 96]⟩] w fun e w' => e = .returned (.string T) ∧ Below w.heap.size w w' :=
    hR.mono fun e w' h => ⟨by rw [h.1, hT, ← twice_all], h.2⟩
  have hA : (⟨#[96]⟩ ++ T) ++ ⟨#[96]⟩ = (⟨(betweenL s.data.toList).toArray⟩ : ByteArray) := ba_ext (by rw [hT]; simp [betweenL])
  have HR := Lib.hid hR
  have HA := Lib.hid hA
  have hTs : T.size ≤ 2 * s.size := by
    have := (flatTwice_len s.data.toList).2
    rw [hT, ← sz, ← sz]
    simpa using this
  have k1 : ¬ 9223372036854775807 < 1 + T.size := by omega
  have k2 : ¬ 9223372036854775807 < 1 + T.size + 1 := by omega
  clear hR hA hT hcb hm hE hTs
  go_enter Tryz.func42, Tryz.ntmps42
  go_wp2_with (go_at_call 75; refine HR.out.mono ?_; rintro e w1 ⟨rfl, hb⟩)
  go_ret
  exact ⟨retS HA.out, hb⟩
end Go.Proofs.YtimhhacfjgbomaaGreatDoor
namespace Go.Proofs.YtimhhacfjgbomaaGreatDoor
set_option linter.unusedSimpArgs false
set_option linter.unusedVariables false
open Go.RowKit Go.Shelf

/-- As far as the loop has come. -/
def mix (L : List UInt8) (j : Nat) : List UInt8 := lowL (L.take j) ++ L.drop j
theorem mix_zero (L : List UInt8) : mix L 0 = L := by simp [mix, lowL]
theorem mix_len (L : List UInt8) (j : Nat) (h : j ≤ L.length) : (mix L j).length = L.length := by simp [mix, lowL]; omega
theorem mix_at (L : List UInt8) (j : Nat) (h : j < L.length) : (mix L j)[j]? = some L[j] := by
  unfold mix lowL
  rw [List.getElem?_append_right (by simp; omega)]
  simp [Nat.min_eq_left (Nat.le_of_lt h), List.getElem?_eq_getElem h]
theorem mix_succ (L : List UInt8) (j : Nat) (h : j < L.length) : mix L (j + 1) = (mix L j).set j (lowB L[j]) := by
  unfold mix lowL
  rw [List.set_append_right _ _ (by simp; omega)]
  conv => lhs; rw [List.take_succ_eq_append_getElem h]
  conv => rhs; rw [List.drop_eq_getElem_cons h]
  rw [List.map_append, List.append_assoc]
  congr 1
  simp only [List.length_map, List.length_take, Nat.min_eq_left (Nat.le_of_lt h), Nat.sub_self, List.map_cons, List.map_nil, List.cons_append, List.nil_append]
  rfl
theorem mix_same (L : List UInt8) (j : Nat) (h : j < L.length) (hc : lowB L[j] = L[j]) : mix L (j + 1) = mix L j := by
  rw [mix_succ L j h, hc]
  have := mix_at L j h
  apply List.ext_getElem?
  intro i
  rw [List.getElem?_set]
  split
  · rename_i e; subst e; split
    · exact this.symm
    · rename_i h2; exact absurd (by rw [mix_len L j (Nat.le_of_lt h)]; exact h) h2
  · rfl
theorem mix_end (L : List UInt8) : mix L L.length = lowL L := by simp [mix]
/-- Bytes in a block. -/
structure Blk (V : World) (g : Nat) (l : List UInt8) : Prop where
  cell : ∀ (i : Nat) (c : UInt8), l[i]? = some c → V.cell? ⟨g, i, none⟩ = some (.int .u8 c.toNat)
  fr : ∀ i, i < l.length → V.frozen? ⟨g, i, none⟩ = false
theorem Blk.set {V : World} {g : Nat} {l : List UInt8} (h : Blk V g l) {i : Nat} (hi : i < l.length) (x : UInt8) {n : Int} (hn : n = x.toNat) : Blk (V.setCell ⟨g, i, none⟩ (.int .u8 n)) g (l.set i x) := by
  subst hn
  refine ⟨fun j c hc => ?_, fun j hj => by rw [World.frozen?_setCell]; exact h.fr j (by simpa using hj)⟩
  by_cases e : i = j
  · subst e
    rw [List.getElem?_set_self hi] at hc
    cases hc
    apply World.cell?_setCell_same
    exact h.cell i l[i] (List.getElem?_eq_getElem hi)
  · rw [List.getElem?_set_ne e] at hc
    refine Eq.trans ?_ (h.cell j c hc)
    apply World.cell?_setCell_other
    exact fun h' => e (by injection h')
theorem Blk.bytes {V : World} {g : Nat} {l : List UInt8} (h : Blk V g l) : Lib.Bytes V g 0 ⟨l.toArray⟩ := fun i hi => by
  have hi' : i < l.length := hi
  rw [Nat.zero_add, h.cell i l[i] (List.getElem?_eq_getElem hi')]
  rfl
theorem Blk.new (w : World) (s : ByteArray) : Blk (Lib.bytesWorld w 5 s) w.heap.size s.data.toList := by
  have hc : ∀ i, i < s.size → (Lib.bytesWorld w 5 s).cell? ⟨w.heap.size, i, none⟩ = some (.int .u8 (s.data.toList.getD i 0).toNat) := fun i hi => Lib.bytesWorld_cell w 5 s i hi
  have hb := Lib.bytesWorld_at_new w 5 s
  refine ⟨fun i c h => ?_, fun i hi => ?_⟩
  · have hi := (List.getElem?_eq_some_iff.1 h).1
    rw [hc i (by rw [← sz]; exact hi)]
    simp [List.getD, h]
  · have h1 := hc i (by rw [← sz]; exact hi)
    have h2 : i < (Lib.bytesCells w 5 s).size := by
      rw [Lib.cell_of_heap hb] at h1
      exact (Array.getElem?_eq_some_iff.1 h1).1
    simp only [World.frozen?, hb]
    simp; omega
theorem low_up {c : UInt8} (h1 : 65 ≤ c.toNat) (h2 : c.toNat ≤ 90) : lowB c = c + 32 ∧ (c + 32).toNat = c.toNat + 32 := by
  refine ⟨by unfold lowB; rw [if_pos ⟨h1, h2⟩], ?_⟩
  rw [UInt8.toNat_add]
  show (c.toNat + 32) % 256 = _
  omega
theorem low_no {c : UInt8} (h : ¬ (65 ≤ c.toNat ∧ c.toNat ≤ 90)) : lowB c = c := by unfold lowB; rw [if_neg h]

set_option maxRecDepth 100000 in
set_option maxHeartbeats 4000000 in
theorem low_any (s : ByteArray) (w : World) (hs : s.size ≤ 1099511627776) :
    Calls Tryz.prog 45 #[.string s] w fun e w' => e = .returned (.string ⟨(lowL s.data.toList).toArray⟩) ∧ Below w.heap.size w w' := by
  have hcv := Lib.run_convert_string_bytes (P := Tryz.prog) w 9 43 5 s (u := .string) Tryz.underlying9 Tryz.underlying43 Tryz.underlying5
  obtain ⟨L, hL⟩ : ∃ L, s.data.toList = L := ⟨_, rfl⟩
  have hLn : L.length = s.size := by rw [← hL, sz]
  have hB : Blk (Lib.bytesWorld w 5 s) w.heap.size (mix L 0) := by
    rw [mix_zero, ← hL]
    exact Blk.new w s
  have hb := Lib.bytesWorld_below w 5 s
  generalize grownCap w s.size 0 5 = cap at *
  have hend : ∀ W, Blk W w.heap.size (lowL L) → (convert 43 9 (.slice (some ⟨w.heap.size, 0, none⟩) s.size cap)).run Tryz.prog W = .ok (.string ⟨(lowL L).toArray⟩) W := fun W h => by
    have h2 := Lib.run_convert_whole W 43 5 9 Tryz.underlying43 Tryz.underlying5 Tryz.underlying9 w.heap.size 0 ⟨(lowL L).toArray⟩ h.bytes cap
    have e : (⟨(lowL L).toArray⟩ : ByteArray).size = s.size := by rw [← hLn]; show (lowL L).length = _; simp [lowL]
    rw [e] at h2
    exact h2
  rw [hL]
  generalize Lib.bytesWorld w 5 s = V at *
  have HB := Lib.hid hB
  have HBL := Lib.hid hb
  have HEND := Lib.hid hend
  clear hB hb hend hL
  go_enter Tryz.func45, Tryz.ntmps45
  go_wp2_with fail
  go_loopg [10] s.size (fun gk v wr => ∃ j : Nat, gk = s.size - j ∧ v = .int .i64 j ∧ j ≤ s.size ∧ Blk wr w.heap.size (mix L j) ∧ Below w.heap.size w wr)
  case atStart => exact ⟨0, rfl, rfl, by omega, HB.out, HBL.out⟩
  case round =>
    obtain ⟨j, rfl, rfl, hj, hB, hbl⟩ := hrel
    have HB2 := Lib.hid hB
    have HBL2 := Lib.hid hbl
    clear hB hbl HB HBL
    rcases Nat.lt_or_ge j s.size with hlt | hge
    · have hjL : j < L.length := by omega
      have hc := HB2.out.cell j _ (mix_at L j hjL)
      have hml : j < (mix L j).length := by rw [mix_len L j (by omega)]; exact hjL
      have hf := HB2.out.fr j hml
      have hsu := mix_succ L j hjL
      have hsm := mix_same L j hjL
      generalize L[j] = c at *
      by_cases hup : 65 ≤ c.toNat ∧ c.toNat ≤ 90
      · obtain ⟨h1, h2⟩ := hup
        obtain ⟨e1, e2⟩ := low_up h1 h2
        have t1 : ((c.toNat : Int) ≥ 65) := by omega
        have t2 : ((c.toNat : Int) ≤ 90) := by omega
        have HN : Hid (Blk (wr.setCell ⟨w.heap.size, j, none⟩ (.int .u8 ((c.toNat : Int) + 32))) w.heap.size (mix L (j + 1))) := Lib.hid (by
          rw [hsu, e1]
          exact HB2.out.set hml (c + 32) (by rw [e2]; omega))
        have HNB : Hid (Below w.heap.size w (wr.setCell ⟨w.heap.size, j, none⟩ (.int .u8 ((c.toNat : Int) + 32)))) := Lib.hid (HBL2.out.setCell (p := ⟨w.heap.size, j, none⟩) (Nat.le_refl _) _)
        clear hsu hsm e1 e2 hml
        go_wp2_with fail
        go_roundg (s.size - (j + 1))
        case measure => omega
        case rel => exact ⟨j + 1, rfl, rfl, by omega, HN.out, HNB.out⟩
      · have HN : Hid (Blk wr w.heap.size (mix L (j + 1))) := Lib.hid (by rw [hsm (low_no hup)]; exact HB2.out)
        clear hsu hsm hml
        rcases Nat.lt_or_ge c.toNat 65 with h1 | h1
        · clear hup
          go_wp2_with fail
          go_roundg (s.size - (j + 1))
          case measure => omega
          case rel => exact ⟨j + 1, rfl, rfl, by omega, HN.out, HBL2.out⟩
        · have h2 : 91 ≤ c.toNat := by omega
          clear hup
          go_wp2_with fail
          go_roundg (s.size - (j + 1))
          case measure => omega
          case rel => exact ⟨j + 1, rfl, rfl, by omega, HN.out, HBL2.out⟩
    · obtain rfl : j = s.size := by omega
      have hB3 := HB2.out
      rw [← hLn, mix_end] at hB3
      have hcv2 := HEND.out wr hB3
      clear hB3 HEND HB2
      go_wp2_with fail
      go_ret
      exact ⟨rfl, HBL2.out⟩
end Go.Proofs.YtimhhacfjgbomaaGreatDoor
namespace Go.Proofs.YtimhhacfjgbomaaGreatDoor
set_option linter.unusedSimpArgs false
set_option linter.unusedVariables false
open Go.RowKit Go.Shelf

theorem lowB_lib (c : UInt8) : Lib.lowerB c = lowB c := by
  have := (by decide +kernel : ∀ i : Fin 256, Lib.lowerB (UInt8.ofNat i.val) = lowB (UInt8.ofNat i.val)) ⟨c.toNat, c.toNat_lt⟩
  simpa using this
theorem lowL_lib (l : List UInt8) : Lib.toLowerA l = lowL l := by
  unfold Lib.toLowerA lowL
  exact List.map_congr_left fun c _ => lowB_lib c
def kwsB : ByteArray := ⟨#[32, 97, 110, 100, 32, 97, 115, 32, 97, 115, 99, 32, 97, 115, 99, 101, 110, 100, 105, 110, 103, 32, 98, 121, 32, 99, 97, 115, 101, 32, 99, 111, 110, 116, 97, 105, 110, 115, 32, 99, 114, 101, 97, 116, 101, 32, 100, 101, 108, 101, 116, 101, 32, 100, 101, 115, 99, 32, 100, 101, 115, 99, 101, 110, 100, 105, 110, 103, 32, 100, 101, 116, 97, 99, 104, 32, 100, 105, 115, 116, 105, 110, 99, 116, 32, 101, 108, 115, 101, 32, 101, 110, 100, 32, 101, 110, 100, 115, 32, 102, 97, 108, 115, 101, 32, 105, 110, 32, 105, 115, 32, 108, 105, 109, 105, 116, 32, 109, 97, 116, 99, 104, 32, 110, 111, 116, 32, 110, 117, 108, 108, 32, 111, 110, 32, 111, 112, 116, 105, 111, 110, 97, 108, 32, 111, 114, 32, 111, 114, 100, 101, 114, 32, 114, 101, 109, 111, 118, 101, 32, 114, 101, 116, 117, 114, 110, 32, 115, 101, 116, 32, 115, 107, 105, 112, 32, 115, 116, 97, 114, 116, 115, 32, 116, 104, 101, 110, 32, 116, 114, 117, 101, 32, 117, 110, 119, 105, 110, 100, 32, 119, 104, 101, 110, 32, 119, 104, 101, 114, 101, 32, 119, 105, 116, 104, 32, 120, 111, 114, 32]⟩
theorem kwsB_size : kwsB.size < 4294967281 := by decide +kernel
theorem kwsB_list : kwsB.data.toList = kwsText := by decide +kernel

theorem contains_kw (K X : ByteArray) (L R : List UInt8) (hK : K.size < 4294967281) (hR : K.data.toList = R) (hX : X.data.toList = L) (m : Int) (V : World) (hm : V.cell? ⟨2, 0, none⟩ = some (.int .i64 m)) :
    Calls Tryz.prog 39 #[.string K, .string X] V fun e w' => e = .returned (.bool (Lib.contains R L)) ∧ V = w' := by
  have h := Tryz.strings_Contains K X m V hK hm
  rw [hR, hX] at h
  exact h.mono fun e w' h' => ⟨h'.1, h'.2.symm⟩

set_option maxRecDepth 100000 in
set_option maxHeartbeats 4000000 in
theorem reserved_any {n₀ : Nat} (s : ByteArray) (w : World) (hs : s.size ≤ 1048576) (hE : Env n₀ w) :
    Calls Tryz.prog 20 #[.string s] w fun e w' => e = .returned (.bool (resB s.data.toList)) ∧ Below w.heap.size w w' := by
  have hP := plain_any s w hs hE
  have hR : resB s.data.toList = (plainB s.data.toList && Lib.contains kwsText (32 :: (lowL s.data.toList ++ [32]))) := rfl
  cases hp : plainB s.data.toList with
  | false =>
    rw [hp] at hP hR
    have HP := Lib.hid hP
    have HR := Lib.hid hR
    clear hP hR hp
    generalize resB s.data.toList = ANS at *
    go_enter Tryz.func20, Tryz.ntmps20
    go_wp2_with (go_at_call 38; refine HP.out.mono ?_; rintro e w1 ⟨rfl, hb⟩)
    go_ret
    exact ⟨retB HR.out.symm, hb⟩
  | true =>
    rw [hp, Bool.true_and] at hR
    rw [hp] at hP
    have hrun : ∀ c ∈ s.data.toList, runB c = true := by
      have h1 : runL s.data.toList = s.data.toList := by
        unfold plainB at hp
        split at hp
        · rename_i h; rw [h]; rfl
        · simp at hp; exact hp.1.2
      intro c hc
      rw [← h1] at hc
      exact run_mem c hc
    have hasc : ∀ (j : Nat) (b : UInt8), s.data.toList[j]? = some b → b.toNat < 128 := fun j b h => (runB_ascii (hrun b (List.mem_of_getElem? h))).1
    have hL := fun V => Tryz.strings_ToLower_ascii s V (by omega) hasc
    obtain ⟨T, hT⟩ : ∃ T : ByteArray, T = ⟨(lowL s.data.toList).toArray⟩ := ⟨_, rfl⟩
    have hTs : T.size = s.size := by rw [hT, ← sz, ← sz]; simp [lowL]
    have hL : ∀ V, Calls Tryz.prog 40 #[.string s] V fun e w' => e = .returned (.string T) ∧ Below V.heap.size V w' := fun V => (hL V).mono fun e w' h => ⟨by rw [h.1, lowL_lib, hT], h.2⟩
    have hTl : T.data.toList = lowL s.data.toList := by rw [hT]
    have hC : ∀ V m, V.cell? ⟨2, 0, none⟩ = some (.int .i64 m) → Calls Tryz.prog 39 #[.string kwsB, .string ((⟨#[32]⟩ ++ T) ++ ⟨#[32]⟩)] V fun e w' => e = .returned (.bool (resB s.data.toList)) ∧ V = w' := by
      intro V m hm
      have := contains_kw kwsB ((⟨#[32]⟩ ++ T) ++ ⟨#[32]⟩) (32 :: (lowL s.data.toList ++ [32])) kwsText kwsB_size kwsB_list (by rw [← hTl]; simp) m V hm
      rw [← hR] at this
      exact this
    generalize resB s.data.toList = ANS at *
    have k1 : ¬ 9223372036854775807 < 1 + T.size := by omega
    have k2 : ¬ 9223372036854775807 < 1 + T.size + 1 := by omega
    have HP := Lib.hid hP
    have HL := Lib.hid hL
    have HC := Lib.hid hC
    have HE := Lib.hid hE
    clear hP hL hC hR hT hTs hTl hE hasc hrun hp
    go_enter Tryz.func20, Tryz.ntmps20
    go_wp2_with (first | (go_at_call 38; refine HP.out.mono ?_; rintro e w1 ⟨rfl, hb⟩) | (go_at_call 40; refine (HL.out _).mono ?_; rintro e w2 ⟨rfl, hb2⟩))
    have hb3 := hb.trans (hb2.mono hb.size)
    obtain ⟨m, hm⟩ := (HE.out.below hb3).maxLen
    refine (HC.out _ m hm).mono ?_
    rintro e w3 ⟨rfl, rfl⟩
    clear hm
    go_wp2_with fail
    go_ret
    exact ⟨rfl, hb3⟩

set_option maxRecDepth 100000 in
set_option maxHeartbeats 4000000 in
theorem spell_any {n₀ : Nat} (s : ByteArray) (w : World) (hs : s.size ≤ 1048576) (hE : Env n₀ w) :
    Calls Tryz.prog 22 #[.string s] w fun e w' => e = .returned (.string ⟨(spellL s.data.toList).toArray⟩) ∧ Below w.heap.size w w' := by
  have hN := name_any s w (by omega) hE
  have hP := fun V (h : Env n₀ V) => plain_any s V hs h
  have hR := fun V (h : Env n₀ V) => reserved_any s V hs h
  have hB := fun V (h : Env n₀ V) => between_any s V hs h
  have hS : spellL s.data.toList = if nameB s.data.toList then (if plainB s.data.toList && !resB s.data.toList then s.data.toList else betweenL s.data.toList) else [] := rfl
  have HP := Lib.hid hP
  have HR := Lib.hid hR
  have HB := Lib.hid hB
  have HS := Lib.hid hS
  have HE := Lib.hid hE
  clear hP hR hB hS hE
  generalize spellL s.data.toList = ANS at *
  cases hn : nameB s.data.toList with
  | false =>
    rw [hn] at hN
    have HA : Hid (ANS = []) := by unfold Hid; rw [HS.out, hn]; rfl
    have HN := Lib.hid hN
    clear hN hn HS HP HR HB
    go_enter Tryz.func22, Tryz.ntmps22
    go_wp2_with (go_at_call 18; refine HN.out.mono ?_; rintro e w1 ⟨rfl, hb⟩)
    go_ret
    exact ⟨retS (by rw [HA.out]), hb⟩
  | true =>
    rw [hn] at hN
    have HN := Lib.hid hN
    cases hp : plainB s.data.toList with
    | false =>
      have HA : Hid (ANS = betweenL s.data.toList) := by unfold Hid; rw [HS.out, hn, hp]; rfl
      have HP2 : Hid (∀ V, Env n₀ V → Calls Tryz.prog 38 #[.string s] V fun e w' => e = .returned (.bool false) ∧ Below V.heap.size V w') := Lib.hid (by have := HP.out; rw [hp] at this; exact this)
      clear hN hn hp HS HP HR
      go_enter Tryz.func22, Tryz.ntmps22
      go_wp2_with (first | (go_at_call 18; refine HN.out.mono ?_; rintro e w1 ⟨rfl, hb⟩; have hE1 := Lib.hid (HE.out.below hb)) | (go_at_call 38; refine (HP2.out _ hE1.out).mono ?_; rintro e w2 ⟨rfl, hb2⟩; have hb3 := hb.trans (hb2.mono hb.size); have hE2 := Lib.hid (HE.out.below hb3)) | (go_at_call 42; refine (HB.out _ hE2.out).mono ?_; rintro e w3 ⟨rfl, hb4⟩; have hb5 := hb3.trans (hb4.mono hb3.size)))
      go_ret
      exact ⟨retS (by rw [HA.out]), hb5⟩
    | true =>
      have HP2 : Hid (∀ V, Env n₀ V → Calls Tryz.prog 38 #[.string s] V fun e w' => e = .returned (.bool true) ∧ Below V.heap.size V w') := Lib.hid (by have := HP.out; rw [hp] at this; exact this)
      cases hr : resB s.data.toList with
      | false =>
        have HA : Hid (ANS = s.data.toList) := by unfold Hid; rw [HS.out, hn, hp, hr]; rfl
        have HR2 : Hid (∀ V, Env n₀ V → Calls Tryz.prog 20 #[.string s] V fun e w' => e = .returned (.bool false) ∧ Below V.heap.size V w') := Lib.hid (by have := HR.out; rw [hr] at this; exact this)
        clear hN hn hp hr HS HP HR HB
        go_enter Tryz.func22, Tryz.ntmps22
        go_wp2_with (first | (go_at_call 18; refine HN.out.mono ?_; rintro e w1 ⟨rfl, hb⟩; have hE1 := Lib.hid (HE.out.below hb)) | (go_at_call 38; refine (HP2.out _ hE1.out).mono ?_; rintro e w2 ⟨rfl, hb2⟩; have hb3 := hb.trans (hb2.mono hb.size); have hE2 := Lib.hid (HE.out.below hb3)) | (go_at_call 20; refine (HR2.out _ hE2.out).mono ?_; rintro e w3 ⟨rfl, hb4⟩; have hb5 := hb3.trans (hb4.mono hb3.size)))
        go_ret
        exact ⟨retS (by rw [HA.out]), hb5⟩
      | true =>
        have HA : Hid (ANS = betweenL s.data.toList) := by unfold Hid; rw [HS.out, hn, hp, hr]; rfl
        have HR2 : Hid (∀ V, Env n₀ V → Calls Tryz.prog 20 #[.string s] V fun e w' => e = .returned (.bool true) ∧ Below V.heap.size V w') := Lib.hid (by have := HR.out; rw [hr] at this; exact this)
        clear hN hn hp hr HS HP HR
        go_enter Tryz.func22, Tryz.ntmps22
        go_wp2_with (first | (go_at_call 18; refine HN.out.mono ?_; rintro e w1 ⟨rfl, hb⟩; have hE1 := Lib.hid (HE.out.below hb)) | (go_at_call 38; refine (HP2.out _ hE1.out).mono ?_; rintro e w2 ⟨rfl, hb2⟩; have hb3 := hb.trans (hb2.mono hb.size); have hE2 := Lib.hid (HE.out.below hb3)) | (go_at_call 20; refine (HR2.out _ hE2.out).mono ?_; rintro e w3 ⟨rfl, hb4⟩; have hb5 := hb3.trans (hb4.mono hb3.size); have hE3 := Lib.hid (HE.out.below hb5)) | (go_at_call 42; refine (HB.out _ hE3.out).mono ?_; rintro e w4 ⟨rfl, hb6⟩; have hb7 := hb5.trans (hb6.mono hb5.size)))
        go_ret
        exact ⟨retS (by rw [HA.out]), hb7⟩

/-- Is a word a keyword? -/
def isB (k : Int) (t key : ByteArray) : Bool := decide (k = 1) && decide (lowL t.data.toList = lowL key.data.toList)
theorem lowS_eq (a b : ByteArray) : ((⟨(lowL a.data.toList).toArray⟩ : ByteArray).toList == (⟨(lowL b.data.toList).toArray⟩ : ByteArray).toList) = decide (lowL a.data.toList = lowL b.data.toList) := by
  rw [ByteArray.toList_eq, ByteArray.toList_eq, Bool.eq_iff_iff]
  simp
set_option maxRecDepth 100000 in
set_option maxHeartbeats 4000000 in
theorem is_any (k p : Int) (t : ByteArray) (n : Int) (key : ByteArray) (w : World) (ht : t.size ≤ 1099511627776) (hk : key.size ≤ 1099511627776) :
    Calls Tryz.prog 24 #[.agg #[.int .i64 k, .int .i64 p, .string t, .int .u64 n], .string key] w fun e w' => e = .returned (.bool (isB k t key)) ∧ Below w.heap.size w w' := by
  obtain ⟨c0, c1, c2, c3⟩ := Box4.cells (k := k) (p := p) (t := t) (n := n) (World.alloc_heap_new w (.cells #[.int .i64 k, .int .i64 p, .string t, .int .u64 n] 33))
  have hb0 := ballocR w (.cells #[.int .i64 k, .int .i64 p, .string t, .int .u64 n] 33)
  have hL1 := fun V => low_any t V ht
  have hL2 := fun V => low_any key V hk
  have he := lowS_eq t key
  have hA : isB k t key = (decide (k = 1) && decide (lowL t.data.toList = lowL key.data.toList)) := rfl
  generalize isB k t key = ANS at *
  generalize decide (lowL t.data.toList = lowL key.data.toList) = E at *
  obtain ⟨A, hAA⟩ : ∃ A : ByteArray, (⟨(lowL t.data.toList).toArray⟩ : ByteArray) = A := ⟨_, rfl⟩
  obtain ⟨B, hBB⟩ : ∃ A : ByteArray, (⟨(lowL key.data.toList).toArray⟩ : ByteArray) = A := ⟨_, rfl⟩
  rw [hAA] at he hL1
  rw [hBB] at he hL2
  clear hAA hBB
  have HL1 := Lib.hid hL1
  have HL2 := Lib.hid hL2
  have HA := Lib.hid hA
  clear hL1 hL2 hA
  by_cases h1 : k = 1
  · subst h1
    go_enter Tryz.func24, Tryz.ntmps24
    go_wp2_with fail
    refine (HL1.out _).mono ?_
    rintro e w1 ⟨rfl, hb1⟩
    go_wp2_with fail
    refine (HL2.out _).mono ?_
    rintro e w2 ⟨rfl, hb2⟩
    have hb3 := hb0.trans (hb1.mono hb0.size)
    have hb4 := hb3.trans (hb2.mono hb3.size)
    clear c0 c1 c2 c3
    go_wp2_with fail
    all_goals
      go_ret
      refine ⟨retB ?_, hb4⟩
      rw [HA.out]
      simp_all
  · have hk1 : (k == 1) = false := by simp; exact h1
    go_enter Tryz.func24, Tryz.ntmps24
    go_wp2_with fail
    go_ret
    exact ⟨retB (by rw [HA.out]; simp [h1]), hb0⟩
end Go.Proofs.YtimhhacfjgbomaaGreatDoor
