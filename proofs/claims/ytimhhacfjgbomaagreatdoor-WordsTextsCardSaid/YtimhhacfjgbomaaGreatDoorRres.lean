/-
  THE WALKS of the document's answer for names: Reserved, Is.
-/
import Derived.Test.YtimhhacfjgbomaaGreatDoorRplain
namespace Go.Proofs.YtimhhacfjgbomaaGreatDoor
set_option linter.unusedSimpArgs false
set_option linter.unusedVariables false
open Go.RowKit Go.Shelf

/-- The reserved words, as cells. -/
def kwC : List Value := kws.map fun w => Value.string ⟨w.toArray⟩
theorem kw_at {V : World} {g : Nat} {t : TypeId} (h : V.heap[g]? = some (.cells kwC.toArray t (0, 0))) {j : Nat} (hj : j < 39) : ∃ T : ByteArray, V.cell? ⟨g, j, none⟩ = some (.string T) ∧ kws[j]? = some T.data.toList := by
  have hk : kws.length = 39 := by decide
  have h1 : kws[j]? = some (kws[j]'(by omega)) := List.getElem?_eq_getElem _
  refine ⟨⟨(kws[j]'(by omega)).toArray⟩, ?_, h1⟩
  rw [Lib.cell_of_heap h]
  have : kwC.toArray[j]? = kwC[j]? := by simp
  rw [this]
  unfold kwC
  rw [List.getElem?_map, h1]
  rfl

theorem keepC {g n j : Nat} {T : ByteArray} {w V V' : World} (h : V.cell? ⟨g, j, none⟩ = some (.string T) ∧ Below n w V) (hb : Below V.heap.size V V') (hn : w.heap.size = n) : V'.cell? ⟨g, j, none⟩ = some (.string T) ∧ Below n w V' :=
  ⟨(hb.cell (p := ⟨g, j, none⟩) (World.block_lt_of_cell? V ⟨g, j, none⟩ h.1)).trans h.1, h.2.trans (hb.mono (by have := h.2.size; omega))⟩

set_option maxRecDepth 100000 in
set_option maxHeartbeats 8000000 in
theorem rres_any (s : ByteArray) (w : World) (hs : s.size ≤ 1099511627776) :
    Calls Tryz.prog 21 #[.string s] w fun e w' => e = .returned (.bool (resB s.data.toList)) ∧ Below w.heap.size w w' := by
  obtain ⟨LW, hLW⟩ : ∃ LW : ByteArray, (⟨(lowL s.data.toList).toArray⟩ : ByteArray) = LW := ⟨_, rfl⟩
  have hL := fun V => rlower_any s V hs
  rw [hLW] at hL
  have hR := resB_list s.data.toList
  have hLl : LW.data.toList = lowL s.data.toList := by rw [← hLW]
  rw [← hLl] at hR
  have HL := Lib.hid hL
  have HR := Lib.hid hR
  clear hL hR hLW hLl
  generalize resB s.data.toList = ANS at *
  go_enter Tryz.func21, Tryz.ntmps21
  go_upto_region 2 with (fail)
  generalize hV : w.alloc _ = V
  have hblk : V.heap[w.heap.size]? = some (.cells kwC.toArray 9 (0, 0)) := by rw [← hV]; exact new_at w _
  have hbl : Below w.heap.size w V := by rw [← hV]; exact ballocR w _
  have hgs : w.heap.size < V.heap.size := by rw [← hV]; simp
  have HK := Lib.hid hblk
  have HB := Lib.hid hbl
  have HS := Lib.hid hgs
  clear hV hblk hbl hgs
  generalize hg : w.heap.size = g at *
  have HGG := Lib.hid hg
  clear hg
  go_wp2_with fail
  go_loopg [4] 39 (fun gk v wr => ∃ j : Nat, gk = 39 - j ∧ v = .int .i64 j ∧ j ≤ 39 ∧ (kws.take j).any (fun x => LW.data.toList == x) = false ∧ Below V.heap.size V wr)
  case atStart => exact ⟨0, rfl, rfl, by omega, rfl, Below.refl _ _⟩
  case round =>
    obtain ⟨j, rfl, rfl, hj, hq, hb⟩ := hrel
    have HQ := Lib.hid hq
    clear hq
    by_cases hlt : j < 39
    · obtain ⟨T, hc, hk⟩ := kw_at ((hb.block g HS.out).trans HK.out) hlt
      have HKK := Lib.hid hk
      have hst : wr.cell? ⟨g, j, none⟩ = some (.string T) ∧ Below V.heap.size V wr := ⟨hc, hb⟩
      by_cases hx : LW.data.toList = T.data.toList
      · have hTL : T = LW := ba_ext hx.symm
        subst hTL
        have HA : Hid (true = ANS) := Lib.hid (by
          rw [HR.out]
          exact (List.any_eq_true.2 ⟨_, List.mem_of_getElem? HKK.out, by simp⟩).symm)
        clear hx hk hb
        go_wp2_with fail
        go_region_held3 (fun w' => w'.cell? ⟨g, j, none⟩ = some (.string T) ∧ Below V.heap.size V w')
          (first | assumption | (exact keepC (by assumption) (by assumption) rfl) | (exact keepC (by assumption) (Below.refl _ _).drew rfl))
          (first | (go_at_call 41; refine (HL.out _).mono ?_; rintro e w' ⟨rfl, hbx⟩))
        all_goals
          have hS : w'.cell? ⟨g, j, none⟩ = some (.string T) ∧ Below V.heap.size V w' := by assumption
          go_wp2_with fail
          go_ret
          exact ⟨retB HA.out, by rw [HGG.out]; exact HB.out.trans (hS.2.mono (Nat.le_of_lt HS.out))⟩
      · have x1 : ¬ T.toList = LW.toList := by rw [ByteArray.toList_eq, ByteArray.toList_eq]; exact fun e => hx e.symm
        have x2 : (T.toList == LW.toList) = false := by simp [x1]
        have HQ2 : Hid ((kws.take (j + 1)).any (fun x => LW.data.toList == x) = false) := Lib.hid (by
          rw [List.take_add_one, HKK.out, List.any_append, HQ.out]
          have : (LW.data.toList == T.data.toList) = false := beq_eq_false_iff_ne.2 hx
          simp only [Option.toList_some, List.any_cons, List.any_nil, this, Bool.or_self])
        clear hx hk hb
        go_wp2_with fail
        go_region_held3 (fun w' => w'.cell? ⟨g, j, none⟩ = some (.string T) ∧ Below V.heap.size V w')
          (first | assumption | (exact keepC (by assumption) (by assumption) rfl) | (exact keepC (by assumption) (Below.refl _ _).drew rfl))
          (first | (go_at_call 41; refine (HL.out _).mono ?_; rintro e w' ⟨rfl, hbx⟩))
        all_goals
          have hS : w'.cell? ⟨g, j, none⟩ = some (.string T) ∧ Below V.heap.size V w' := by assumption
          go_wp2_with fail
          go_roundg (39 - (j + 1))
          case measure => omega
          case rel => exact ⟨j + 1, rfl, rfl, hlt, HQ2.out, hS.2⟩
    · obtain rfl : j = 39 := by omega
      have HA : Hid (false = ANS) := Lib.hid (by
        have h1 := HQ.out
        rw [List.take_of_length_le (by decide)] at h1
        rw [HR.out, h1])
      have hb2 := HB.out.trans (hb.mono (Nat.le_of_lt HS.out))
      go_wp2_with fail
      go_ret
      exact ⟨retB HA.out, by rw [HGG.out]; exact hb2⟩

set_option maxRecDepth 100000 in
set_option maxHeartbeats 4000000 in
theorem ris_any (k p : Int) (t : ByteArray) (n : Int) (key : ByteArray) (w : World) (ht : t.size ≤ 1099511627776) (hk : key.size ≤ 1099511627776) :
    Calls Tryz.prog 25 #[.agg #[.int .i64 k, .int .i64 p, .string t, .int .u64 n], .string key] w fun e w' => e = .returned (.bool (isB k t key)) ∧ Below w.heap.size w w' := by
  obtain ⟨c0, c1, c2, c3⟩ := Box4.cells (k := k) (p := p) (t := t) (n := n) (new_at w (.cells #[.int .i64 k, .int .i64 p, .string t, .int .u64 n] 33))
  have hb0 := ballocR w (.cells #[.int .i64 k, .int .i64 p, .string t, .int .u64 n] 33)
  have hL1 := fun V => rlower_any t V ht
  have hL2 := fun V => rlower_any key V hk
  have he := lowS_eq t key
  have hA : isB k t key = (decide (k = 1) && decide (lowL t.data.toList = lowL key.data.toList)) := rfl
  generalize isB k t key = ANS at *
  generalize decide (lowL t.data.toList = lowL key.data.toList) = E at *
  obtain ⟨A, hAA⟩ : ∃ A : ByteArray, (⟨(lowL t.data.toList).toArray⟩ : ByteArray) = A := ⟨_, rfl⟩
  obtain ⟨B, hBB⟩ : ∃ A : ByteArray, (⟨(lowL key.data.toList).toArray⟩ : ByteArray) = A := ⟨_, rfl⟩
  rw [hAA] at he hL1
  rw [hBB] at he hL2
  clear hAA hBB
  have HL1 := Lib.hid hL1
  have HL2 := Lib.hid hL2
  have HA := Lib.hid hA
  clear hL1 hL2 hA
  by_cases h1 : k = 1
  · subst h1
    go_enter Tryz.func25, Tryz.ntmps25
    go_wp2_with fail
    refine (HL1.out _).mono ?_
    rintro e w1 ⟨rfl, hb1⟩
    go_wp2_with fail
    refine (HL2.out _).mono ?_
    rintro e w2 ⟨rfl, hb2⟩
    have hb3 := hb0.trans (hb1.mono hb0.size)
    have hb4 := hb3.trans (hb2.mono hb3.size)
    clear c0 c1 c2 c3
    go_wp2_with fail
    all_goals
      go_ret
      refine ⟨retB ?_, hb4⟩
      rw [HA.out]
      simp_all
  · have hk1 : (k == 1) = false := by simp; exact h1
    go_enter Tryz.func25, Tryz.ntmps25
    go_wp2_with fail
    go_ret
    exact ⟨retB (by rw [HA.out]; simp [h1]), hb0⟩
end Go.Proofs.YtimhhacfjgbomaaGreatDoor
