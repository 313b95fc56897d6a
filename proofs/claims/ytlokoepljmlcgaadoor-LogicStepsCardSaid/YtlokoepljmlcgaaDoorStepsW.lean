/-
  THE LAW LogicSteps: the walk.
-/
import Derived.Test.YtlokoepljmlcgaaDoorIntv
import Derived.Test.YtlokoepljmlcgaaDoorCopied
namespace Go.Proofs.YtlokoepljmlcgaaDoor
set_option linter.unusedSimpArgs false
set_option linter.unusedVariables false
open Go.RowKit Go.Shelf

theorem rangeE_ok {a zt step : Int} (h : rangeE a zt step = 0) : step ≠ 0 ∧ rgo zt step 65536 a = some (rangeL a zt step) := by
  unfold rangeE at h
  unfold rangeL
  by_cases h0 : step = 0
  · rw [if_pos h0] at h; cases h
  · rw [if_neg h0] at h ⊢
    refine ⟨h0, ?_⟩
    cases hr : rgo zt step 65536 a with
    | none => rw [hr] at h; simp at h
    | some l => rfl

set_option maxRecDepth 100000 in
set_option maxHeartbeats 4000000 in
theorem steps_bad (a zt step : Int) (w : World) (ha : In64 a) (hs : In64 step) (h : rangeE a zt step ≠ 0 ∨ 300 < (rangeL a zt step).length) :
    Calls Tryd.prog 4 #[.int .i64 a, .int .i64 zt, .int .i64 step] w fun e w' => e = .returned (.bool true) ∧ Below w.heap.size w w' := by
  have HR := Lib.hid (range_any a zt step w ha hs)
  by_cases hE : rangeE a zt step = 0
  · have h3 : 300 < (rangeL a zt step).length := h.resolve_left (fun h' => h' hE)
    have h4 : (rangeL a zt step).length ≤ 65536 := (rgo_spec zt step 65536 a _ (rangeE_ok hE).2 ha).1
    rw [hE] at HR
    generalize rangeL a zt step = L at *
    clear h hE ha hs
    go_enter Tryd.func4, Tryd.ntmps4
    go_wp2_with (first
      | (go_at_call 20; refine HR.out.mono ?_; rintro e w1 ⟨v, rfl, hown, hb⟩; obtain ⟨av, cv, rfl⟩ := owns_form hown)
      | (go_at_call 21; refine (num_any _ _).mono ?_; rintro e w' ⟨rfl, rfl⟩)
      | (go_at_call 6; refine (works_any _).mono ?_; rintro e w' ⟨rfl, hbel⟩))
    go_ret
    exact ⟨rfl, hb.trans (hbel.mono hb.size)⟩
  · obtain ⟨E, hEe⟩ : ∃ E, rangeE a zt step = E := ⟨_, rfl⟩
    rw [hEe] at HR hE
    have e1 : (E != 0) = true := by simpa using hE
    generalize rangeL a zt step = L at *
    clear h hE ha hs hEe
    go_enter Tryd.func4, Tryd.ntmps4
    go_wp2_with (first
      | (go_at_call 20; refine HR.out.mono ?_; rintro e w1 ⟨v, rfl, hown, hb⟩; obtain ⟨av, cv, rfl⟩ := owns_form hown)
      | (go_at_call 21; refine (num_any _ _).mono ?_; rintro e w' ⟨rfl, rfl⟩)
      | (go_at_call 6; refine (works_any _).mono ?_; rintro e w' ⟨rfl, hbel⟩))
    go_ret
    exact ⟨rfl, hb.trans (hbel.mono hb.size)⟩

theorem owns_below' {w w' : World} {base : Nat} {e : TypeId} {size : Nat} {v : Value} {n : Nat} {xs : List Value} (h : w.ownsRow base e size v n xs) (hb : Below w.heap.size w w') : w'.ownsRow base e size v n xs :=
  h.kept (row := none) ⟨hb.os, hb.tape, hb.output, hb.size, fun k hk _ => hb.block k hk⟩ (by cases v.ownBlock <;> simp)
/-- How far the values have been made. -/
structure Made (w w1 : World) (av : Option Addr) (L : List Int) (i : Nat) (v : Value) (wr : World) : Prop where
  own : wr.ownsRow w1.heap.size 30 6 v i (valsCells (L.take i))
  row : RowAt wr av .i64 L
  bel : Below w1.heap.size w1 wr
  bel0 : Below w.heap.size w w1

theorem Made.drew {w w1 : World} {av : Option Addr} {L : List Int} {i : Nat} {v : Value} {wr : World} (h : Made w w1 av L i v wr) (q : Nat) : Made w w1 av L i v (wr.drewN q) :=
  ⟨h.own, h.row, bdrewN h.bel q, h.bel0⟩
set_option maxRecDepth 100000 in
set_option maxHeartbeats 8000000 in
theorem steps_walk (a zt step : Int) (w : World) (ha : In64 a) (hs : In64 step) (hT : Lib.Utf8Tabs 0 1 w) (hE : rangeE a zt step = 0) (hlen : (rangeL a zt step).length ≤ 300) :
    Calls Tryd.prog 4 #[.int .i64 a, .int .i64 zt, .int .i64 step] w fun e w' => e = .returned (.bool true) ∧ Below w.heap.size w w' := by
  obtain ⟨i0, hi, hz0, hz1, hz2⟩ := info_parts Tryd.info30
  have HR := Lib.hid (range_any a zt step w ha hs)
  obtain ⟨_, hspec, hend⟩ := rgo_spec zt step 65536 a _ (rangeE_ok hE).2 ha
  have hs0 := (rangeE_ok hE).1
  rw [hE] at HR
  have HSP := Lib.hid hspec
  have HEND := Lib.hid hend
  have HS0 := Lib.hid hs0
  have HT := Lib.hid hT
  have HA := Lib.hid ha
  have HS := Lib.hid hs
  clear hspec hend hs0 hT ha hs hE
  generalize rangeL a zt step = L at *
  go_enter Tryd.func4, Tryd.ntmps4
  go_wp2_with (first
    | (go_at_call 20; refine HR.out.mono ?_; rintro e w1 ⟨v, rfl, hown, hb⟩; obtain ⟨_, av, cv, rfl, _, hrow⟩ := rowAt_owns hown; have HROW := Lib.hid hrow; clear hrow hown)
    | (go_at_call 21; refine (num_any _ _).mono ?_; rintro e w' ⟨rfl, rfl⟩))
  go_loopg [9, 10] L.length (fun gk v s0 wr => ∃ i : Nat, Made w w1 av L i v wr ∧ s0 = .int .i64 i ∧ gk = L.length - i ∧ i ≤ L.length)
  case atStart => exact ⟨0, ⟨World.ownsRow_nil _ _ _ _, HROW.out, Below.refl _ _, hb⟩, rfl, rfl, Nat.zero_le _⟩
  case round =>
    obtain ⟨i, HM, rfl, rfl, hil⟩ := hrel
    obtain ⟨vv, vc, rfl⟩ := owns_form HM.own
    by_cases hlt : i < L.length
    · obtain ⟨hz, hp, hzi⟩ := HSP.out i hlt
      rw [← hz] at hp hzi
      obtain ⟨b, o, rfl⟩ : ∃ b o, av = some ⟨b, o, none⟩ := by
        rcases HM.row with h | ⟨b, o, h, _⟩
        · subst h; simp at hlt
        · exact ⟨b, o, h⟩
      have hc2 : ∀ w', RowAt w' (some ⟨b, o, none⟩) .i64 L → w'.cell? ⟨b, o + i, none⟩ = some (.int .i64 (L.getD i 0)) := fun w' h => by
        rcases h with h | ⟨b', o', h, hc⟩
        · subst h; simp at hlt
        · cases h; exact hc i hlt
      have c1 := hc2 wr HM.row
      have hnx : ∀ (v' : Value) (w2 : World), w2.ownsRow w1.heap.size 30 6 v' (i + 1) (valsCells (L.take i) ++ valCells (L.getD i 0)) → (wr.alloc (.cells #[.int .i64 2, .bool false, .int .i64 (L.getD i 0), .string ⟨#[]⟩, .slice none 0 0, .slice none 0 0] 30)).grownBy w2 (Value.slice vv i vc).ownBlock → Made w w1 (some ⟨b, o, none⟩) L (i + 1) v' w2 := fun v' w2 ho hg =>
        have hbl := below_append HM.bel HM.bel.size HM.own hg
        { own := by
            have e : valsCells (L.take (i + 1)) = valsCells (L.take i) ++ valCells (L.getD i 0) := by
              rw [take_succ_getD 0 L i hlt]; simp [valsCells]
            rw [e]; exact ho
          row := HROW.out.below hbl, bel := hbl, bel0 := HM.bel0 }
      have hpp : (0 < step ∧ ¬ zt < L.getD i 0) ∨ (step < 0 ∧ ¬ L.getD i 0 < zt) := by
        have h1 := HS0.out
        have h2 := mt (past_iff zt step (L.getD i 0)).2 (by rw [hp]; simp)
        omega
      have hsub : ∀ j, i = j + 1 → (L.getD i 0 - L.getD j 0 = step ∧ In64 (L.getD j 0)) := fun j hj => by
        obtain ⟨h1, _, h3⟩ := HSP.out j (by omega)
        rw [← h1] at h3
        refine ⟨?_, h3⟩
        rw [hz, h1, hj]
        have : ((j + 1 : Nat) : Int) = (j : Int) + 1 := by simp
        rw [this, Int.add_mul, Int.one_mul]; omega
      have hc3 : ∀ j, i = j + 1 → ∀ w', RowAt w' (some ⟨b, o, none⟩) .i64 L → w'.cell? ⟨b, o + j, none⟩ = some (.int .i64 (L.getD j 0)) := fun j hj w' h => by
        rcases h with h | ⟨b', o', h, hc⟩
        · subst h; simp at hlt
        · cases h; exact hc j (by omega)
      have c3 : i + 1 ≤ maxLen := by unfold maxLen; omega
      have c4 : (i + 1) * 88 ≤ 140737488355328 := by omega
      have C3 := Lib.hid c3; have C4 := Lib.hid c4
      have HC2 := Lib.hid hc2; have HNX := Lib.hid hnx; have HZI := Lib.hid hzi; have HSUB := Lib.hid hsub; have HC3 := Lib.hid hc3; have HM' := Lib.hid HM
      clear hz hp hzi c3 c4 hc2 hnx hsub hc3 HM HSP HEND HR HA
      generalize L.getD i 0 = z at *
      cases i with
      | zero =>
        simp only [Nat.add_zero] at c1 HC2
        rcases hpp with ⟨p1, p2⟩ | ⟨p1, p2⟩ <;>
        · go_wp2_with (first
            | (at_builtin; refine wpList_append_own _ rfl _ _ 28 rfl w1.heap.size 30 i0 _ 6 88 Tryd.underlying28 hi hz0 hz1 hz2 rfl (by decide) _ _ _ rfl (HM'.out.own.alloc _) ⟨wr.heap.size, 0, none⟩ 1 1 (valCells z) rfl rfl (six_new _ _) (six_one _) C3.out C4.out (bsz HM'.out.bel _) ?_; intro v' w2 hown' hgrow _; have HM2 := Lib.hid (HNX.out v' w2 hown' hgrow); have c2 := HC2.out w2 HM2.out.row))
          go_roundg (L.length - 1)
          case measure => omega
          case rel => exact ⟨1, HM2.out, by go_num, rfl, by omega⟩
      | succ j =>
        obtain ⟨hzy, hyi⟩ := HSUB.out j rfl
        have hsb : ∀ w', Calls Tryd.prog 22 #[.int .i64 z, .int .i64 (L.getD j 0)] w' fun e w'' => e = .returned (.tuple #[.int .i64 step, .int .i64 0]) ∧ w' = w'' := fun w' => by
          have := sub_any z (L.getD j 0) w' HZI.out hyi
          rw [hzy, res_fit (fits_iff.2 HS.out), err_fit (fits_iff.2 HS.out)] at this
          exact this
        have HSB := Lib.hid hsb
        have HC4 := Lib.hid (HC3.out j rfl)
        clear hzy hyi hsb HSUB HC3
        generalize L.getD j 0 = y at *
        have k2 : IntKind.i64.wrap ((j : Int) + 1 - 1) = (j : Int) := by rw [IntWalk.i64_left]; unfold wrap64; omega
        rcases hpp with ⟨p1, p2⟩ | ⟨p1, p2⟩ <;>
        · go_wp2_with (first
            | (at_builtin; refine wpList_append_own _ rfl _ _ 28 rfl w1.heap.size 30 i0 _ 6 88 Tryd.underlying28 hi hz0 hz1 hz2 rfl (by decide) _ _ _ rfl (HM'.out.own.alloc _) ⟨wr.heap.size, 0, none⟩ 1 1 (valCells z) rfl rfl (six_new _ _) (six_one _) C3.out C4.out (bsz HM'.out.bel _) ?_; intro v' w2 hown' hgrow _; have HM2 := Lib.hid (HNX.out v' w2 hown' hgrow); have c2 := HC2.out w2 HM2.out.row; have c4 := HC4.out w2 HM2.out.row))
          go_quiet ((go_at_call 22; exact Calls.quiet_of_same ((HSB.out _).mono fun _ _ h => ⟨h.1, h.2.symm⟩)))
          go_wp2_with (go_at_call 21; refine (num_any _ _).mono ?_; rintro e w' ⟨rfl, rfl⟩)
          go_roundg (L.length - (j + 1 + 1))
          case measure => omega
          case rel => exact ⟨j + 1 + 1, HM2.out.drew nq, by go_num, rfl, by omega⟩
    · have hin : i = L.length := by omega
      subst hin
      have hown := HM.own
      rw [List.take_length] at hown
      have hbw := HM.bel0.trans (HM.bel.mono HM.bel0.size)
      by_cases hnil : L = []
      · subst hnil
        have hp : past zt step a = true := by
          rcases HEND.out with h | ⟨h, _⟩
          · simpa using h
          · exact absurd rfl h
        have hin := in_int a hown rfl (by simp) (Utf8Tabs_below HT.out hbw)
        simp only [List.not_mem_nil, if_false, sc, Nd.val, List.length_nil] at hin
        have hpp := (past_iff zt step a).1 hp
        have HIN := Lib.hid hin
        clear hin hp hown HM HSP HEND HR HA
        simp only [List.length_nil] at *
        rcases hpp with ⟨p1, p2⟩ | ⟨p1, p2⟩ <;>
        · go_wp2_with (first
            | (go_at_call 23; refine HIN.out.mono ?_; rintro e w3 ⟨rfl, hb3⟩)
            | (go_at_call 6; refine (works_any _).mono ?_; rintro e w4 ⟨rfl, hb4⟩))
          go_ret
          have hb5 := hbw.trans (hb3.mono hbw.size)
          exact ⟨rfl, hb5.trans (hb4.mono hb5.size)⟩
      · obtain ⟨m, hm⟩ : ∃ m, L.length = m + 1 := ⟨L.length - 1, by have := List.length_pos_iff.2 hnil; omega⟩
        obtain ⟨l0, _, _⟩ := HSP.out 0 (by omega)
        obtain ⟨lm, _, lmi⟩ := HSP.out m (by omega)
        rw [← lm] at lmi
        have l0' : L.getD 0 0 = a := by simpa using l0
        have hmem : a ∈ L := by
          rw [← l0']
          simp [List.getD_eq_getElem?_getD, show 0 < L.length by omega]
        have hlast : a + (L.length : Int) * step = L.getD m 0 + step := by
          rw [lm, hm]
          have : ((m + 1 : Nat) : Int) = (m : Int) + 1 := by simp
          rw [this, Int.add_mul, Int.one_mul]; omega
        obtain ⟨b, o, rfl⟩ : ∃ b o, av = some ⟨b, o, none⟩ := by
          rcases HM.row with h | ⟨b, o, h, _⟩
          · exact absurd h hnil
          · exact ⟨b, o, h⟩
        have hc0 : ∀ w', RowAt w' (some ⟨b, o, none⟩) .i64 L → w'.cell? ⟨b, o, none⟩ = some (.int .i64 a) ∧ w'.cell? ⟨b, o + m, none⟩ = some (.int .i64 (L.getD m 0)) := fun w' h => by
          rcases h with h | ⟨b', o', h, hc⟩
          · exact absurd h hnil
          · cases h
            have h1 := hc 0 (by omega)
            rw [l0'] at h1
            exact ⟨by simpa using h1, hc m (by omega)⟩
        obtain ⟨c1, c2⟩ := hc0 wr HM.row
        have hin1 := in_int a hown rfl (by omega) (Utf8Tabs_below HT.out hbw)
        rw [if_pos hmem] at hin1
        have HOWN := Lib.hid hown
        have hin2 : ∀ w', Below wr.heap.size wr w' → Calls Tryd.prog 23 #[(sc 0 false 0).val, .slice vv L.length vc] w' fun e w'' => e = .returned (.int .i64 1) ∧ Below w'.heap.size w' w'' := fun w' hbz => by
          have h1 := in_null (owns_below' HOWN.out hbz) rfl (by omega) (Utf8Tabs_below HT.out (hbw.trans (hbz.mono hbw.size)))
          rw [if_pos hnil] at h1
          exact h1
        have hadd := fun w' => add_any (L.getD m 0) step w' lmi HS.out
        have hend : (fits (L.getD m 0 + step) = false) ∨ (fits (L.getD m 0 + step) = true ∧ past zt step (L.getD m 0 + step) = true) := by
          rw [← hlast]
          rcases HEND.out with h | ⟨_, h⟩
          · by_cases hf : fits (a + (L.length : Int) * step) = true
            · exact .inr ⟨hf, h⟩
            · exact .inl (by simpa using hf)
          · exact .inl h
        have k2 : IntKind.i64.wrap ((m : Int) + 1 - 1) = (m : Int) := by rw [IntWalk.i64_left]; unfold wrap64; omega
        simp only [sc, Nd.val] at hin1 hin2
        have HIN1 := Lib.hid hin1; have HIN2 := Lib.hid hin2; have HADD := Lib.hid hadd; have HB := Lib.hid hbw; have HC0 := Lib.hid hc0; have HROW1 := Lib.hid HM.row
        clear hin1 hin2 hadd l0 lm lmi l0' hmem hlast hown HM HSP HEND HR HA hnil hc0 hbw
        rw [hm] at HIN1 HIN2
        rw [hm]
        generalize L.getD m 0 = z at *
        rcases hend with hf | ⟨hf, hp⟩
        · have e1 : res (z + step) = 0 := res_no hf
          have e2 : err (z + step) = 120 := err_no hf
          rw [e1, e2] at HADD
          clear hf e1 e2
          go_wp2_with (first
            | (go_at_call 24; refine (HADD.out _).mono ?_; rintro e w2 ⟨rfl, rfl⟩)
            | (go_at_call 21; refine (num_any _ _).mono ?_; rintro e w' ⟨rfl, rfl⟩)
            | (go_at_call 23; refine HIN1.out.mono ?_; clear HIN1; rintro e w3 ⟨rfl, hb3⟩)
            | (go_at_call 23; refine (HIN2.out _ hb3).mono ?_; rintro e w4 ⟨rfl, hb4⟩)
            | (go_at_call 6; refine (works_any _).mono ?_; rintro e w5 ⟨rfl, hb5⟩))
          go_ret
          have hb6 := HB.out.trans (hb3.mono HB.out.size)
          have hb7 := hb6.trans (hb4.mono hb6.size)
          exact ⟨rfl, hb7.trans (hb5.mono hb7.size)⟩
        · have e1 : res (z + step) = z + step := res_fit hf
          have e2 : err (z + step) = 0 := err_fit hf
          rw [e1, e2] at HADD
          have hpp := (past_iff zt step (z + step)).1 hp
          clear hf e1 e2 hp
          generalize z + step = X at *
          rcases hpp with ⟨p1, p2⟩ | ⟨p1, p2⟩ <;>
          · go_wp2_with (first
              | (go_at_call 24; refine (HADD.out _).mono ?_; rintro e w2 ⟨rfl, rfl⟩)
              | (go_at_call 21; refine (num_any _ _).mono ?_; rintro e w' ⟨rfl, rfl⟩)
              | (go_at_call 23; refine HIN1.out.mono ?_; clear HIN1; rintro e w3 ⟨rfl, hb3⟩)
              | (go_at_call 23; refine (HIN2.out _ hb3).mono ?_; rintro e w4 ⟨rfl, hb4⟩)
              | (go_at_call 6; refine (works_any _).mono ?_; rintro e w5 ⟨rfl, hb5⟩))
            go_ret
            have hb6 := HB.out.trans (hb3.mono HB.out.size)
            have hb7 := hb6.trans (hb4.mono hb6.size)
            exact ⟨rfl, hb7.trans (hb5.mono hb7.size)⟩
end Go.Proofs.YtlokoepljmlcgaaDoor
