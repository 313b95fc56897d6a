/-
  PLAIN WORDS OF LAYER 3: what is read may be printed, within bounds. No program in sight.
-/
import Derived.Test.YtimhhacfjgbomaaGreatDoorWordsP
namespace Go.Proofs.YtimhhacfjgbomaaGreatDoor
set_option linter.unusedSimpArgs false
set_option linter.unusedVariables false
open Go.Lib

theorem may_short {g : Gw} (h : g.may = true) : g.t.size ≤ g.tell.length ∧ g.n ≤ 9223372036854775808 := by
  unfold Gw.may mayB at h
  have hs : g.t.data.toList.length = g.t.size := rfl
  unfold Gw.tell tellL
  by_cases h1 : g.k = 1
  · rw [if_pos h1] at h
    rw [if_neg (by omega), if_neg (by omega), if_neg (by omega)]
    simp at h
    omega
  · rw [if_neg h1] at h
    by_cases h2 : g.k = 2
    · rw [if_pos h2] at h ⊢
      have := flatTwice_len g.t.data.toList
      simp at h
      unfold betweenL
      rw [List.length_cons, List.length_append]
      omega
    · rw [if_neg h2] at h ⊢
      by_cases h3 : g.k = 3
      · rw [if_pos h3] at h ⊢
        have := flatEsc_len g.t.data.toList
        simp at h
        unfold quoteL
        rw [if_pos h.2, List.length_cons, List.length_append]
        omega
      · rw [if_neg h3] at h ⊢
        by_cases h4 : g.k = 4
        · rw [if_pos h4] at h ⊢
          simp only [Bool.and_eq_true, decide_eq_true_eq] at h
          rw [h.1] at hs
          refine ⟨?_, h.2⟩
          have : g.t.size = 0 := hs.symm
          omega
        · rw [if_neg h4] at h ⊢
          by_cases h5 : g.k = 5
          · rw [if_pos h5] at h
            simp at h
            omega
          · rw [if_neg h5] at h; cases h
/-- What Print asks of words. -/
structure Prn (l : List Gw) : Prop where
  t : ∀ g ∈ l, g.t.size ≤ 1048576
  n : ∀ g ∈ l, g.n < 18446744073709551616
  sum : ((l.map Gw.tell).map fun x => x.length + 1).sum ≤ 549755813888
theorem mem_sum_len : ∀ {l : List Gw} {g : Gw}, g ∈ l → g.tell.length ≤ ((l.map Gw.tell).map fun x => x.length + 1).sum
  | [], g, h => by cases h
  | x :: l, g, h => by
    simp only [List.map_cons, List.sum_cons]
    rcases List.mem_cons.1 h with rfl | h
    · omega
    · have := mem_sum_len h; omega
theorem prn_may {l : List Gw} (h : ∀ g ∈ l, g.may = true) (hs : ((l.map Gw.tell).map fun x => x.length + 1).sum ≤ 1048576) : Prn l :=
  ⟨fun g hg => Nat.le_trans (may_short (h g hg)).1 (Nat.le_trans (mem_sum_len hg) hs), fun g hg => by have := (may_short (h g hg)).2; omega, by omega⟩
theorem prn_small {l : List Gw} (h : l.length ≤ 200) (hs : (l.map fun g => g.t.size).sum ≤ 4000) (hm : ∀ g ∈ l, g.t.size ≤ 4000) (hn : ∀ g ∈ l, g.n < 18446744073709551616) : Prn l :=
  ⟨fun g hg => by have := hm g hg; omega, hn, by
    have := joined_len l (fun g hg => by have := hn g hg; omega)
    omega⟩
/-- How Print of few, short words ends. -/
theorem print_small {l : List Gw} (h : l.length ≤ 200) (hs : (l.map fun g => g.t.size).sum ≤ 4000) (hn : ∀ g ∈ l, g.n < 18446744073709551616) :
    ((∀ g ∈ l, g.may = true) ∧ printL l = (joinL (l.map Gw.tell), 0) ∧ (joinL (l.map Gw.tell)).length ≤ 28200) ∨ printL l = ([], 2) := by
  cases ha : l.any (fun g => !g.may) with
  | true => right; unfold printL; rw [if_pos ha]
  | false =>
    left
    have hm := any_may ha
    have hj := joined_len l (fun g hg => by have := hn g hg; omega)
    have hl := join_len (l.map Gw.tell)
    exact ⟨hm, printL_ok hm (by omega), by omega⟩
/-- A text's words are those of their telling, and what Print asks of them. -/
theorem back_read {t : List UInt8} (ht : t.length ≤ 4000) (hn : (scan t 0).2 = none) : ∃ T again, printL ((scan t 0).1.map gwOf) = (T, 0) ∧ T.length ≤ 84000 ∧ scan T 0 = (again, none) ∧ sameL ((scan t 0).1.map gwOf) (again.map gwOf) = true ∧ printL (again.map gwOf) = (T, 0) ∧ Prn ((scan t 0).1.map gwOf) ∧ Prn (again.map gwOf) ∧ (scan t 0).1.length ≤ 4000 ∧ again.length ≤ 4000 := by
  obtain ⟨h1, h2, h3⟩ := scan_may t.length t 0 (Nat.le_refl _)
  obtain ⟨l, hl⟩ : ∃ l, (scan t 0).1 = l := ⟨_, rfl⟩
  rw [hl] at h1 h2 h3 ⊢
  have hm : ∀ w ∈ l.map (·.1), w.may = true := by
    intro w hw
    obtain ⟨p, hp, rfl⟩ := List.mem_map.1 hw
    exact (h1 p hp).1
  obtain ⟨k, hk, hkm⟩ := scan_print hm
  have e : ((l.map (·.1)).map Wd.tell).map (fun x => x.length + 1) = l.map fun p => p.1.tell.length + 1 := by
    rw [List.map_map, List.map_map]; rfl
  have hs : (((l.map (·.1)).map Wd.tell).map (fun x => x.length + 1)).sum ≤ 84000 := by rw [e]; omega
  have hlen : (joinL ((l.map (·.1)).map Wd.tell)).length ≤ 84000 := Nat.le_trans (join_len _) hs
  have hg : ∀ (k : List (Wd × Nat)), (∀ w ∈ k.map (·.1), w.may = true) → ∀ g ∈ k.map gwOf, g.may = true := by
    intro k hk g hg
    obtain ⟨p, hp, rfl⟩ := List.mem_map.1 hg
    exact hk p.1 (List.mem_map.2 ⟨p, hp, rfl⟩)
  refine ⟨joinL ((l.map (·.1)).map Wd.tell), k, ?_, hlen, hk, sameL_read hkm, ?_, ?_, ?_, ?_, ?_⟩
  · rw [printL_ok (hg l hm) (by rw [tells_read]; omega), tells_read]
  · rw [printL_ok (hg k (by rw [hkm]; exact hm)) (by rw [tells_read, hkm]; omega), tells_read, hkm]
  · exact prn_may (hg l hm) (by rw [tells_read]; omega)
  · exact prn_may (hg k (by rw [hkm]; exact hm)) (by rw [tells_read, hkm]; omega)
  · omega
  · have := congrArg List.length hkm
    simp at this; omega
end Go.Proofs.YtimhhacfjgbomaaGreatDoor
