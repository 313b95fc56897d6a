/-
  WALKS: values without lists (Null, Bool), a truth's value, the document's answers for truths.
-/
import Derived.Test.YtlokoepljmlcgaaDoorCheck
import Derived.Test.YtlokoepljmlcgaaDoorWorks
namespace Go.Proofs.YtlokoepljmlcgaaDoor
set_option linter.unusedSimpArgs false
set_option linter.unusedVariables false
open Go.RowKit Go.Shelf

/-- A value without text, keys, list. -/
def sc (k : Int) (b : Bool) (n : Int) : Nd := ⟨k, b, n, ⟨#[]⟩, none, 0, 0, none, 0, 0, []⟩
/-- A truth's value. -/
def tv (t : Int) : Nd := if pl t = 1 then sc 0 false 0 else sc 1 (t == 2) 0

set_option maxRecDepth 100000 in
theorem null_any (w : World) : Calls Tryd.prog 32 #[] w fun e w' => e = .returned (sc 0 false 0).val ∧ Below w.heap.size w w' := by
  simp only [sc, Nd.val]
  go_enter Tryd.func32, Tryd.ntmps32
  go_wp2
  have c := cells_new (sc 0 false 0) w
  have hb := ballocR w (.cells #[.int .i64 0, .bool false, .int .i64 0, .string ⟨#[]⟩, .slice none 0 0, .slice none 0 0] 30)
  simp only [sc, Nat.zero_add] at c
  generalize w.alloc (.cells #[.int .i64 0, .bool false, .int .i64 0, .string ⟨#[]⟩, .slice none 0 0, .slice none 0 0] 30) = V at c hb ⊢
  obtain ⟨c0, c1, c2, c3, c4, c5⟩ := c
  simp only [Nat.zero_add] at c0 c1 c2 c3 c4 c5
  exact bodyPost_ret (v := .agg #[.int .i64 0, .bool false, .int .i64 0, .string ⟨#[]⟩, .slice none 0 0, .slice none 0 0]) (by simp [results, Tryd.results32, go_sem, c0, c1, c2, c3, c4, c5]) rfl ⟨rfl, hb⟩
set_option maxRecDepth 100000 in
theorem boolv_any (b : Bool) (w : World) : Calls Tryd.prog 33 #[.bool b] w fun e w' => e = .returned (sc 1 b 0).val ∧ Below w.heap.size w w' := by
  simp only [sc, Nd.val]
  go_enter Tryd.func33, Tryd.ntmps33
  go_wp2
  have c := cells_new (sc 1 b 0) w
  have hb := ballocR w (.cells #[.int .i64 1, .bool b, .int .i64 0, .string ⟨#[]⟩, .slice none 0 0, .slice none 0 0] 30)
  simp only [sc, Nat.zero_add] at c
  generalize w.alloc (.cells #[.int .i64 1, .bool b, .int .i64 0, .string ⟨#[]⟩, .slice none 0 0, .slice none 0 0] 30) = V at c hb ⊢
  obtain ⟨c0, c1, c2, c3, c4, c5⟩ := c
  simp only [Nat.zero_add] at c0 c1 c2 c3 c4 c5
  exact bodyPost_ret (v := .agg #[.int .i64 1, .bool b, .int .i64 0, .string ⟨#[]⟩, .slice none 0 0, .slice none 0 0]) (by simp [results, Tryd.results33, go_sem, c0, c1, c2, c3, c4, c5]) rfl ⟨rfl, hb⟩
theorem known_any (t : Int) (w : World) : Calls Tryd.prog 35 #[.int .i64 t] w fun e w' => e = .returned (.int .i64 (pl t)) ∧ w = w' := by
  by_cases h0 : t = 0
  · subst h0
    go_enter Tryd.func35, Tryd.ntmps35
    go_wp2
    go_ret
    exact ⟨rfl, rfl⟩
  · by_cases h2 : t = 2
    · subst h2
      go_enter Tryd.func35, Tryd.ntmps35
      go_wp2
      go_ret
      exact ⟨rfl, rfl⟩
    · have e0 : (t == 0) = false := by simpa using h0
      have e2 : (t == 2) = false := by simpa using h2
      go_enter Tryd.func35, Tryd.ntmps35
      go_wp2
      go_ret
      exact ⟨ret1 (by unfold pl; split <;> omega), rfl⟩
theorem holds_any (t : Int) (w : World) : Calls Tryd.prog 19 #[.int .i64 t] w fun e w' => e = .returned (.bool (t == 2)) ∧ w = w' := by
  go_enter Tryd.func19, Tryd.ntmps19
  go_wp2
  go_ret
  exact ⟨rfl, rfl⟩
theorem rnot_any (t : Int) (w : World) : Calls Tryd.prog 16 #[.int .i64 t] w fun e w' => e = .returned (.int .i64 (2 - pl t)) ∧ w = w' := by
  have HK := Lib.hid (known_any t w)
  rcases pl_cases t with h | h | h
  all_goals
    rw [h] at HK ⊢
    go_enter Tryd.func16, Tryd.ntmps16
    go_wp2_with (go_at_call 35; refine HK.out.mono ?_; rintro e w' ⟨rfl, rfl⟩)
    go_ret
    exact ⟨rfl, rfl⟩
theorem rxor_any (a b : Int) (w : World) : Calls Tryd.prog 14 #[.int .i64 a, .int .i64 b] w fun e w' => e = .returned (.int .i64 (xorT a b)) ∧ Below w.heap.size w w' := by
  unfold xorT
  rcases pl_cases a with h | h | h <;> rcases pl_cases b with h' | h' | h' <;>
  · go_enter Tryd.func14, Tryd.ntmps14
    go_wp2_with (go_at_call 35; refine (known_any _ _).mono ?_; rintro e w' ⟨rfl, rfl⟩)
    go_ret
    exact ⟨ret1 (by simp [h, h']), Below.refl _ _⟩

/-- The loop over truths: what it has found. -/
theorem andL_step (zs : List Int) (k : Nat) (hk : k < zs.length) : andL (zs.take (k + 1)) = mn (andL (zs.take k)) (pl (zs.getD k 0)) := by rw [take_succ_getD 0 zs k hk, andL_snoc]
theorem orL_step (zs : List Int) (k : Nat) (hk : k < zs.length) : orL (zs.take (k + 1)) = mx (orL (zs.take k)) (pl (zs.getD k 0)) := by rw [take_succ_getD 0 zs k hk, orL_snoc]
theorem andL_low : ∀ (zs : List Int) (a : Int), a = 0 → zs.foldl (fun o t => mn o (pl t)) a = 0
  | [], a, h => h
  | z :: zs, a, h => andL_low zs _ (by subst h; rcases pl_cases z with e | e | e <;> simp [mn, e])
theorem orL_high : ∀ (zs : List Int) (a : Int), a = 2 → zs.foldl (fun o t => mx o (pl t)) a = 2
  | [], a, h => h
  | z :: zs, a, h => orL_high zs _ (by subst h; rcases pl_cases z with e | e | e <;> simp [mx, e])
theorem andL_zero (zs : List Int) (k : Nat) (h : andL (zs.take k) = 0) : andL zs = 0 := by
  have e : andL zs = (zs.drop k).foldl (fun o t => mn o (pl t)) (andL (zs.take k)) := by unfold andL; rw [← List.foldl_append, List.take_append_drop]
  rw [e]; exact andL_low _ _ h
theorem orL_two (zs : List Int) (k : Nat) (h : orL (zs.take k) = 2) : orL zs = 2 := by
  have e : orL zs = (zs.drop k).foldl (fun o t => mx o (pl t)) (orL (zs.take k)) := by unfold orL; rw [← List.foldl_append, List.take_append_drop]
  rw [e]; exact orL_high _ _ h

theorem rand_any (a : Option Addr) (n cap : Nat) (zs : List Int) (w : World) (hn : Hid (n = zs.length)) (hr : RowAt w a .i64 zs) (hm : n ≤ 1099511627776) :
    Calls Tryd.prog 11 #[.slice a n cap] w fun e w' => e = .returned (.int .i64 (andL zs)) ∧ w = w' := by
  have HR := Lib.hid hr; clear hr
  go_enter Tryd.func11, Tryd.ntmps11
  go_wp2
  go_loop [3, 4] (fun t i => ∃ k : Nat, k ≤ n ∧ i = .int .i64 k ∧ t = .bool (andL (zs.take k) == 1) ∧ (andL (zs.take k) = 1 ∨ andL (zs.take k) = 2)) (fun _ i => n - (intOf i).toNat)
  case atStart => exact ⟨0, Nat.zero_le _, rfl, rfl, .inr rfl⟩
  case round =>
    obtain ⟨k, hk, rfl, rfl, hz⟩ := hrel
    have HZ := Lib.hid hz; clear hz
    by_cases hlt : k < n
    · rcases HR.out with h0 | ⟨b, o, rfl, hc⟩
      · have := hn.out; subst h0; simp at this; omega
      have hck := hc k (by have := hn.out; omega)
      have HS := Lib.hid (andL_step zs k (by have := hn.out; omega))
      have H0 := Lib.hid (andL_zero zs (k + 1))
      clear hc
      have HZ' := HZ.out
      clear HZ
      generalize hgz : zs.getD k 0 = z at *
      generalize hA : andL (zs.take k) = A at *
      generalize hA1 : andL (zs.take (k + 1)) = A1 at *
      clear hgz
      have HA1 := Lib.hid hA1
      clear hA hA1
      rcases HZ' with rfl | rfl <;> rcases pl_cases z with h | h | h
      all_goals
        rw [h] at HS
        have HS2 := HS.out
        simp only [mn] at HS2
        simp at HS2
        subst HS2
        go_wp2_with (go_at_call 35; refine (known_any _ _).mono ?_; rintro e w' ⟨rfl, rfl⟩)
        first
        | (go_ret; refine ⟨ret1 ?_, rfl⟩; exact (H0.out (by simp)).symm)
        | (go_round
           case rel => exact ⟨k + 1, by omega, by go_num, by rw [HA1.out]; rfl, by rw [HA1.out]; simp⟩
           case measure => simp [intOf]; omega)
    · have hkn : k = n := by omega
      subst hkn
      rw [List.take_of_length_le (by have := hn.out; omega)] at HZ ⊢
      have HZ' := HZ.out
      clear HZ
      obtain ⟨A, hA⟩ : ∃ A, andL zs = A := ⟨_, rfl⟩
      rw [hA] at HZ' ⊢
      have HA := Lib.hid hA
      clear hA
      rcases HZ' with rfl | rfl
      all_goals
        go_wp2
        go_ret
        exact ⟨ret1 HA.out.symm, rfl⟩
theorem ror_any (a : Option Addr) (n cap : Nat) (zs : List Int) (w : World) (hn : Hid (n = zs.length)) (hr : RowAt w a .i64 zs) (hm : n ≤ 1099511627776) :
    Calls Tryd.prog 12 #[.slice a n cap] w fun e w' => e = .returned (.int .i64 (orL zs)) ∧ w = w' := by
  have HR := Lib.hid hr; clear hr
  go_enter Tryd.func12, Tryd.ntmps12
  go_wp2
  go_loop [3, 4] (fun t i => ∃ k : Nat, k ≤ n ∧ i = .int .i64 k ∧ t = .bool (orL (zs.take k) == 1) ∧ (orL (zs.take k) = 1 ∨ orL (zs.take k) = 0)) (fun _ i => n - (intOf i).toNat)
  case atStart => exact ⟨0, Nat.zero_le _, rfl, rfl, .inr rfl⟩
  case round =>
    obtain ⟨k, hk, rfl, rfl, hz⟩ := hrel
    have HZ := Lib.hid hz; clear hz
    by_cases hlt : k < n
    · rcases HR.out with h0 | ⟨b, o, rfl, hc⟩
      · have := hn.out; subst h0; simp at this; omega
      have hck := hc k (by have := hn.out; omega)
      have HS := Lib.hid (orL_step zs k (by have := hn.out; omega))
      have H0 := Lib.hid (orL_two zs (k + 1))
      clear hc
      have HZ' := HZ.out
      clear HZ
      generalize hgz : zs.getD k 0 = z at *
      generalize hA : orL (zs.take k) = A at *
      generalize hA1 : orL (zs.take (k + 1)) = A1 at *
      clear hgz
      have HA1 := Lib.hid hA1
      clear hA hA1
      rcases HZ' with rfl | rfl <;> rcases pl_cases z with h | h | h
      all_goals
        rw [h] at HS
        have HS2 := HS.out
        simp only [mx] at HS2
        simp at HS2
        subst HS2
        go_wp2_with (go_at_call 35; refine (known_any _ _).mono ?_; rintro e w' ⟨rfl, rfl⟩)
        first
        | (go_ret; refine ⟨ret1 ?_, rfl⟩; exact (H0.out (by simp)).symm)
        | (go_round
           case rel => exact ⟨k + 1, by omega, by go_num, by rw [HA1.out]; rfl, by rw [HA1.out]; simp⟩
           case measure => simp [intOf]; omega)
    · have hkn : k = n := by omega
      subst hkn
      rw [List.take_of_length_le (by have := hn.out; omega)] at HZ ⊢
      have HZ' := HZ.out
      clear HZ
      obtain ⟨A, hA⟩ : ∃ A, orL zs = A := ⟨_, rfl⟩
      rw [hA] at HZ' ⊢
      have HA := Lib.hid hA
      clear hA
      rcases HZ' with rfl | rfl
      all_goals
        go_wp2
        go_ret
        exact ⟨ret1 HA.out.symm, rfl⟩
end Go.Proofs.YtlokoepljmlcgaaDoor
