/-
  WALKS: orders of numbers; values without texts, keys, lists: equal, Equal; In.
-/
import Derived.Test.YtlokoepljmlcgaaDoorGood
import Derived.Deep.RegionHeld3
namespace Go.Proofs.YtlokoepljmlcgaaDoor
set_option linter.unusedSimpArgs false
set_option linter.unusedVariables false
open Go.RowKit Go.Shelf

theorem truth_any (b : Bool) (w : World) : Calls Tryd.prog 63 #[.bool b] w fun e w' => e = .returned (.int .i64 (if b then 2 else 0)) ∧ w = w' := by
  cases b <;>
  · go_enter Tryd.func63, Tryd.ntmps63
    go_wp2
    go_ret
    exact ⟨rfl, rfl⟩
theorem nan_any (x : Int) (w : World) : Calls Tryd.prog 78 #[.int .i64 x] w fun e w' => e = .returned (.bool false) ∧ w = w' := by
  go_enter Tryd.func78, Tryd.ntmps78
  go_wp2
  go_ret
  exact ⟨retB (by simp), rfl⟩
theorem nan64_any (x : Int) (w : World) : Calls Tryd.prog 82 #[.int .i64 x] w fun e w' => e = .returned (.bool false) ∧ w = w' := by
  go_enter Tryd.func82, Tryd.ntmps82
  go_wp2
  go_ret
  exact ⟨retB (by simp), rfl⟩
def cmpI (x y : Int) : Int := if x < y then -1 else if y < x then 1 else 0
theorem cmp_any (x y : Int) (w : World) : Calls Tryd.prog 69 #[.int .i64 x, .int .i64 y] w fun e w' => e = .returned (.int .i64 (cmpI x y)) ∧ w = w' := by
  unfold cmpI
  by_cases h : x < y
  · rw [if_pos h]
    go_enter Tryd.func69, Tryd.ntmps69
    go_wp2_with (go_at_call 78; refine (nan_any _ _).mono ?_; rintro e w' ⟨rfl, rfl⟩)
    go_ret
    exact ⟨rfl, rfl⟩
  · rw [if_neg h]
    by_cases h' : y < x
    · rw [if_pos h']
      go_enter Tryd.func69, Tryd.ntmps69
      go_wp2_with (go_at_call 78; refine (nan_any _ _).mono ?_; rintro e w' ⟨rfl, rfl⟩)
      go_ret
      exact ⟨rfl, rfl⟩
    · rw [if_neg h']
      go_enter Tryd.func69, Tryd.ntmps69
      go_wp2_with (go_at_call 78; refine (nan_any _ _).mono ?_; rintro e w' ⟨rfl, rfl⟩)
      go_ret
      exact ⟨rfl, rfl⟩
theorem cmp64_any (x y : Int) (w : World) : Calls Tryd.prog 76 #[.int .i64 x, .int .i64 y] w fun e w' => e = .returned (.int .i64 (cmpI x y)) ∧ w = w' := by
  unfold cmpI
  by_cases h : x < y
  · rw [if_pos h]
    go_enter Tryd.func76, Tryd.ntmps76
    go_wp2_with (go_at_call 82; refine (nan64_any _ _).mono ?_; rintro e w' ⟨rfl, rfl⟩)
    go_ret
    exact ⟨rfl, rfl⟩
  · rw [if_neg h]
    by_cases h' : y < x
    · rw [if_pos h']
      go_enter Tryd.func76, Tryd.ntmps76
      go_wp2_with (go_at_call 82; refine (nan64_any _ _).mono ?_; rintro e w' ⟨rfl, rfl⟩)
      go_ret
      exact ⟨rfl, rfl⟩
    · rw [if_neg h']
      go_enter Tryd.func76, Tryd.ntmps76
      go_wp2_with (go_at_call 82; refine (nan64_any _ _).mono ?_; rintro e w' ⟨rfl, rfl⟩)
      go_ret
      exact ⟨rfl, rfl⟩
def rankV (k : Int) : Int := if k = 0 then 7 else if k = 2 then 6 else if k = 1 then 5 else if k = 3 then 4 else if k = 4 then 3 else if k = 7 then 2 else if k = 6 then 1 else 0
theorem rank_any (k : Int) (w : World) : Calls Tryd.prog 70 #[.int .i64 k] w fun e w' => e = .returned (.int .i64 (rankV k)) ∧ w = w' := by
  have hcase : k = 0 ∨ k = 2 ∨ k = 1 ∨ k = 3 ∨ k = 4 ∨ k = 7 ∨ k = 6 ∨ (k ≠ 0 ∧ k ≠ 2 ∧ k ≠ 1 ∧ k ≠ 3 ∧ k ≠ 4 ∧ k ≠ 7 ∧ k ≠ 6) := by omega
  rcases hcase with rfl | rfl | rfl | rfl | rfl | rfl | rfl | ⟨h0, h2, h1, h3, h4, h7, h6⟩
  all_goals
    go_enter Tryd.func70, Tryd.ntmps70
    go_wp2
    go_ret
    exact ⟨ret1 (by simp [rankV, *]), rfl⟩

/-- The first that is not nought. -/
def orI : List Int → Int
  | [] => 0
  | z :: r => if z = 0 then orI r else z
theorem orI_at : ∀ (zs : List Int) (k : Nat), (∀ j, j < k → zs.getD j 0 = 0) → k < zs.length → zs.getD k 0 ≠ 0 → orI zs = zs.getD k 0
  | [], k, _, h, _ => absurd h (Nat.not_lt_zero k)
  | z :: r, 0, _, _, h => by simp at h; simp [orI, h]
  | z :: r, k + 1, h0, hk, h => by
    have hz : z = 0 := by simpa using h0 0 (by omega)
    have := orI_at r k (fun j hj => by simpa using h0 (j + 1) (by omega)) (by simpa using hk) (by simpa using h)
    simp [orI, hz, this]
theorem orI_none : ∀ (zs : List Int), (∀ j, j < zs.length → zs.getD j 0 = 0) → orI zs = 0
  | [], _ => rfl
  | z :: r, h0 => by
    have hz : z = 0 := by simpa using h0 0 (by simp)
    have := orI_none r (fun j hj => by simpa using h0 (j + 1) (by simp; omega))
    simp [orI, hz, this]
theorem cor_any (a : Option Addr) (n cap : Nat) (zs : List Int) (w : World) (hn : Hid (n = zs.length)) (hr : RowAt w a .i64 zs) (hm : n ≤ 1099511627776) :
    Calls Tryd.prog 73 #[.slice a n cap] w fun e w' => e = .returned (.int .i64 (orI zs)) ∧ w = w' := by
  have HR := Lib.hid hr; clear hr
  go_enter Tryd.func73, Tryd.ntmps73
  go_wp2
  go_loop [8] (fun i => ∃ k : Nat, k ≤ n ∧ i = .int .i64 k ∧ ∀ j, j < k → zs.getD j 0 = 0) (fun i => n - (intOf i).toNat)
  case atStart => exact ⟨0, Nat.zero_le _, rfl, fun j hj => absurd hj (Nat.not_lt_zero j)⟩
  case round =>
    obtain ⟨k, hk, rfl, hz⟩ := hrel
    have HZ := Lib.hid hz; clear hz
    by_cases hlt : k < n
    · rcases HR.out with h0 | ⟨b, o, rfl, hc⟩
      · have := hn.out; subst h0; simp at this; omega
      have hck := hc k (by have := hn.out; omega)
      have H0 := Lib.hid (orI_at zs k HZ.out (by have := hn.out; omega))
      have H1 : Hid (zs.getD k 0 = 0 → ∀ j, j < k + 1 → zs.getD j 0 = 0) := fun h j hj => by
        rcases Nat.lt_or_ge j k with h' | h'
        · exact HZ.out j h'
        · obtain rfl : j = k := by omega
          exact h
      clear hc
      obtain ⟨z, hgz⟩ : ∃ z, zs.getD k 0 = z := ⟨_, rfl⟩
      rw [hgz] at hck H0 H1
      by_cases hz : z = 0
      · subst hz
        clear hgz
        go_wp2
        go_round
        case rel => exact ⟨k + 1, by omega, by go_num, H1.out rfl⟩
        case measure => simp [intOf]; omega
      · have e1 : (z != 0) = true := by simpa using hz
        have HG := Lib.hid hgz
        clear hgz
        go_wp2
        go_ret
        exact ⟨ret1 (by have := H0.out hz; rw [this]), rfl⟩
    · have hkn : k = n := by omega
      subst hkn
      go_wp2
      go_ret
      exact ⟨ret1 (orI_none zs (by rw [← hn.out]; exact HZ.out)).symm, rfl⟩

set_option maxRecDepth 100000 in
theorem cmpV_nil (a a' : Option Addr) (c c' : Nat) (f : Value) (w : World) : Calls Tryd.prog 81 #[.slice a 0 c, .slice a' 0 c', f] w fun e w' => e = .returned (.int .i64 0) ∧ w = w' := by
  go_enter Tryd.func81, Tryd.ntmps81
  go_wp2
  go_loop [13] (fun i => i = .int .i64 0) (fun _ => 0)
  case atStart => rfl
  case round =>
    subst hrel
    go_wp2
    go_ret
    exact ⟨rfl, rfl⟩
set_option maxRecDepth 100000 in
theorem cmpS_nil (a a' : Option Addr) (c c' : Nat) (f : Value) (w : World) : Calls Tryd.prog 80 #[.slice a 0 c, .slice a' 0 c', f] w fun e w' => e = .returned (.int .i64 0) ∧ w = w' := by
  go_enter Tryd.func80, Tryd.ntmps80
  go_wp2
  go_loop [13] (fun i => i = .int .i64 0) (fun _ => 0)
  case atStart => rfl
  case round =>
    subst hrel
    go_wp2
    go_ret
    exact ⟨rfl, rfl⟩
theorem listsV_nil (a a' : Option Addr) (c c' : Nat) (f : Value) (w : World) : Calls Tryd.prog 75 #[.slice a 0 c, .slice a' 0 c', f] w fun e w' => e = .returned (.int .i64 0) ∧ w = w' := by
  go_enter Tryd.func75, Tryd.ntmps75
  go_wp2_with (go_at_call 81; refine (cmpV_nil _ _ _ _ _ _).mono ?_; rintro e w' ⟨rfl, rfl⟩)
  go_ret
  exact ⟨rfl, rfl⟩
theorem listsS_nil (a a' : Option Addr) (c c' : Nat) (f : Value) (w : World) : Calls Tryd.prog 74 #[.slice a 0 c, .slice a' 0 c', f] w fun e w' => e = .returned (.int .i64 0) ∧ w = w' := by
  go_enter Tryd.func74, Tryd.ntmps74
  go_wp2_with (go_at_call 80; refine (cmpS_nil _ _ _ _ _ _).mono ?_; rintro e w' ⟨rfl, rfl⟩)
  go_ret
  exact ⟨rfl, rfl⟩
end Go.Proofs.YtlokoepljmlcgaaDoor
