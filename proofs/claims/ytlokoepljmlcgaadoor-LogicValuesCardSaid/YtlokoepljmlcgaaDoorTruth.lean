/-
  THE WALKS of the layer's truths: And, Or, Not, Xor.
-/
import Derived.Test.YtlokoepljmlcgaaDoorRows
import Derived.Test.YtlokoepljmlcgaaDoorLib
namespace Go.Proofs.YtlokoepljmlcgaaDoor
set_option linter.unusedSimpArgs false
set_option linter.unusedVariables false
open Go.RowKit

/-- A truth's place: 0, 1 or 2. -/
def pl (t : Int) : Int := if t < 0 ∨ 2 < t then 1 else t
theorem pl_cases (t : Int) : pl t = 0 ∨ pl t = 1 ∨ pl t = 2 := by unfold pl; split <;> omega

theorem place_any (t : Int) (w : World) :
    Calls Tryd.prog 31 #[.int .i64 t] w fun e w' => e = .returned (.int .i64 (pl t)) ∧ w = w' := by
  unfold pl
  by_cases h0 : t < 0
  · go_enter Tryd.func31, Tryd.ntmps31
    go_wp2
    go_ret
    exact ⟨by simp [h0], rfl⟩
  · by_cases h2 : 2 < t
    · go_enter Tryd.func31, Tryd.ntmps31
      go_wp2
      go_ret
      exact ⟨by simp [h2], rfl⟩
    · go_enter Tryd.func31, Tryd.ntmps31
      go_wp2
      go_ret
      exact ⟨by simp [h0, h2], rfl⟩

def mn (a b : Int) : Int := if b < a then b else a
def mx (a b : Int) : Int := if a < b then b else a
def andL (zs : List Int) : Int := zs.foldl (fun o t => mn o (pl t)) 2
def orL (zs : List Int) : Int := zs.foldl (fun o t => mx o (pl t)) 0
theorem andL_snoc (zs : List Int) (t : Int) : andL (zs ++ [t]) = mn (andL zs) (pl t) := by simp [andL]
theorem orL_snoc (zs : List Int) (t : Int) : orL (zs ++ [t]) = mx (orL zs) (pl t) := by simp [orL]

theorem and_any (a : Option Addr) (n cap : Nat) (zs : List Int) (w : World) (hn : Hid (n = zs.length)) (hr : RowAt w a .i64 zs) (hm : n ≤ 9223372036854775807) :
    Calls Tryd.prog 7 #[.slice a n cap] w fun e w' => e = .returned (.int .i64 (andL zs)) ∧ w = w' := by
  have HR := Lib.hid hr; clear hr
  go_enter Tryd.func7, Tryd.ntmps7
  go_wp2
  go_loop [3, 8] (fun t i => ∃ k : Nat, k ≤ n ∧ i = .int .i64 k ∧ t = .int .i64 (andL (zs.take k))) (fun _ i => n - (intOf i).toNat)
  case atStart => exact ⟨0, Nat.zero_le _, rfl, rfl⟩
  case round =>
    obtain ⟨k, hk, rfl, rfl⟩ := hrel
    by_cases hlt : k < n
    · rcases HR.out with h0 | ⟨b, o, rfl, hc⟩
      · have := hn.out; subst h0; simp at this; omega
      have hck := hc k (by have := hn.out; omega)
      have HS : Hid (andL (zs.take (k + 1)) = mn (andL (zs.take k)) (pl (zs.getD k 0))) := by rw [take_succ_getD 0 zs k (by have := hn.out; omega), andL_snoc]; rfl
      clear hc
      unfold mn at HS
      generalize hz : zs.getD k 0 = z at *
      generalize ha : andL (zs.take k) = A at *
      clear hz ha
      go_wp2_with (go_at_call 31; refine (place_any _ _).mono ?_; rintro e w' ⟨rfl, rfl⟩)
      go_round
      case rel => exact ⟨k + 1, by omega, by go_num, by rw [HS.out]⟩
      case measure => simp [intOf]; omega
    · go_wp2
      go_ret
      exact ⟨ret1 (by rw [List.take_of_length_le (by have := hn.out; omega)]), rfl⟩

theorem or_any (a : Option Addr) (n cap : Nat) (zs : List Int) (w : World) (hn : Hid (n = zs.length)) (hr : RowAt w a .i64 zs) (hm : n ≤ 9223372036854775807) :
    Calls Tryd.prog 8 #[.slice a n cap] w fun e w' => e = .returned (.int .i64 (orL zs)) ∧ w = w' := by
  have HR := Lib.hid hr; clear hr
  go_enter Tryd.func8, Tryd.ntmps8
  go_wp2
  go_loop [3, 8] (fun t i => ∃ k : Nat, k ≤ n ∧ i = .int .i64 k ∧ t = .int .i64 (orL (zs.take k))) (fun _ i => n - (intOf i).toNat)
  case atStart => exact ⟨0, Nat.zero_le _, rfl, rfl⟩
  case round =>
    obtain ⟨k, hk, rfl, rfl⟩ := hrel
    by_cases hlt : k < n
    · rcases HR.out with h0 | ⟨b, o, rfl, hc⟩
      · have := hn.out; subst h0; simp at this; omega
      have hck := hc k (by have := hn.out; omega)
      have HS : Hid (orL (zs.take (k + 1)) = mx (orL (zs.take k)) (pl (zs.getD k 0))) := by rw [take_succ_getD 0 zs k (by have := hn.out; omega), orL_snoc]; rfl
      clear hc
      unfold mx at HS
      generalize hz : zs.getD k 0 = z at *
      generalize ha : orL (zs.take k) = A at *
      clear hz ha
      go_wp2_with (go_at_call 31; refine (place_any _ _).mono ?_; rintro e w' ⟨rfl, rfl⟩)
      go_round
      case rel => exact ⟨k + 1, by omega, by go_num, by rw [HS.out]⟩
      case measure => simp [intOf]; omega
    · go_wp2
      go_ret
      exact ⟨ret1 (by rw [List.take_of_length_le (by have := hn.out; omega)]), rfl⟩

theorem not_any (t : Int) (w : World) :
    Calls Tryd.prog 15 #[.int .i64 t] w fun e w' => e = .returned (.int .i64 (2 - pl t)) ∧ w = w' := by
  have i0 : ∀ w, (Instr.index 58 (.agg #[.int .i64 2, .int .i64 1, .int .i64 0]) (.int .i64 0)).run Tryd.prog w = .ok (.int .i64 2) w := fun _ => by kernel_rfl
  have i1 : ∀ w, (Instr.index 58 (.agg #[.int .i64 2, .int .i64 1, .int .i64 0]) (.int .i64 1)).run Tryd.prog w = .ok (.int .i64 1) w := fun _ => by kernel_rfl
  have i2 : ∀ w, (Instr.index 58 (.agg #[.int .i64 2, .int .i64 1, .int .i64 0]) (.int .i64 2)).run Tryd.prog w = .ok (.int .i64 0) w := fun _ => by kernel_rfl
  rcases pl_cases t with h | h | h
  all_goals
    go_enter Tryd.func15, Tryd.ntmps15
    go_wp2_with (go_at_call 31; refine (place_any _ _).mono ?_; rintro e w' ⟨rfl, rfl⟩)
    go_ret
    exact ⟨ret1 (by rw [h]; rfl), rfl⟩

/-- Just one of both, by their places. -/
def xorT (a b : Int) : Int := if pl a = 1 ∨ pl b = 1 then 1 else if pl a = pl b then 0 else 2

set_option maxHeartbeats 2000000 in
theorem xor_any (a b : Int) (w : World) :
    Calls Tryd.prog 13 #[.int .i64 a, .int .i64 b] w fun e w' => e = .returned (.int .i64 (xorT a b)) ∧ Below w.heap.size w w' := by
  unfold xorT
  rcases pl_cases a with h | h | h <;> rcases pl_cases b with h' | h' | h' <;>
  · go_enter Tryd.func13, Tryd.ntmps13
    go_wp2_with fail
    go_quiet ((go_at_call 31; exact Calls.quiet_of_same ((place_any _ _).mono fun _ _ h => ⟨h.1, h.2.symm⟩)))
    go_wp2
    go_ret
    exact ⟨ret1 (by simp [h, h']), bdrewN (ballocR _ _) _⟩
end Go.Proofs.YtlokoepljmlcgaaDoor
