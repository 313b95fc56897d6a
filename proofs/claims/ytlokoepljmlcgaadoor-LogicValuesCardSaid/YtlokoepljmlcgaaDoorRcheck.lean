/-
  THE WALK of the document's Check: it answers as the program's.
-/
import Derived.Test.YtlokoepljmlcgaaDoorRsize
namespace Go.Proofs.YtlokoepljmlcgaaDoor
set_option linter.unusedSimpArgs false
set_option linter.unusedVariables false
open Go.RowKit Go.Shelf

theorem rsize_any (x : Nd) (c : Fo) (n₀ : Nat) (W : World) (h : Good n₀ W x c) (hn : n₀ ≤ W.heap.size) : Calls Tryd.prog 38 #[x.val] W fun e w' => e = .returned (szV x c) ∧ Below W.heap.size W w' := Nd.ind rsize_step x c n₀ W h hn
theorem check_sz (x : Nd) (c : Fo) : checkV x c = if mayA x c then (if decide (64 < szD (Nd.pre 1 x c)) || decide (1048576 < bytesL (Nd.pre 1 x c)) || decide (65536 < szL (Nd.pre 1 x c)) then 3 else 0) else 110 := by
  rw [← over_sz]; rfl

set_option maxRecDepth 100000 in
set_option maxHeartbeats 4000000 in
theorem rcheck_any {n₀ : Nat} {x : Nd} {c : Fo} {W : World} (h : Good n₀ W x c) (hn : n₀ ≤ W.heap.size) :
    Calls Tryd.prog 26 #[x.val] W fun e w' => e = .returned (.int .i64 (checkV x c)) ∧ Below W.heap.size W w' := by
  have hall := fun e he => ((h.in_.all h.keys 1) e he).2
  have HSZ := Lib.hid (sz_bd h.sized hall)
  have HM : Hid (∀ w, RM W x w → Calls Tryd.prog 37 #[x.val] w fun e w' => e = .returned (.bool (mayA x c)) ∧ RM W x w') := fun w hr => (rmay_any x c n₀ w (h.below hn hr.bl) (Nat.le_trans hn hr.bl.size)).mono fun e w' h' => ⟨h'.1, hr.next h'.2⟩
  have HS : Hid (∀ w, RM W x w → Calls Tryd.prog 38 #[x.val] w fun e w' => e = .returned (szV x c) ∧ RM W x w') := fun w hr => (rsize_any x c n₀ w (h.below hn hr.bl) (Nat.le_trans hn hr.bl.size)).mono fun e w' h' => ⟨h'.1, hr.next h'.2⟩
  have HR := Lib.hid (RM.new W x)
  have HC := Lib.hid (check_sz x c)
  clear h hall
  unfold szV at HS
  generalize szN (Nd.pre 1 x c) = N at *
  generalize szD (Nd.pre 1 x c) = D at *
  generalize bytesL (Nd.pre 1 x c) = B at *
  generalize szL (Nd.pre 1 x c) = L at *
  generalize checkV x c = V at *
  obtain ⟨k, b, n, t, ka, kl, kc, la, ll, lc, ks⟩ := x
  simp only [Nd.val] at *
  cases hm : mayA ⟨k, b, n, t, ka, kl, kc, la, ll, lc, ks⟩ c with
  | false =>
    rw [hm] at HM HC
    go_enter Tryd.func26, Tryd.ntmps26
    go_wp2_with (first
      | (go_at_call 37; refine (HM.out _ HR.out).mono ?_; rintro e w1 ⟨rfl, M⟩))
    go_ret
    exact ⟨ret1 (by rw [HC.out]; simp), M.bl⟩
  | true =>
    rw [hm] at HM HC
    have hc2 := HC.out
    have h64 := HSZ.out
    go_enter Tryd.func26, Tryd.ntmps26
    go_wp2_with (first
      | (go_at_call 37; refine (HM.out _ HR.out).mono ?_; rintro e w1 ⟨rfl, M⟩; obtain ⟨x0, x1, x2, x3, x4, x5⟩ := M.six.cells; simp only [Nat.zero_add] at x0 x1 x2 x3 x4 x5)
      | (go_at_call 38; refine (HS.out _ M).mono ?_; rintro e w2 ⟨rfl, M2⟩))
    all_goals go_ret
    all_goals exact ⟨ret1 (by first | rfl | (rw [hc2]; simp_all <;> omega)), M2.bl⟩
end Go.Proofs.YtlokoepljmlcgaaDoor
