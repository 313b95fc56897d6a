/-
  THE WALK of value.Equal, of any two values.
-/
import Derived.Test.YtlokoepljmlcgaaDoorEqw
import Derived.Test.YtlokoepljmlcgaaDoorRcheck
namespace Go.Proofs.YtlokoepljmlcgaaDoor
set_option linter.unusedSimpArgs false
set_option linter.unusedVariables false
open Go.RowKit Go.Shelf

/-- What Equal answers. -/
def eqA (x : Nd) (c : Fo) (y : Nd) (d : Fo) : Int := if checkV x c = 0 ∧ checkV y d = 0 then eqV x c y d else 1
theorem may_of_check {x : Nd} {c : Fo} (h : checkV x c = 0) : mayA x c = true := by
  rw [check_sz] at h
  by_cases hm : mayA x c = true
  · exact hm
  · rw [if_neg hm] at h; omega

/-- Two values beside each other, in a block of their own. -/
theorem two_new {w : World} {x y : Nd} {c d : Fo} (hx : Good w.heap.size w x c) (hy : Good w.heap.size w y d) :
    Vals (w.heap.size + 1) (w.alloc (.cells #[.int .i64 x.k, .bool x.b, .int .i64 x.n, .string x.t, .slice x.ka x.kl x.kc, .slice x.la x.ll x.lc, .int .i64 y.k, .bool y.b, .int .i64 y.n, .string y.t, .slice y.ka y.kl y.kc, .slice y.la y.ll y.lc] 30)) (some ⟨w.heap.size, 0, none⟩) (.cons x c (.cons y d .nil)) := by
  have hb := ballocR w (.cells #[.int .i64 x.k, .bool x.b, .int .i64 x.n, .string x.t, .slice x.ka x.kl x.kc, .slice x.la x.ll x.lc, .int .i64 y.k, .bool y.b, .int .i64 y.n, .string y.t, .slice y.ka y.kl y.kc, .slice y.la y.ll y.lc] 30)
  have hZ := World.alloc_heap_new w (.cells #[.int .i64 x.k, .bool x.b, .int .i64 x.n, .string x.t, .slice x.ka x.kl x.kc, .slice x.la x.ll x.lc, .int .i64 y.k, .bool y.b, .int .i64 y.n, .string y.t, .slice y.ka y.kl y.kc, .slice y.la y.ll y.lc] 30)
  have gx := (hx.below (Nat.le_refl _) hb).mono (Nat.le_succ _)
  have gy := (hy.below (Nat.le_refl _) hb).mono (Nat.le_succ _)
  refine ⟨.inr ⟨_, 0, rfl, ⟨by omega, ?_, gx.keys⟩, gx.in_, ⟨by omega, ?_, gy.keys⟩, gy.in_, trivial⟩, ?_, by simp [Fo.len]⟩
  · refine ⟨?_, ?_, ?_, ?_, ?_, ?_⟩ <;> (unfold World.cell?; rw [hZ]; rfl)
  · refine ⟨?_, ?_, ?_, ?_, ?_, ?_⟩ <;> (unfold World.cell?; rw [hZ]; rfl)
  · intro p hp
    simp only [Fo.toL, List.mem_cons, List.mem_nil_iff, or_false] at hp
    rcases hp with rfl | rfl
    · exact hx.sized
    · exact hy.sized
theorem fine_two (x y : Nd) (c d : Fo) : fineF (.cons x c (.cons y d .nil)) = decide (checkV x c = 0 ∧ checkV y d = 0) := by
  simp only [fineF, Fo.toL, List.all_cons, List.all_nil, Bool.and_true]
  by_cases h1 : checkV x c = 0 <;> by_cases h2 : checkV y d = 0 <;> simp [h1, h2]

set_option maxRecDepth 100000 in
set_option maxHeartbeats 4000000 in
theorem Equal_any {n₀ : Nat} (x y : Nd) (c d : Fo) (W : World) (hg : Good n₀ W x c) (hg' : Good n₀ W y d) (hn : n₀ ≤ W.heap.size) (hT : Lib.Utf8Tabs 0 1 W) :
    Calls Tryd.prog 36 #[x.val, y.val] W fun e w' => e = .returned (.int .i64 (eqA x c y d)) ∧ Below W.heap.size W w' := by
  have hRE := RE.new W x y
  have HF : Hid (∀ w, RE W x y w → w.heap.size = W.heap.size + 2 → Calls Tryd.prog 49 #[.slice (some ⟨W.heap.size + 1 + 1, 0, none⟩) 2 2] (w.alloc (.cells #[.int .i64 x.k, .bool x.b, .int .i64 x.n, .string x.t, .slice x.ka x.kl x.kc, .slice x.la x.ll x.lc, .int .i64 y.k, .bool y.b, .int .i64 y.n, .string y.t, .slice y.ka y.kl y.kc, .slice y.la y.ll y.lc] 30)) fun e w' => e = .returned (.bool (decide (checkV x c = 0 ∧ checkV y d = 0))) ∧ RE W x y w') := fun w hr hz => by
    have hb := ballocR w (.cells #[.int .i64 x.k, .bool x.b, .int .i64 x.n, .string x.t, .slice x.ka x.kl x.kc, .slice x.la x.ll x.lc, .int .i64 y.k, .bool y.b, .int .i64 y.n, .string y.t, .slice y.ka y.kl y.kc, .slice y.la y.ll y.lc] 30)
    have hv := two_new ((hg.below hn hr.bl).mono (Nat.le_trans hn hr.bl.size)) ((hg'.below hn hr.bl).mono (Nat.le_trans hn hr.bl.size))
    rw [hz] at hv
    rw [← fine_two]
    exact (fine_any 2 2 hv rfl (by simp [hz]) (Utf8Tabs_below (Utf8Tabs_below hT hr.bl) hb)).mono fun e w' h => ⟨h.1, (hr.next hb).next h.2⟩
  have HE : Hid (checkV x c = 0 ∧ checkV y d = 0 → ∀ w, RE W x y w → Calls Tryd.prog 50 #[x.val, y.val] w fun e w' => e = .returned (.int .i64 (eqV x c y d)) ∧ RE W x y w') := fun h w hr =>
    (equal_any x c y d n₀ w (hg.below hn hr.bl) (hg'.below hn hr.bl) (may_of_check h.1) (may_of_check h.2) (Nat.le_trans hn hr.bl.size)).mono fun e w' h' => ⟨h'.1, hr.next h'.2⟩
  have HR := Lib.hid hRE
  clear hRE hg hg' hT
  unfold eqA
  by_cases hc : checkV x c = 0 ∧ checkV y d = 0
  · rw [if_pos hc]
    rw [decide_eq_true hc] at HF
    have HE2 := Lib.hid (HE.out hc)
    clear HE hc
    generalize eqV x c y d = E at *
    obtain ⟨k, b, n, t, ka, kl, kc, la, ll, lc, ks⟩ := x
    obtain ⟨k', b', n', t', ka', kl', kc', la', ll', lc', ks'⟩ := y
    simp only [Nd.val] at *
    go_enter Tryd.func36, Tryd.ntmps36
    go_wp2_with (first
      | (go_at_call 49; refine (HF.out _ HR.out (by simp)).mono ?_; rintro e w1 ⟨rfl, hM⟩; have HM := Lib.hid hM; obtain ⟨x0, x1, x2, x3, x4, x5⟩ := hM.six.cells; obtain ⟨y0, y1, y2, y3, y4, y5⟩ := hM.six2.cells; clear hM; simp only [Nat.zero_add] at x0 x1 x2 x3 x4 x5 y0 y1 y2 y3 y4 y5)
      | (go_at_call 50; refine (HE2.out _ HM.out).mono ?_; rintro e w2 ⟨rfl, hM2⟩))
    go_ret
    exact ⟨rfl, hM2.bl⟩
  · rw [if_neg hc]
    rw [decide_eq_false hc] at HF
    clear HE hc
    obtain ⟨k, b, n, t, ka, kl, kc, la, ll, lc, ks⟩ := x
    obtain ⟨k', b', n', t', ka', kl', kc', la', ll', lc', ks'⟩ := y
    simp only [Nd.val] at *
    go_enter Tryd.func36, Tryd.ntmps36
    go_wp2_with (first
      | (go_at_call 49; refine (HF.out _ HR.out (by simp)).mono ?_; rintro e w1 ⟨rfl, hM⟩))
    go_ret
    exact ⟨rfl, hM.bl⟩
end Go.Proofs.YtlokoepljmlcgaaDoor
