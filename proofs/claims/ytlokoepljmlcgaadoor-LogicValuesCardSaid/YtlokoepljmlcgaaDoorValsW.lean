/-
  THE WALK of LogicValues.
-/
import Derived.Test.YtlokoepljmlcgaaDoorEqual
import Derived.Test.YtlokoepljmlcgaaDoorRequ
import Derived.Test.YtlokoepljmlcgaaDoorSmall
import Derived.Test.YtlokoepljmlcgaaDoorIn
import Derived.Laws.AppendOwnNone
import Derived.Deep.Onto
namespace Go.Proofs.YtlokoepljmlcgaaDoor
set_option linter.unusedSimpArgs false
set_option linter.unusedVariables false
open Go.RowKit Go.Shelf

theorem owns_below {w w' : World} {base : Nat} {e : TypeId} {s : Nat} {v : Value} {n : Nat} {xs : List Value} (h : w.ownsRow base e s v n xs) (hb : Below w.heap.size w w') : w'.ownsRow base e s v n xs :=
  ⟨h.1, h.2.imp id (fun ⟨g, cap, cur, hv, hbg, hh, r⟩ => ⟨g, cap, cur, hv, hbg, (hb.block g (Array.getElem?_eq_some_iff.1 hh).1).trans hh, r⟩)⟩

/-- Which truth a value is, if it may be. -/
def ofP (x : Nd) (c : Fo) : Value := if checkV x c = 0 then ofV x.k x.b else .tuple #[.int .i64 1, .bool false]
set_option maxRecDepth 100000 in
set_option maxHeartbeats 4000000 in
theorem of_good {n₀ : Nat} (x : Nd) (c : Fo) (w : World) (hg : Good n₀ w x c) (hn : n₀ ≤ w.heap.size) (hT : Lib.Utf8Tabs 0 1 w) :
    Calls Tryd.prog 10 #[x.val] w fun e w' => e = .returned (ofP x c) ∧ Below w.heap.size w w' := by
  have hR := RM.new w x
  have HC : Hid (∀ w', RM w x w' → Calls Tryd.prog 34 #[x.val] w' fun e w'' => e = .returned (.int .i64 (checkV x c)) ∧ RM w x w'') := fun w' hr => (check_good (hg.below hn hr.bl) (Nat.le_trans hn hr.bl.size) (Utf8Tabs_below hT hr.bl)).mono fun e w'' h => ⟨h.1, hr.next h.2⟩
  have HR := Lib.hid hR
  clear hg hT hR
  unfold ofP
  generalize checkV x c = C at *
  obtain ⟨k, b, n, t, ka, kl, kc, la, ll, lc, ks⟩ := x
  simp only [Nd.val] at *
  by_cases hC : C = 0
  · subst hC
    rw [if_pos rfl]
    unfold ofV
    by_cases h0 : k = 0
    · subst h0
      rw [if_pos rfl]
      go_enter Tryd.func10, Tryd.ntmps10
      go_wp2_with (go_at_call 34; refine (HC.out _ HR.out).mono ?_; rintro e w2 ⟨rfl, M⟩; obtain ⟨x0, x1, x2, x3, x4, x5⟩ := M.six.cells; simp only [Nat.zero_add] at x0 x1 x2 x3 x4 x5)
      go_ret2
      exact ⟨rfl, M.bl⟩
    · rw [if_neg h0]
      have e0 : (k == 0) = false := by simpa using h0
      by_cases h1 : k = 1
      · subst h1
        rw [if_pos rfl]
        cases b
        all_goals
          go_enter Tryd.func10, Tryd.ntmps10
          go_wp2_with (go_at_call 34; refine (HC.out _ HR.out).mono ?_; rintro e w2 ⟨rfl, M⟩; obtain ⟨x0, x1, x2, x3, x4, x5⟩ := M.six.cells; simp only [Nat.zero_add] at x0 x1 x2 x3 x4 x5)
          go_ret2
          exact ⟨rfl, M.bl⟩
      · rw [if_neg h1]
        have e1 : (k == 1) = false := by simpa using h1
        clear h0 h1
        go_enter Tryd.func10, Tryd.ntmps10
        go_wp2_with (go_at_call 34; refine (HC.out _ HR.out).mono ?_; rintro e w2 ⟨rfl, M⟩; obtain ⟨x0, x1, x2, x3, x4, x5⟩ := M.six.cells; simp only [Nat.zero_add] at x0 x1 x2 x3 x4 x5)
        go_ret2
        exact ⟨rfl, M.bl⟩
  · rw [if_neg hC]
    have e0 : (C == 0) = false := by simpa using hC
    have e1 : (C != 0) = true := by simpa using hC
    clear hC
    go_enter Tryd.func10, Tryd.ntmps10
    go_wp2_with (go_at_call 34; refine (HC.out _ HR.out).mono ?_; rintro e w2 ⟨rfl, M⟩; obtain ⟨x0, x1, x2, x3, x4, x5⟩ := M.six.cells; simp only [Nat.zero_add] at x0 x1 x2 x3 x4 x5)
    go_ret2
    exact ⟨rfl, M.bl⟩

theorem mx_pl (o : Int) (h : 0 ≤ o ∧ o ≤ 2) : mx 0 (pl o) = o := by
  unfold mx pl
  rw [if_neg (show ¬(o < 0 ∨ 2 < o) by omega)]
  split <;> omega
theorem mx_in (a b : Int) (h : 0 ≤ a ∧ a ≤ 2) (h' : 0 ≤ b ∧ b ≤ 2) : 0 ≤ mx a b ∧ mx a b ≤ 2 := by unfold mx; split <;> omega
theorem pl_in (t : Int) : 0 ≤ pl t ∧ pl t ≤ 2 := by rcases pl_cases t with h | h | h <;> omega
/-- Among the others: as the document's Or of all answers. -/
theorem in_or (f : Nd → Fo → Int) (l : List (Nd × Fo)) : inF f l = orL (l.map fun p => f p.1 p.2) := by
  have key : ∀ (l : List (Nd × Fo)) (o : Int), 0 ≤ o ∧ o ≤ 2 → l.foldl (fun o p => mx (mx 0 (pl o)) (pl (f p.1 p.2))) o = (l.map fun p => f p.1 p.2).foldl (fun o t => mx o (pl t)) o := by
    intro l
    induction l with
    | nil => intro o _; rfl
    | cons p r ih =>
      intro o ho
      simp only [List.foldl_cons, List.map_cons]
      rw [mx_pl o ho]
      exact ih _ (mx_in _ _ ho (pl_in _))
  exact key l 0 (by omega)
end Go.Proofs.YtlokoepljmlcgaaDoor
