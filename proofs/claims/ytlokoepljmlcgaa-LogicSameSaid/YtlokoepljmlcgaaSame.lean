/-
  THE LAW LogicSame: the walk. And and Or hang on the places alone.
-/
import Derived.Test.YtlokoepljmlcgaaWorks
namespace Go.Proofs.Ytlokoepljmlcgaa
open Go.RowKit

def an (x y : Int) : Int := mn (mn 2 (pl x)) (pl y)
def oo (x y : Int) : Int := mx (mx 0 (pl x)) (pl y)
def an3 (x y z : Int) : Int := mn (an x y) (pl z)
def oo3 (x y z : Int) : Int := mx (oo x y) (pl z)
def no (x : Int) : Int := 2 - pl x

theorem sAnd2 {w0 : World} (x y : Int) (b : Nat) (w : World) (hb : b = w.heap.size) (hB : Below w0.heap.size w0 w) :
    Calls Try.prog 16 #[.slice (some ⟨b, 0, none⟩) 2 2] (w.alloc (.cells #[.int .i64 x, .int .i64 y] 38)) fun e w' => e = .returned (.int .i64 (an x y)) ∧ Below w0.heap.size w0 w' :=
  (and2 x y b w hb).mono fun _ _ h => ⟨h.1, h.2 ▸ hB.alloc hB.size _⟩
theorem sOr2 {w0 : World} (x y : Int) (b : Nat) (w : World) (hb : b = w.heap.size) (hB : Below w0.heap.size w0 w) :
    Calls Try.prog 17 #[.slice (some ⟨b, 0, none⟩) 2 2] (w.alloc (.cells #[.int .i64 x, .int .i64 y] 38)) fun e w' => e = .returned (.int .i64 (oo x y)) ∧ Below w0.heap.size w0 w' :=
  (or2 x y b w hb).mono fun _ _ h => ⟨h.1, h.2 ▸ hB.alloc hB.size _⟩
theorem sAnd3 {w0 : World} (x y z : Int) (b : Nat) (w : World) (hb : b = w.heap.size) (hB : Below w0.heap.size w0 w) :
    Calls Try.prog 16 #[.slice (some ⟨b, 0, none⟩) 3 3] (w.alloc (.cells #[.int .i64 x, .int .i64 y, .int .i64 z] 38)) fun e w' => e = .returned (.int .i64 (an3 x y z)) ∧ Below w0.heap.size w0 w' := by
  subst hb; exact (and_any _ 3 3 [x, y, z] _ rfl (row3 _ _ _ _ _) (by decide)).mono fun _ _ h => ⟨h.1, h.2 ▸ hB.alloc hB.size _⟩
theorem sOr3 {w0 : World} (x y z : Int) (b : Nat) (w : World) (hb : b = w.heap.size) (hB : Below w0.heap.size w0 w) :
    Calls Try.prog 17 #[.slice (some ⟨b, 0, none⟩) 3 3] (w.alloc (.cells #[.int .i64 x, .int .i64 y, .int .i64 z] 38)) fun e w' => e = .returned (.int .i64 (oo3 x y z)) ∧ Below w0.heap.size w0 w' := by
  subst hb; exact (or_any _ 3 3 [x, y, z] _ rfl (row3 _ _ _ _ _) (by decide)).mono fun _ _ h => ⟨h.1, h.2 ▸ hB.alloc hB.size _⟩
theorem sNot {w0 : World} (x : Int) (w : World) (hB : Below w0.heap.size w0 w) : Calls Try.prog 18 #[.int .i64 x] w fun e w' => e = .returned (.int .i64 (no x)) ∧ Below w0.heap.size w0 w' :=
  (not_any x w).mono fun _ _ h => ⟨h.1, h.2 ▸ hB⟩
theorem sThree {w0 : World} (x : Int) (w : World) (hB : Below w0.heap.size w0 w) : Calls Try.prog 19 #[.int .i64 x] w fun e w' => e = .returned (.int .i64 (pl x)) ∧ Below w0.heap.size w0 w' :=
  (three_any x w).mono fun _ _ h => ⟨h.1, hB.trans (h.2.mono hB.size)⟩
theorem sXor {w0 : World} (x y : Int) (w : World) (hB : Below w0.heap.size w0 w) : Calls Try.prog 20 #[.int .i64 x, .int .i64 y] w fun e w' => e = .returned (.int .i64 (xorT x y)) ∧ Below w0.heap.size w0 w' :=
  (xor_any x y w).mono fun _ _ h => ⟨h.1, hB.trans (h.2.mono hB.size)⟩
theorem sWorks {w0 : World} (w : World) (hB : Below w0.heap.size w0 w) : Calls Try.prog 9 #[] w fun e w' => e = .returned (.bool true) ∧ Below w0.heap.size w0 w' :=
  (works_any w).mono fun _ _ h => ⟨h.1, hB.trans (h.2.mono hB.size)⟩

def anP (A B : Int) : Int := mn (mn 2 A) B
def ooP (A B : Int) : Int := mx (mx 0 A) B
def xoP (A B : Int) : Int := if A = 1 ∨ B = 1 then 1 else if A = B then 0 else 2
theorem fin_facts (A B C : Int) (hA : A = 0 ∨ A = 1 ∨ A = 2) (hB : B = 0 ∨ B = 1 ∨ B = 2) (hC : C = 0 ∨ C = 1 ∨ C = 2) :
    ((anP A B != anP B A) = false ∧ (ooP A B != ooP B A) = false ∧ (anP A A != A) = false ∧ (ooP A A != A) = false ∧ ((2 - pl (2 - A)) != A) = false) ∧
    ((2 - pl (anP A B) != ooP (pl (2 - A)) (pl (2 - B))) = false ∧ (2 - pl (ooP A B) != anP (pl (2 - A)) (pl (2 - B))) = false ∧ (mn (anP A B) C != anP (pl (anP A B)) C) = false ∧ (mx (ooP A B) C != ooP (pl (ooP A B)) C) = false) ∧
    ((anP A (pl (ooP B C)) == ooP (pl (anP A B)) (pl (anP A C))) = true ∧ (ooP A (pl (anP B C)) == anP (pl (ooP A B)) (pl (ooP A C))) = true ∧ (ooP A (pl (anP A B)) == A) = true ∧ (xoP A B == ooP (pl (anP A (pl (2 - B)))) (pl (anP (pl (2 - A)) B))) = true) := by
  rcases hA with rfl | rfl | rfl <;> rcases hB with rfl | rfl | rfl <;> rcases hC with rfl | rfl | rfl <;> decide

theorem same_facts (a b c : Int) : ((an a b != an b a) = false ∧ (oo a b != oo b a) = false ∧ (an a a != pl a) = false ∧ (oo a a != pl a) = false ∧ (no (no a) != pl a) = false) ∧
    ((no (an a b) != oo (no a) (no b)) = false ∧ (no (oo a b) != an (no a) (no b)) = false ∧ (an3 a b c != an (an a b) c) = false ∧ (oo3 a b c != oo (oo a b) c) = false) ∧
    ((an a (oo b c) == oo (an a b) (an a c)) = true ∧ (oo a (an b c) == an (oo a b) (oo a c)) = true ∧ (oo a (an a b) == pl a) = true ∧ (xorT a b == oo (an a (no b)) (an (no a) b)) = true) :=
  fin_facts (pl a) (pl b) (pl c) (pl_cases a) (pl_cases b) (pl_cases c)

set_option maxHeartbeats 2000000 in
theorem same_walk (a b c : Int) (w : World) : Calls Try.prog 6 #[.int .i64 a, .int .i64 b, .int .i64 c] w fun e w' => e = .returned (.bool true) ∧ Below w.heap.size w w' := by
  obtain ⟨⟨f1, f2, f3, f4, f5⟩, ⟨g1, g2, g3, g4⟩, h1, h2, h3, h4⟩ := same_facts a b c
  have B0 := Below.refl w.heap.size w
  go_enter Try.func6, Try.ntmps6
  go_wp2_with (first
    | (go_at_call 16; go_fit (sAnd2 _ _ _ _ (by simp) (by assumption)); rintro e w' ⟨rfl, hb⟩)
    | (go_at_call 16; go_fit (sAnd3 _ _ _ _ _ (by simp) (by assumption)); rintro e w' ⟨rfl, hb⟩)
    | (go_at_call 17; go_fit (sOr2 _ _ _ _ (by simp) (by assumption)); rintro e w' ⟨rfl, hb⟩)
    | (go_at_call 17; go_fit (sOr3 _ _ _ _ _ (by simp) (by assumption)); rintro e w' ⟨rfl, hb⟩)
    | (go_at_call 18; go_fit (sNot _ _ (by assumption)); rintro e w' ⟨rfl, hb⟩)
    | (go_at_call 19; go_fit (sThree _ _ (by assumption)); rintro e w' ⟨rfl, hb⟩)
    | (go_at_call 20; go_fit (sXor _ _ _ (by assumption)); rintro e w' ⟨rfl, hb⟩)
    | (go_at_call 9; go_fit (sWorks _ (by assumption)); rintro e w' ⟨rfl, hb⟩))
  go_ret
  exact ⟨rfl, by assumption⟩
theorem sameW (a b c : Int) (w : World) (_ : (Lit.int .i64 a).wf = true) (_ : (Lit.int .i64 b).wf = true) (_ : (Lit.int .i64 c).wf = true) :
    Calls Try.prog 6 #[.int .i64 a, .int .i64 b, .int .i64 c] w fun e w' => e = .returned (.bool true) ∧ Below w.heap.size w w' := same_walk a b c w
end Go.Proofs.Ytlokoepljmlcgaa
