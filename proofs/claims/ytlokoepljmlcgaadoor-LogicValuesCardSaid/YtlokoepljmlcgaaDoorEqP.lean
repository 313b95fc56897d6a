/-
  PLAIN: which truth it is that two values are equal.
-/
import Derived.Test.YtlokoepljmlcgaaDoorCmpv
namespace Go.Proofs.YtlokoepljmlcgaaDoor
set_option linter.unusedSimpArgs false
set_option linter.unusedVariables false
open Go.RowKit Go.Shelf

/-- Of two values, their lists' answer given. -/
def eqH (x y : Nd) (u : Int) : Int :=
  if x.k = 0 ∨ y.k = 0 then 1 else if x.k ≠ y.k then 0 else if x.k ≠ 4 ∧ x.k ≠ 5 then (if cmpV x y = 0 then 2 else 0)
  else if x.ll ≠ y.ll ∨ x.ks ≠ y.ks then 0 else u
def eqF : Fo → Fo → Int
  | .cons x c r, .cons y d s => min (eqH x y (eqF c d)) (eqF r s)
  | _, _ => 2
def eqV (x : Nd) (c : Fo) (y : Nd) (d : Fo) : Int := eqH x y (eqF c d)
theorem eqH_in (x y : Nd) {u : Int} (h : 0 ≤ u ∧ u ≤ 2) : 0 ≤ eqH x y u ∧ eqH x y u ≤ 2 := by
  unfold eqH
  split
  · omega
  · split
    · omega
    · split
      · split <;> omega
      · split <;> omega
theorem eqF_in : ∀ c d : Fo, 0 ≤ eqF c d ∧ eqF c d ≤ 2
  | .cons x c r, .cons y d s => by
    have h1 := eqH_in x y (eqF_in c d)
    have h2 := eqF_in r s
    simp only [eqF]; omega
  | .nil, .nil => by simp [eqF]
  | .nil, .cons _ _ _ => by simp [eqF]
  | .cons _ _ _, .nil => by simp [eqF]
theorem eqV_in (x : Nd) (c : Fo) (y : Nd) (d : Fo) : 0 ≤ eqV x c y d ∧ eqV x c y d ≤ 2 := eqH_in x y (eqF_in c d)

/-- The first i ones' answer. -/
def eqI (c d : Fo) (i : Nat) : Int := ((c.toL.zip d.toL).take i).foldr (fun p u => min (eqV p.1.1 p.1.2 p.2.1 p.2.2) u) 2
theorem eqF_fold : ∀ c d : Fo, eqF c d = (c.toL.zip d.toL).foldr (fun p u => min (eqV p.1.1 p.1.2 p.2.1 p.2.2) u) 2
  | .cons x c r, .cons y d s => by
    simp only [eqF, Fo.toL, List.zip_cons_cons, List.foldr_cons]
    rw [← eqF_fold r s]; rfl
  | .nil, .nil => rfl
  | .nil, .cons _ _ _ => rfl
  | .cons _ _ _, .nil => rfl
theorem foldmin {α : Type} (f : α → Int) : ∀ (l : List α) (a : Int), l.foldr (fun p u => min (f p) u) a = min (l.foldr (fun p u => min (f p) u) 2) a ∨ 2 < a
  | [], a => by simp only [List.foldr_nil]; omega
  | p :: r, a => by
    rcases foldmin f r a with h | h
    · left; simp only [List.foldr_cons]; omega
    · exact .inr h
theorem eqI_zero (c d : Fo) : eqI c d 0 = 2 := by simp [eqI]
theorem eqI_all {c d : Fo} {n : Nat} (h : c.len = n) (h' : d.len = n) : eqI c d n = eqF c d := by
  unfold eqI
  rw [eqF_fold, List.take_of_length_le (by rw [List.length_zip, Fo.len_toL, Fo.len_toL]; omega)]
theorem eqI_succ {c d : Fo} {i : Nat} {p q : Nd × Fo} (hp : c.toL[i]? = some p) (hq : d.toL[i]? = some q) : eqI c d (i + 1) = min (eqI c d i) (eqV p.1 p.2 q.1 q.2) := by
  unfold eqI
  have hz : (c.toL.zip d.toL)[i]? = some (p, q) := by rw [List.getElem?_zip_eq_some]; exact ⟨hp, hq⟩
  rw [List.take_add_one, hz, Option.toList_some, List.foldr_append]
  have h2 := eqV_in p.1 p.2 q.1 q.2
  rcases foldmin (fun p : (Nd × Fo) × (Nd × Fo) => eqV p.1.1 p.1.2 p.2.1 p.2.2) ((c.toL.zip d.toL).take i) (eqV p.1 p.2 q.1 q.2) with h | h
  · simp only [List.foldr_cons, List.foldr_nil]
    rw [show min (eqV p.1 p.2 q.1 q.2) 2 = eqV p.1 p.2 q.1 q.2 by omega, h]
  · omega
theorem fold_le {α : Type} (f : α → Int) : ∀ (l : List α) (p : α), p ∈ l → l.foldr (fun p u => min (f p) u) 2 ≤ f p
  | q :: r, p, h => by
    simp only [List.foldr_cons]
    rcases List.mem_cons.1 h with rfl | h
    · omega
    · have := fold_le f r p h; omega
theorem eqF_no {c d : Fo} {i : Nat} {p q : Nd × Fo} (hp : c.toL[i]? = some p) (hq : d.toL[i]? = some q) (h : eqV p.1 p.2 q.1 q.2 = 0) : eqF c d = 0 := by
  have hz : (c.toL.zip d.toL)[i]? = some (p, q) := by rw [List.getElem?_zip_eq_some]; exact ⟨hp, hq⟩
  have h1 := eqF_in c d
  have h2 := fold_le (fun p : (Nd × Fo) × (Nd × Fo) => eqV p.1.1 p.1.2 p.2.1 p.2.2) _ _ (List.mem_of_getElem? hz)
  rw [← eqF_fold] at h2
  simp only at h2
  omega

theorem eqV_null {x y : Nd} (c d : Fo) (h : x.k = 0 ∨ y.k = 0) : eqV x c y d = 1 := by simp [eqV, eqH, h]
theorem eqV_kinds {x y : Nd} (c d : Fo) (h : x.k ≠ 0) (h' : y.k ≠ 0) (hn : x.k ≠ y.k) : eqV x c y d = 0 := by simp [eqV, eqH, h, h', hn]
theorem eqV_one {x y : Nd} (c d : Fo) (h : x.k ≠ 0) (hn : y.k = x.k) (h4 : x.k ≠ 4) (h5 : x.k ≠ 5) : eqV x c y d = if cmpV x y == 0 then 2 else 0 := by simp [eqV, eqH, h, hn, h4, h5]
theorem eqV_other {x y : Nd} (c d : Fo) (hn : y.k = x.k) (h4 : x.k = 4 ∨ x.k = 5) (hl : x.ll ≠ y.ll ∨ x.ks ≠ y.ks) : eqV x c y d = 0 := by
  have h : x.k ≠ 0 := by omega
  have h' : ¬ (x.k ≠ 4 ∧ x.k ≠ 5) := by omega
  unfold eqV eqH
  rw [if_neg (by rw [hn]; simpa using h), if_neg (by rw [hn]; simp), if_neg h', if_pos hl]
theorem eqV_all {x y : Nd} (c d : Fo) (hn : y.k = x.k) (h4 : x.k = 4 ∨ x.k = 5) (hl : x.ll = y.ll) (hk : x.ks = y.ks) : eqV x c y d = eqF c d := by
  have h : x.k ≠ 0 := by omega
  have h' : ¬ (x.k ≠ 4 ∧ x.k ≠ 5) := by omega
  unfold eqV eqH
  rw [if_neg (by rw [hn]; simpa using h), if_neg (by rw [hn]; simp), if_neg h', if_neg (by rw [hl, hk]; simp)]

/-- What may be and is no list has neither keys nor values. -/
theorem may_flat {x : Nd} (h : mayB x = true) (h4 : x.k ≠ 4) (h5 : x.k ≠ 5) : x.k = 1 ∨ x.k = 3 ∨ (x.kl = 0 ∧ x.ll = 0) := by
  rw [headR_may] at h
  have h1 : headR x = true := by revert h; cases headR x <;> simp
  unfold headR at h1
  have h2 : bareR x = true := by revert h1; cases bareR x <;> simp
  unfold bareR at h2
  simp [h4, h5] at h2
  exact .inr (.inr ⟨h2.1.2, h2.2⟩)
theorem mayA_head {x : Nd} {c : Fo} (h : mayA x c = true) : mayB x = true := by rw [mayA_eq] at h; revert h; cases mayB x <;> simp
theorem mayA_sub {x : Nd} {c : Fo} (h : mayA x c = true) {p : Nd × Fo} (hp : p ∈ c.toL) : mayA p.1 p.2 = true := by
  rw [mayA_eq, Bool.and_eq_true, List.all_eq_true] at h
  exact h.2 p hp
end Go.Proofs.YtlokoepljmlcgaaDoor
