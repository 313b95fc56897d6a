/-
  PLAIN: how great a value is, as the document counts it.
-/
import Derived.Test.YtlokoepljmlcgaaDoorRmayP
namespace Go.Proofs.YtlokoepljmlcgaaDoor
set_option linter.unusedSimpArgs false
set_option linter.unusedVariables false
open Go.RowKit Go.Shelf

def mxL (l : List Nat) : Nat := l.foldr max 0
theorem mxL_append (a b : List Nat) : mxL (a ++ b) = max (mxL a) (mxL b) := by
  induction a with
  | nil => simp [mxL]
  | cons x r ih => unfold mxL at *; simp only [List.cons_append, List.foldr_cons, ih]; omega
theorem mxL_lt {l : List Nat} {m : Nat} : m < mxL l ↔ ∃ a ∈ l, m < a := by
  induction l with
  | nil => simp [mxL]
  | cons x r ih =>
    have : mxL (x :: r) = max x (mxL r) := rfl
    rw [this]
    constructor
    · intro h
      by_cases h1 : m < x
      · exact ⟨x, by simp, h1⟩
      · obtain ⟨a, ha, h2⟩ := ih.1 (by omega)
        exact ⟨a, by simp [ha], h2⟩
    · rintro ⟨a, ha, h2⟩
      rcases List.mem_cons.1 ha with rfl | ha
      · omega
      · have := ih.2 ⟨a, ha, h2⟩; omega
theorem mxL_le {l : List Nat} {m : Nat} (h : ∀ a ∈ l, a ≤ m) : mxL l ≤ m := by
  by_cases h1 : m < mxL l
  · obtain ⟨a, ha, h2⟩ := mxL_lt.1 h1
    have := h a ha; omega
  · omega
theorem mxL_succ (l : List Nat) : max 1 (mxL (l.map (· + 1))) = mxL l + 1 := by
  induction l with
  | nil => rfl
  | cons x r ih => unfold mxL at *; simp only [List.map_cons, List.foldr_cons]; omega

/-- Values, one by one, each with all in it. -/
def preL (d : Nat) (l : List (Nd × Fo)) : List (Nat × Nd × Fo) := l.flatMap fun p => Nd.pre d p.1 p.2
theorem preL_snoc (d : Nat) (l : List (Nd × Fo)) (p : Nd × Fo) : preL d (l ++ [p]) = preL d l ++ Nd.pre d p.1 p.2 := by simp [preL]
theorem preL_split (d j : Nat) (l : List (Nd × Fo)) : preL d l = preL d (l.take j) ++ preL d (l.drop j) := by unfold preL; rw [← List.flatMap_append, List.take_append_drop]
theorem preL_toL (d : Nat) : ∀ F : Fo, preL d F.toL = F.pre d
  | .nil => rfl
  | .cons x c r => by rw [Fo.pre_cons, ← preL_toL d r]; rfl
theorem Fo.pre_fst (d : Nat) : ∀ F : Fo, (F.pre (d + 1)).map (·.1) = (F.pre d).map (fun e => e.1 + 1)
  | .nil => rfl
  | .cons x c r => by simp only [Fo.pre, List.map_cons, List.map_append]; rw [Fo.pre_fst (d + 1) c, Fo.pre_fst d r]

def szN (l : List (Nat × Nd × Fo)) : Nat := l.length
def szD (l : List (Nat × Nd × Fo)) : Nat := mxL (l.map (·.1))
def szL (l : List (Nat × Nd × Fo)) : Nat := mxL (l.map (·.2.1.ll))
theorem szD_app (a b : List (Nat × Nd × Fo)) : szD (a ++ b) = max (szD a) (szD b) := by simp [szD, mxL_append]
theorem szL_app (a b : List (Nat × Nd × Fo)) : szL (a ++ b) = max (szL a) (szL b) := by simp [szL, mxL_append]
theorem szD_node (x : Nd) (c : Fo) : szD (Nd.pre 1 x c) = szD (c.pre 1) + 1 := by
  unfold szD Nd.pre
  rw [List.map_cons, Fo.pre_fst]
  show max 1 (mxL _) = _
  rw [show (c.pre 1).map (fun e => e.1 + 1) = ((c.pre 1).map (·.1)).map (· + 1) by simp]
  exact mxL_succ _
theorem szL_node (x : Nd) (c : Fo) : szL (Nd.pre 1 x c) = max x.ll (szL (c.pre 1)) := by
  unfold szL Nd.pre
  rw [List.map_cons]
  show max x.ll (mxL _) = _
  rw [show (c.pre (1 + 1)).map (fun e => e.2.1.ll) = ((c.pre 2).map (·.2)).map (fun p => p.1.ll) by simp, Fo.pre_snd 2 1, List.map_map]
  rfl
theorem bytesL_snd (l : List (Nat × Nd × Fo)) : bytesL l = ((l.map (·.2)).map fun p => p.1.t.size + (p.1.ks.map (·.size)).sum).sum := by
  unfold bytesL; rw [List.map_map]; rfl
theorem szB_node (x : Nd) (c : Fo) : bytesL (Nd.pre 1 x c) = x.t.size + (x.ks.map (·.size)).sum + bytesL (c.pre 1) := by
  have h : Nd.pre 1 x c = [(1, x, c)] ++ c.pre 2 := rfl
  rw [h, bytesL_append, bytesL_snd (c.pre 2), Fo.pre_snd 2 1, ← bytesL_snd]
  simp [bytesL, bytesE]
theorem szN_node (x : Nd) (c : Fo) : szN (Nd.pre 1 x c) = 1 + szN (c.pre 1) := by
  unfold szN Nd.pre; rw [List.length_cons, Fo.pre_len 2 1]; omega

/-- Too great? -/
theorem over_from : ∀ (l : List (Nat × Nd × Fo)) (b : Nat) (o : Bool), (l.foldl overStep (b, o)).2 = (o || l.any (fun e => decide (64 < e.1)) || l.any (fun e => decide (65536 < e.2.1.ll)) || (!l.isEmpty && decide (1048576 < b + bytesL l)))
  | [], b, o => by simp
  | e :: r, b, o => by
    rw [List.foldl_cons]
    show (r.foldl overStep (b + bytesE e, _)).2 = _
    rw [over_from r]
    have hb : bytesL (e :: r) = bytesE e + bytesL r := by simp [bytesL]
    have h0 : r = [] → bytesL r = 0 := fun h => by subst h; rfl
    simp only [List.any_cons, hb, List.isEmpty_cons, Bool.not_false, Bool.true_and, ← Nat.add_assoc]
    have key : (decide (1048576 < b + bytesE e) || (!r.isEmpty && decide (1048576 < b + bytesE e + bytesL r))) = decide (1048576 < b + bytesE e + bytesL r) := by
      cases r with
      | nil => simp [h0]
      | cons x r => simp only [List.isEmpty_cons, Bool.not_false, Bool.true_and]; by_cases h : 1048576 < b + bytesE e <;> by_cases h' : 1048576 < b + bytesE e + bytesL (x :: r) <;> simp [h, h'] <;> omega
    rw [← key]
    cases o <;> cases decide (64 < e.1) <;> cases decide (65536 < e.2.1.ll) <;> cases decide (1048576 < b + bytesE e) <;> cases r.any (fun e => decide (64 < e.1)) <;> cases r.any (fun e => decide (65536 < e.2.1.ll)) <;> simp
theorem any_mx (l : List (Nat × Nd × Fo)) (f : Nat × Nd × Fo → Nat) (m : Nat) : l.any (fun e => decide (m < f e)) = decide (m < mxL (l.map f)) := by
  rw [Bool.eq_iff_iff, List.any_eq_true, decide_eq_true_iff, mxL_lt]
  constructor
  · rintro ⟨e, he, h⟩; exact ⟨f e, List.mem_map.2 ⟨e, he, rfl⟩, by simpa using h⟩
  · rintro ⟨a, ha, h⟩; obtain ⟨e, he, rfl⟩ := List.mem_map.1 ha; exact ⟨e, he, by simpa using h⟩
theorem over_sz (x : Nd) (c : Fo) : overL (Nd.pre 1 x c) = (decide (64 < szD (Nd.pre 1 x c)) || decide (1048576 < bytesL (Nd.pre 1 x c)) || decide (65536 < szL (Nd.pre 1 x c))) := by
  unfold overL
  rw [over_from, any_mx _ (·.1), any_mx _ (·.2.1.ll)]
  have : (Nd.pre 1 x c).isEmpty = false := rfl
  rw [this]
  unfold szD szL
  cases decide (64 < mxL ((Nd.pre 1 x c).map (·.1))) <;> cases decide (65536 < mxL ((Nd.pre 1 x c).map (·.2.1.ll))) <;> simp
/-- The bounds. -/
theorem sz_bd {x : Nd} {c : Fo} (h : Sized x c) (hll : ∀ e ∈ Nd.pre 1 x c, e.2.1.ll = e.2.2.len) : szN (Nd.pre 1 x c) ≤ 1048576 ∧ szD (Nd.pre 1 x c) ≤ 1048577 ∧ bytesL (Nd.pre 1 x c) ≤ 1099511627776 ∧ szL (Nd.pre 1 x c) ≤ 1048576 := by
  have hd : ∀ e ∈ Nd.pre 1 x c, e.1 ≤ 1 + (Nd.pre 1 x c).length ∧ e.2.2.len ≤ (Nd.pre 1 x c).length := fun e he => by
    have := Fo.deep (.cons x c .nil) 1 e (by simpa [Fo.pre, Nd.pre] using he)
    simpa [Fo.pre, Nd.pre] using this
  have h1 := h.1
  refine ⟨h1, mxL_le fun a ha => ?_, ?_, mxL_le fun a ha => ?_⟩
  · obtain ⟨e, he, rfl⟩ := List.mem_map.1 ha
    have := (hd e he).1; omega
  · have : ∀ l : List (Nat × Nd × Fo), (∀ e ∈ l, bytesE e ≤ 1048576) → bytesL l ≤ l.length * 1048576 := fun l => by
      induction l with
      | nil => intro _; simp [bytesL]
      | cons e r ih =>
        intro hb
        have h2 := ih fun e he => hb e (by simp [he])
        have h3 := hb e (by simp)
        have h4 : bytesL (e :: r) = bytesE e + bytesL r := by simp [bytesL]
        rw [h4, List.length_cons, Nat.add_mul]; omega
    have h2 := this (Nd.pre 1 x c) fun e he => (h.2 e he).1
    have h3 : (Nd.pre 1 x c).length * 1048576 ≤ 1048576 * 1048576 := Nat.mul_le_mul_right _ h1
    omega
  · obtain ⟨e, he, rfl⟩ := List.mem_map.1 ha
    rw [hll e he]
    have := (hd e he).2; omega
end Go.Proofs.YtlokoepljmlcgaaDoor
