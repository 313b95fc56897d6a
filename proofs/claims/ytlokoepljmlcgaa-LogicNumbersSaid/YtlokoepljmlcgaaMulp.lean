/-
  PLAIN ARITHMETIC of products of numbers as digits; a block of numbers, known whole.
-/
import Derived.Test.YtlokoepljmlcgaaVal
namespace Go.Proofs.Ytlokoepljmlcgaa
set_option linter.unusedSimpArgs false
set_option linter.unusedVariables false
open Go.RowKit

theorem pw_add (a b : Nat) : pw (a + b) = pw a * pw b := by unfold pw; exact Int.pow_add 65536 a b
theorem pv_le {ds : List Int} (h : Dig ds) (k : Nat) : pv ds k ≤ val ds := by
  by_cases hk : k ≤ ds.length
  · have h1 := val_split ds k hk
    have h2 : 0 ≤ pw k * val (ds.drop k) := Int.mul_nonneg (Int.le_of_lt (pw_pos k)) (val_bd (h.drop k)).1
    unfold pv; omega
  · rw [pv_all (by omega)]; exact Int.le_refl _

theorem val_set {D : List Int} : ∀ {i : Nat} (x : Int), i < D.length → val (D.set i x) = val D + pw i * (x - D.getD i 0) := by
  induction D with
  | nil => intro i x h; simp at h
  | cons d r ih =>
    intro i x h
    cases i with
    | zero => simp [val, pw_zero]; omega
    | succ i =>
      have := ih (i := i) x (by simpa using h)
      simp only [List.set_cons_succ, val, this, pw_succ, List.getD_cons_succ, Int.mul_add, Int.mul_assoc]
      omega
theorem dig_set {D : List Int} {i : Nat} {x : Int} (h : Dig D) (h0 : 0 ≤ x) (h1 : x < 65536) : Dig (D.set i x) := by
  intro d hd
  rcases List.mem_or_eq_of_mem_set hd with hd | rfl
  · exact h d hd
  · exact ⟨h0, h1⟩

/-- The product so far. -/
def prodT (a b : List Int) (i k : Nat) : Int := pv a i * val b + a.getD i 0 * (pw i * pv b k)
theorem prodT_zero (a b : List Int) (i : Nat) : prodT a b i 0 = pv a i * val b := by unfold prodT; simp [pv_zero]
theorem prodT_end (a b : List Int) (i k : Nat) (hk : b.length ≤ k) : prodT a b i k = pv a (i + 1) * val b := by
  unfold prodT; rw [pv_all hk, pv_succ, Int.add_mul, ← Int.mul_assoc, Int.mul_comm (a.getD i 0) (pw i)]
theorem prodT_next (a b : List Int) (i k : Nat) : prodT a b i (k + 1) = prodT a b i k + pw (i + k) * (a.getD i 0 * b.getD k 0) := by
  unfold prodT
  rw [pv_succ, Int.mul_add, Int.mul_add, Int.add_assoc]
  congr 2
  rw [pw_add, ← Int.mul_assoc (pw i), Int.mul_left_comm]
theorem prodT_le {a b : List Int} (ha : Dig a) (hb : Dig b) (i k : Nat) : prodT a b i k ≤ val a * val b := by
  have h1 : prodT a b i k ≤ pv a (i + 1) * val b := by
    rw [← prodT_end a b i b.length (Nat.le_refl _)]
    unfold prodT
    have h2 : pv b k ≤ pv b b.length := by rw [pv_all (Nat.le_refl _)]; exact pv_le hb k
    have h3 : pw i * pv b k ≤ pw i * pv b b.length := Int.mul_le_mul_of_nonneg_left h2 (Int.le_of_lt (pw_pos i))
    have h4 := Int.mul_le_mul_of_nonneg_left h3 (ha.getD i).1
    omega
  have h5 := Int.mul_le_mul_of_nonneg_right (pv_le ha (i + 1)) (val_bd hb).1
  omega

/-- What stands while a product of two digits is laid in: the digits, where, and what is left to lay there. -/
def MulAt (a b D : List Int) (i k at' : Nat) (s : Int) : Prop := D.length = 9 ∧ Dig D ∧ 0 ≤ s ∧ s ≤ 8589934592 ∧ val D + pw at' * s = prodT a b i (k + 1)
theorem mulAt_start {a b D : List Int} {i k : Nat} (hl : D.length = 9) (hD : Dig D) (hv : val D = prodT a b i k) (ha : Dig a) (hb : Dig b) : MulAt a b D i k (i + k) (a.getD i 0 * b.getD k 0) := by
  have h1 := ha.getD i; have h2 := hb.getD k
  refine ⟨hl, hD, Int.mul_nonneg h1.1 h2.1, ?_, by rw [prodT_next, hv]⟩
  have h3 := Int.mul_le_mul_of_nonneg_right (show a.getD i 0 ≤ 65536 by omega) h2.1
  omega
theorem mulAt_in {a b D : List Int} {i k at' : Nat} {s : Int} (h : MulAt a b D i k at' s) (ha : Dig a) (hb : Dig b) (la : a.length = 4) (lb : b.length = 4) (hs : 0 < s) : at' < 8 := by
  obtain ⟨h1, h2, h3, h4, h5⟩ := h
  have h6 := prodT_le ha hb i (k + 1)
  have h7 := val_bd ha; have h8 := val_bd hb; have h9 := val_bd h2
  rw [la] at h7; rw [lb] at h8
  have h10 : val a * val b < pw 4 * pw 4 := by
    have := Int.mul_le_mul_of_nonneg_right (Int.le_of_lt h7.2) h8.1
    have := Int.mul_lt_mul_of_pos_left h8.2 (pw_pos 4)
    omega
  rw [← pw_add] at h10
  rcases Nat.lt_or_ge at' 8 with h | h
  · exact h
  · have h11 := pw_mono h
    have h12 : pw at' * 1 ≤ pw at' * s := Int.mul_le_mul_of_nonneg_left (by omega) (Int.le_of_lt (pw_pos at'))
    simp only [Int.mul_one, Nat.reduceAdd] at h12 h10
    omega
theorem mulAt_next {a b D : List Int} {i k at' : Nat} {s : Int} (h : MulAt a b D i k at' s) (h8 : at' < 8) : MulAt a b (D.set at' ((s + D.getD at' 0) % 65536)) i k (at' + 1) ((s + D.getD at' 0) / 65536) := by
  obtain ⟨h1, h2, h3, h4, h5⟩ := h
  have hd := h2.getD at'
  refine ⟨by simp [h1], dig_set h2 (by omega) (by omega), by omega, by omega, ?_⟩
  rw [val_set _ (by omega), pw_succ, ← h5]
  generalize D.getD at' 0 = d at *
  have e : pw at' * ((s + d) % 65536 - d) + 65536 * pw at' * ((s + d) / 65536) = pw at' * s := by
    have : (s + d) % 65536 - d = s - 65536 * ((s + d) / 65536) := by omega
    rw [this, Int.mul_sub, ← Int.mul_assoc, Int.mul_comm (pw at') 65536]
    omega
  omega
theorem mulAt_end {a b D : List Int} {i k at' : Nat} {s : Int} (h : MulAt a b D i k at' s) (hs : ¬ 0 < s) : D.length = 9 ∧ Dig D ∧ val D = prodT a b i (k + 1) := by
  obtain ⟨h1, h2, h3, h4, h5⟩ := h
  obtain rfl : s = 0 := by omega
  exact ⟨h1, h2, by rw [← h5]; simp⟩

/-- A block of numbers, known whole. -/
def Blk (w : World) (g : Nat) (D : List Int) (t : TypeId) : Prop := w.heap[g]? = some (.cells (D.map (Value.int .i64)).toArray t (0, 0))
theorem Blk.cell {w : World} {g : Nat} {D : List Int} {t : TypeId} (h : Blk w g D t) {i : Nat} (hi : i < D.length) : w.cell? ⟨g, i, none⟩ = some (.int .i64 (D.getD i 0)) := by unfold Blk at h; simp [World.cell?, h, hi]
theorem Blk.fr {w : World} {g : Nat} {D : List Int} {t : TypeId} (h : Blk w g D t) (o : Nat) : w.frozen? ⟨g, o, none⟩ = false := by unfold Blk at h; simp [World.frozen?, h]
theorem Blk.set {w : World} {g : Nat} {D : List Int} {t : TypeId} (h : Blk w g D t) (i : Nat) (x : Int) : Blk (w.setCell ⟨g, i, none⟩ (.int .i64 x)) g (D.set i x) t := by
  unfold Blk at *; simp [World.setCell, Array.getElem?_modify, h, List.map_set]
theorem Blk.other {w : World} {g : Nat} {D : List Int} {t : TypeId} (h : Blk w g D t) (a : Addr) (hn : a.block ≠ g) (v : Value) : Blk (w.setCell a v) g D t := by
  unfold Blk at *; rw [Below.heap_setCell _ _ _ _ (Ne.symm hn)]; exact h
theorem Blk.drewN {w : World} {g : Nat} {D : List Int} {t : TypeId} (h : Blk w g D t) (n : Nat) : Blk (w.drewN n) g D t := h
theorem Blk.row {w : World} {g : Nat} {D : List Int} {t : TypeId} (h : Blk w g D t) : RowAt w (some ⟨g, 0, none⟩) .i64 D := .inr ⟨g, 0, rfl, fun i hi => by rw [Nat.zero_add]; exact h.cell hi⟩
end Go.Proofs.Ytlokoepljmlcgaa
