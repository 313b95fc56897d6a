/-
  PLAIN ARITHMETIC of numbers as digits to the base 65536. No program in sight.
-/
import Derived.Test.YtlokoepljmlcgaaLib
namespace Go.Proofs.Ytlokoepljmlcgaa
set_option linter.unusedSimpArgs false
set_option linter.unusedVariables false
open Go.RowKit

def val : List Int → Int
  | [] => 0
  | d :: r => d + 65536 * val r
def Dig (ds : List Int) : Prop := ∀ d ∈ ds, 0 ≤ d ∧ d < 65536
def pw (k : Nat) : Int := 65536 ^ k
theorem pw_zero : pw 0 = 1 := rfl
theorem pw_succ (k : Nat) : pw (k + 1) = 65536 * pw k := by unfold pw; rw [Int.pow_succ, Int.mul_comm]
theorem pw_pos (k : Nat) : 0 < pw k := by induction k with
  | zero => decide
  | succ k ih => rw [pw_succ]; omega
theorem pw_mono {a b : Nat} (h : a ≤ b) : pw a ≤ pw b := by
  induction b with
  | zero => rw [show a = 0 by omega]; exact Int.le_refl _
  | succ b ih =>
    by_cases h1 : a = b + 1
    · subst h1; exact Int.le_refl _
    · have := ih (by omega); have := pw_pos b; rw [pw_succ]; omega

theorem dig_nil : Dig [] := by intro d hd; cases hd
theorem Dig.cons {d : Int} {r : List Int} (h : Dig (d :: r)) : 0 ≤ d ∧ d < 65536 ∧ Dig r := ⟨(h d (by simp)).1, (h d (by simp)).2, fun x hx => h x (by simp [hx])⟩
theorem Dig.snoc {ds : List Int} {d : Int} (h : Dig ds) (h0 : 0 ≤ d) (h1 : d < 65536) : Dig (ds ++ [d]) := by
  intro x hx
  simp at hx
  rcases hx with hx | rfl
  · exact h x hx
  · exact ⟨h0, h1⟩
theorem Dig.take {ds : List Int} (h : Dig ds) (k : Nat) : Dig (ds.take k) := fun d hd => h d (List.mem_of_mem_take hd)
theorem Dig.drop {ds : List Int} (h : Dig ds) (k : Nat) : Dig (ds.drop k) := fun d hd => h d (List.mem_of_mem_drop hd)
theorem Dig.getD {ds : List Int} (h : Dig ds) (k : Nat) : 0 ≤ ds.getD k 0 ∧ ds.getD k 0 < 65536 := by
  by_cases hk : k < ds.length
  · have : ds.getD k 0 = ds[k] := by simp [hk]
    rw [this]; exact h _ (List.getElem_mem hk)
  · have : ds.getD k 0 = 0 := by simp [List.getElem?_eq_none (Nat.le_of_not_lt hk)]
    rw [this]; decide
theorem val_bd {ds : List Int} (h : Dig ds) : 0 ≤ val ds ∧ val ds < pw ds.length := by
  induction ds with
  | nil => exact ⟨by decide, by decide⟩
  | cons d r ih =>
    obtain ⟨h0, h1, h2⟩ := h.cons
    have := ih h2
    simp only [val, List.length_cons, pw_succ]
    omega
theorem val_append (a b : List Int) : val (a ++ b) = val a + pw a.length * val b := by
  induction a with
  | nil => simp [val, pw_zero]
  | cons d r ih =>
    simp only [List.cons_append, val, ih, List.length_cons, pw_succ, Int.mul_add, Int.mul_assoc]
    omega
theorem val_snoc (a : List Int) (d : Int) : val (a ++ [d]) = val a + pw a.length * d := by rw [val_append]; simp [val]
theorem val_split (ds : List Int) (k : Nat) (hk : k ≤ ds.length) : val ds = val (ds.take k) + pw k * val (ds.drop k) := by
  have := val_append (ds.take k) (ds.drop k)
  rw [List.take_append_drop, List.length_take, Nat.min_eq_left hk] at this
  exact this
/-- The value of the first digits; behind the last one nought. -/
def pv (ds : List Int) (k : Nat) : Int := val (ds.take k)
theorem pv_zero (ds : List Int) : pv ds 0 = 0 := by simp [pv, val]
theorem pv_succ (ds : List Int) (k : Nat) : pv ds (k + 1) = pv ds k + pw k * ds.getD k 0 := by
  unfold pv
  by_cases hk : k < ds.length
  · rw [take_succ_getD 0 ds k hk, val_snoc]; simp [Nat.min_eq_left (Nat.le_of_lt hk)]
  · rw [List.take_of_length_le (by omega), List.take_of_length_le (by omega)]
    simp [List.getElem?_eq_none (Nat.le_of_not_lt hk)]
theorem pv_all {ds : List Int} {k : Nat} (h : ds.length ≤ k) : pv ds k = val ds := by unfold pv; rw [List.take_of_length_le h]
theorem pv_bd {ds : List Int} (h : Dig ds) (k : Nat) : 0 ≤ pv ds k ∧ pv ds k < pw k := by
  have := val_bd (h.take k)
  have h2 := pw_mono (show (ds.take k).length ≤ k by simp; omega)
  unfold pv; omega

/-- Adding: what stands after some rounds: the digits written, the carry. -/
def AddAt (a b os : List Int) (k : Nat) (c : Int) : Prop := os.length = k ∧ Dig os ∧ 0 ≤ c ∧ c ≤ 1 ∧ val os + pw k * c = pv a k + pv b k
theorem addAt_zero (a b : List Int) : AddAt a b [] 0 0 := ⟨rfl, dig_nil, by decide, by decide, by simp [val, pv_zero]⟩
theorem addAt_succ {a b os : List Int} {k : Nat} {c : Int} (h : AddAt a b os k c) (ha : Dig a) (hb : Dig b) :
    AddAt a b (os ++ [(a.getD k 0 + b.getD k 0 + c) % 65536]) (k + 1) ((a.getD k 0 + b.getD k 0 + c) / 65536) := by
  obtain ⟨h1, h2, h3, h4, h5⟩ := h
  have g1 := ha.getD k; have g2 := hb.getD k
  have p1 := pv_succ a k; have p2 := pv_succ b k
  generalize a.getD k 0 = x at *
  generalize b.getD k 0 = y at *
  refine ⟨by simp [h1], h2.snoc (by omega) (by omega), by omega, by omega, ?_⟩
  rw [val_snoc, h1, p1, p2, pw_succ]
  have e : pw k * ((x + y + c) % 65536) + 65536 * pw k * ((x + y + c) / 65536) = pw k * x + pw k * y + pw k * c := by
    rw [← Int.mul_add, ← Int.mul_add]
    conv => rhs; rw [show x + y + c = (x + y + c) % 65536 + 65536 * ((x + y + c) / 65536) by omega]
    rw [Int.mul_add, ← Int.mul_assoc, Int.mul_comm (pw k) 65536]
  omega
theorem addAt_end {a b os : List Int} {k : Nat} {c : Int} (h : AddAt a b os (k + 1) c) (ha : Dig a) (hb : Dig b) (la : a.length ≤ k) (lb : b.length ≤ k) : val os = val a + val b ∧ Dig os ∧ os.length = k + 1 := by
  obtain ⟨h1, h2, h3, h4, h5⟩ := h
  rw [pv_all (by omega), pv_all (by omega)] at h5
  have a1 := val_bd ha; have b1 := val_bd hb; have o1 := val_bd h2
  have m1 := pw_mono la; have m2 := pw_mono lb
  have p := pw_pos k
  rw [pw_succ] at h5
  refine ⟨?_, h2, h1⟩
  have hc : c = 0 ∨ c = 1 := by omega
  rcases hc with rfl | rfl <;> omega

/-- Taking away the less: the digits written, what was borrowed. -/
def SubAt (a b os : List Int) (k : Nat) (c : Int) : Prop := os.length = k ∧ Dig os ∧ 0 ≤ c ∧ c ≤ 1 ∧ val os - pw k * c = pv a k - pv b k
theorem subAt_zero (a b : List Int) : SubAt a b [] 0 0 := ⟨rfl, dig_nil, by decide, by decide, by simp [val, pv_zero]⟩
theorem subAt_succ {a b os : List Int} {k : Nat} {c : Int} (h : SubAt a b os k c) (ha : Dig a) (hb : Dig b) :
    SubAt a b (os ++ [(a.getD k 0 - b.getD k 0 + 65536 - c) % 65536]) (k + 1) (1 - (a.getD k 0 - b.getD k 0 + 65536 - c) / 65536) := by
  obtain ⟨h1, h2, h3, h4, h5⟩ := h
  have g1 := ha.getD k; have g2 := hb.getD k
  have p1 := pv_succ a k; have p2 := pv_succ b k
  generalize a.getD k 0 = x at *
  generalize b.getD k 0 = y at *
  refine ⟨by simp [h1], h2.snoc (by omega) (by omega), by omega, by omega, ?_⟩
  rw [val_snoc, h1, p1, p2, pw_succ]
  have e : pw k * ((x - y + 65536 - c) % 65536) - 65536 * pw k * (1 - (x - y + 65536 - c) / 65536) = pw k * x - pw k * y - pw k * c := by
    have : (x - y + 65536 - c) % 65536 = (x - y - c) + 65536 * (1 - (x - y + 65536 - c) / 65536) := by omega
    rw [this, Int.mul_add, Int.mul_sub, Int.mul_sub, ← Int.mul_assoc, Int.mul_comm (pw k) 65536]
    omega
  omega
theorem subAt_end {a b os : List Int} {k : Nat} {c : Int} (h : SubAt a b os k c) (la : a.length ≤ k) (lb : b.length ≤ k) (hab : val b ≤ val a) : val os = val a - val b ∧ Dig os ∧ os.length = k := by
  obtain ⟨h1, h2, h3, h4, h5⟩ := h
  rw [pv_all la, pv_all lb] at h5
  have o1 := val_bd h2
  rw [h1] at o1
  refine ⟨?_, h2, h1⟩
  have hc : c = 0 ∨ c = 1 := by omega
  rcases hc with rfl | rfl <;> omega

/-- Which is greater, by the digits from one place on, which are the same. -/
theorem cmp_lt {a b : List Int} {k : Nat} (ha : Dig a) (hb : Dig b) (hs : val a - val b = pv a (k + 1) - pv b (k + 1)) (h : a.getD k 0 < b.getD k 0) : val a < val b := by
  rw [pv_succ, pv_succ] at hs
  have h1 := pv_bd ha k; have h2 := pv_bd hb k
  generalize a.getD k 0 = x at *
  generalize b.getD k 0 = y at *
  have h3 : pw k * (x + 1) ≤ pw k * y := Int.mul_le_mul_of_nonneg_left (by omega) (Int.le_of_lt (pw_pos k))
  rw [Int.mul_add] at h3
  omega
theorem cmp_eq {a b : List Int} {k : Nat} (hs : val a - val b = pv a (k + 1) - pv b (k + 1)) (h : a.getD k 0 = b.getD k 0) : val a - val b = pv a k - pv b k := by
  rw [pv_succ, pv_succ, h] at hs; omega
def cmpV (a b : List Int) : Int := if val a < val b then -1 else if val b < val a then 1 else 0

/-- What is owned stays owned where no block that was there turns. -/
theorem owns_below {w w' : World} {base : Nat} {e : TypeId} {size : Nat} {v : Value} {n : Nat} {xs : List Value} (h : w.ownsRow base e size v n xs) (hb : Below w.heap.size w w') : w'.ownsRow base e size v n xs :=
  h.kept (row := none) ⟨hb.os, hb.tape, hb.output, hb.size, fun k hk _ => hb.block k hk⟩ (by cases v.ownBlock <;> simp)

theorem undrew {B : Nat} {w w' : World} (h : Below B w.drew w') : Below B w w' := ⟨h.os, h.tape, h.output, h.size, h.block⟩

/-- A block of two cells, known whole. -/
def Box2 (w : World) (b : Nat) (x y : Value) (t : TypeId) : Prop := w.heap[b]? = some (.cells #[x, y] t (0, 0))
theorem Box2.c0 {w : World} {b : Nat} {x y : Value} {t : TypeId} (h : Box2 w b x y t) : w.cell? ⟨b, 0, none⟩ = some x := by unfold Box2 at h; simp [World.cell?, h]
theorem Box2.c1 {w : World} {b : Nat} {x y : Value} {t : TypeId} (h : Box2 w b x y t) : w.cell? ⟨b, 1, none⟩ = some y := by unfold Box2 at h; simp [World.cell?, h]
theorem Box2.fr {w : World} {b : Nat} {x y : Value} {t : TypeId} (h : Box2 w b x y t) (o : Nat) : w.frozen? ⟨b, o, none⟩ = false := by unfold Box2 at h; simp [World.frozen?, h]
theorem Box2.lt {w : World} {b : Nat} {x y : Value} {t : TypeId} (h : Box2 w b x y t) : b < w.heap.size := (Array.getElem?_eq_some_iff.1 h).1
theorem Box2.below {w w' : World} {b B : Nat} {x y : Value} {t : TypeId} (h : Box2 w b x y t) (hb : Below B w w') (hB : b < B) : Box2 w' b x y t := (hb.block b hB).trans h
theorem Box2.new (w : World) (x y : Value) (t : TypeId) : Box2 (w.alloc (.cells #[x, y] t)) w.heap.size x y t := heap_alloc_new w _
theorem Box2.second (w : World) (o : Obj) (x y : Value) (t : TypeId) : Box2 ((w.alloc o).alloc (.cells #[x, y] t)) (w.heap.size + 1) x y t := by
  have := Box2.new (w.alloc o) x y t
  rwa [World.size_alloc] at this
theorem Box2.alloc {w : World} {b : Nat} {x y : Value} {t : TypeId} (h : Box2 w b x y t) (o : Obj) : Box2 (w.alloc o) b x y t := (Below.heap_alloc w o b h.lt).trans h
theorem Box2.set1 {w : World} {b : Nat} {x y : Value} {t : TypeId} (h : Box2 w b x y t) (v : Value) : Box2 (w.setCell ⟨b, 1, none⟩ v) b x v t := by
  unfold Box2 at *; simp [World.setCell, Array.getElem?_modify, h]
theorem Box2.set0 {w : World} {b : Nat} {x y : Value} {t : TypeId} (h : Box2 w b x y t) (v : Value) : Box2 (w.setCell ⟨b, 0, none⟩ v) b v y t := by
  unfold Box2 at *; simp [World.setCell, Array.getElem?_modify, h]
theorem Box2.other {w : World} {b : Nat} {x y : Value} {t : TypeId} (h : Box2 w b x y t) (a : Addr) (hn : a.block ≠ b) (v : Value) : Box2 (w.setCell a v) b x y t := by
  unfold Box2 at *; rw [Below.heap_setCell _ _ _ _ (Ne.symm hn)]; exact h

/-- A block of two cells, both written. -/
theorem Box2.both {w : World} {b : Nat} {x y : Value} {t : TypeId} (h : Box2 w b x y t) (u v : Value) : Box2 ((w.setCell ⟨b, 0, none⟩ u).setCell ⟨b, 1, none⟩ v) b u v t := (h.set0 u).set1 v

/-- A slice of digits, read. -/
def DigitsAt (w : World) (v : Value) (ds : List Int) : Prop := ∃ a cap, v = .slice a ds.length cap ∧ RowAt w a .i64 ds ∧ ds.length ≤ cap
theorem DigitsAt.below {w w' : World} {v : Value} {ds : List Int} (h : DigitsAt w v ds) (hb : Below w.heap.size w w') : DigitsAt w' v ds := by
  obtain ⟨a, cap, hv, hr, hl⟩ := h; exact ⟨a, cap, hv, hr.below hb, hl⟩
theorem digitsAt_owns {w : World} {base : Nat} {e : TypeId} {v : Value} {n : Nat} {ds : List Int} (h : w.ownsRow base e 1 v n (ds.map (Value.int .i64))) : DigitsAt w v ds := by
  obtain ⟨hn, a, cap, hv, hl, hr⟩ := rowAt_owns h
  subst hn
  exact ⟨a, cap, hv, hr, hl⟩
/-- The number that a sign and digits are. -/
def sgv (neg : Bool) (ds : List Int) : Int := if neg then -val ds else val ds
/-- What hands back a wide number: its sign, its digits (so many), in memory that is there; below nothing has turned. -/
def RetWide (R : Bool → List Int → Prop) (w : World) (e : Ending) (w' : World) : Prop :=
  ∃ neg sv ds, e = .returned (.agg #[.bool neg, sv]) ∧ DigitsAt w' sv ds ∧ Dig ds ∧ R neg ds ∧ Below w.heap.size w w'
end Go.Proofs.Ytlokoepljmlcgaa
