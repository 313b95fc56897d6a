/-
  PLAIN WORDS AND LEMMAS for the walks of this seat: integers of 64 bits, slices of integers that are read. No program in sight.
-/
import Derived.WalkKit
import Derived.WalkSpells
import Derived.WalkLawsBesides
import Derived.Deep.QuietTactic
import Derived.BigQuiet
import Derived.Deep.RegionWith
import Derived.Lib.Hide
namespace Go.Proofs.YtimhhacfjgbomaaGreatDoor
set_option linter.unusedSimpArgs false
set_option linter.unusedVariables false
open Go.RowKit

theorem ret1 {k : IntKind} {a b : Int} (h : a = b) : Ending.returned (.int k a) = .returned (.int k b) := by rw [h]
theorem retB {a b : Bool} (h : a = b) : Ending.returned (.bool a) = .returned (.bool b) := by rw [h]
theorem ret2 {k l : IntKind} {a b c d : Int} (h : a = b) (h' : c = d) : Ending.returned (.tuple #[.int k a, .int l c]) = .returned (.tuple #[.int k b, .int l d]) := by rw [h, h']

/-- A number of 64 bits. -/
def In64 (a : Int) : Prop := -9223372036854775808 ≤ a ∧ a ≤ 9223372036854775807
def fits (n : Int) : Bool := decide (-9223372036854775808 ≤ n ∧ n ≤ 9223372036854775807)
/-- What adding, taking away, multiplying tell: the number and the error. -/
def res (n : Int) : Int := if fits n = true then n else 0
def err (n : Int) : Int := if fits n = true then 0 else 120

theorem fits_iff {n : Int} : fits n = true ↔ In64 n := by unfold fits In64; simp
theorem i64l (n : Int) : IntKind.i64.wrap n = wrap64 n := IntWalk.i64_left n
theorem fl {n : Int} (h : fits n = true) : In64 n := fits_iff.1 h
theorem res_in (n : Int) : In64 (res n) := by
  unfold res; split
  · rename_i h; exact fits_iff.1 h
  · unfold In64; omega
theorem res_fit {n : Int} (h : fits n = true) : res n = n := by unfold res; rw [if_pos h]
theorem err_fit {n : Int} (h : fits n = true) : err n = 0 := by unfold err; rw [if_pos h]
theorem res_no {n : Int} (h : fits n = false) : res n = 0 := by unfold res; rw [h]; rfl
theorem err_no {n : Int} (h : fits n = false) : err n = 120 := by unfold err; rw [h]; rfl
theorem err_two (n : Int) : err n = 0 ∨ err n = 120 := by unfold err; split <;> simp
theorem err_zero {n : Int} : err n = 0 ↔ fits n = true := by unfold err; split <;> simp_all
theorem wrap_in (n : Int) : In64 (wrap64 n) := by unfold In64 wrap64; omega
theorem wrap_fit {n : Int} (h : fits n = true) : wrap64 n = n := by have := fits_iff.1 h; unfold In64 at this; unfold wrap64; omega
theorem in64_wf {n : Int} (h : In64 n) : (Lit.int .i64 n).wf = true := WalkArith.wf_i64 (by unfold In64 at h; omega)
theorem wf_in64 {n : Int} (h : (Lit.int .i64 n).wf = true) : In64 n := by
  unfold In64; simp [Lit.wf, IntKind.min, IntKind.max, IntKind.signed, IntKind.bits] at h; omega

theorem bdrewN {B : Nat} {a w : World} (h : Below B a w) (n : Nat) : Below B a (w.drewN n) := ⟨h.os, h.tape, h.output, h.size, h.block⟩
theorem ballocR (w : World) (o : Obj) : Below w.heap.size w (w.alloc o) := (Below.refl _ _).alloc (Nat.le_refl _) _

theorem cell_set2 {w : World} {a b : Addr} {u v : Value} (x y : Value) (ha : w.cell? a = some u) (hb : w.cell? b = some v) (hne : a ≠ b) : ((w.setCell b y).setCell a x).cell? a = some x ∧ ((w.setCell b y).setCell a x).cell? b = some y := by
  have h1 : (w.setCell b y).cell? a = some u := by rw [World.cell?_setCell_other _ _ _ _ hne.symm]; exact ha
  have h2 : (w.setCell b y).cell? b = some y := World.cell?_setCell_same _ _ _ hb
  exact ⟨World.cell?_setCell_same _ _ _ h1, by rw [World.cell?_setCell_other _ _ _ _ hne]; exact h2⟩

/-- At an address the numbers stand, one a cell (where there are some). -/
def RowAt (w : World) (a : Option Addr) (k : IntKind) (zs : List Int) : Prop :=
  zs = [] ∨ ∃ b o, a = some ⟨b, o, none⟩ ∧ ∀ i, i < zs.length → w.cell? ⟨b, o + i, none⟩ = some (.int k (zs.getD i 0))

/-- What a walk is told of a slice of integers that came in: it is nil; or it leads to a row of 'cap' cells, the numbers 'zs' (the first 'len' are its elements). -/
def IsRow (k : IntKind) (w : World) (a : Option Addr) (len cap : Nat) (zs : List Int) : Prop :=
  (a = none ∧ len = 0 ∧ cap = 0 ∧ zs = []) ∨
  ∃ x, a = some x ∧ len ≤ cap ∧ cap ≤ maxLen ∧ zs.length = cap ∧ (∀ i, i < zs.length → w.cell? (x.add i) = some (.int k (zs.getD i 0))) ∧ ∀ n ∈ zs, (Lit.int k n).wf = true

theorem take_succ_getD {α} (d : α) (zs : List α) (k : Nat) (h : k < zs.length) : zs.take (k + 1) = zs.take k ++ [zs.getD k d] := by
  rw [List.take_succ_eq_append_getElem h]; simp [h]

theorem RowAt.below {w w' : World} {a : Option Addr} {k : IntKind} {zs : List Int} (h : RowAt w a k zs) (hb : Below w.heap.size w w') : RowAt w' a k zs := by
  rcases h with h | ⟨b, o, rfl, hc⟩
  · exact .inl h
  · refine .inr ⟨b, o, rfl, fun i hi => ?_⟩
    have := hc i hi
    rw [hb.cell (p := ⟨b, o + i, none⟩) (World.block_lt_of_cell? w ⟨b, o + i, none⟩ this)]
    exact this
theorem RowAt.take {w : World} {a : Option Addr} {k : IntKind} {zs : List Int} (h : RowAt w a k zs) (n : Nat) : RowAt w a k (zs.take n) := by
  rcases h with h | ⟨b, o, rfl, hc⟩
  · exact .inl (by simp [h])
  · refine .inr ⟨b, o, rfl, fun i hi => ?_⟩
    rw [hc i (by simp at hi; omega)]
    simp at hi
    simp [List.getD_eq_getElem?_getD, show i < n by omega]
/-- An owned row is read. -/
theorem rowAt_owns {w : World} {base : Nat} {e : TypeId} {v : Value} {n : Nat} {k : IntKind} {zs : List Int} (h : w.ownsRow base e 1 v n (zs.map (Value.int k))) :
    n = zs.length ∧ ∃ a cap, v = .slice a n cap ∧ n ≤ cap ∧ RowAt w a k zs := by
  have hl : n = zs.length := by have := h.1; simp at this; omega
  refine ⟨hl, ?_⟩
  have h2 := h
  rcases h.2 with ⟨rfl, hn⟩ | ⟨g, cap, cur, rfl, hb, hh, hnc, hcm, hcs, ht⟩
  · subst hn
    exact ⟨none, 0, rfl, Nat.le_refl _, .inl (by cases zs <;> simp_all)⟩
  · refine ⟨_, cap, rfl, hnc, .inr ⟨g, 0, rfl, fun i hi => ?_⟩⟩
    have := h2.cells (g := g) rfl i (Value.int k (zs.getD i 0)) (by simp [hi])
    simpa [Addr.add_lit] using this

theorem owns_form {w : World} {base : Nat} {e : TypeId} {size : Nat} {v : Value} {n : Nat} {xs : List Value} (h : w.ownsRow base e size v n xs) : ∃ a c, v = .slice a n c := by
  rcases h.2 with ⟨rfl, hn⟩ | ⟨g, cap, cur, rfl, _⟩
  · exact ⟨none, 0, by rw [hn]⟩
  · exact ⟨_, cap, rfl⟩
theorem bsz {w wr : World} (hb : Below w.heap.size w wr) (o : Obj) : w.heap.size ≤ (wr.alloc o).heap.size := by have := hb.size; simp; omega
theorem one_int {k : IntKind} {n : Int} : ∀ u ∈ [Value.int k n], u.oneCell' = true := by intro u hu; simp at hu; subst hu; rfl
/-- Behind an append of one element to an owned row. -/
theorem below_append {B : Nat} {w wr w1 : World} {t : TypeId} {sz : Nat} {v : Value} {n : Nat} {xs : List Value} {o : Obj} (hb : Below B w wr) (hB : B ≤ wr.heap.size) (HO : wr.ownsRow B t sz v n xs) (hg : (wr.alloc o).grownBy w1 v.ownBlock) : Below B w w1 :=
  (hb.alloc hB _).grown hg (by simp; omega) (fun k hk => (HO.lt k hk).1)
theorem one_new (w : World) (x : Value) (t : TypeId) : ∀ j u, [x][j]? = some u → (w.alloc (.cells #[x] t)).cell? ((⟨w.heap.size, 0, none⟩ : Addr).add j) = some u := by
  intro j u hj
  match j, hj with
  | 0, hj => simp at hj; subst hj; simp [Addr.add]
end Go.Proofs.YtimhhacfjgbomaaGreatDoor
