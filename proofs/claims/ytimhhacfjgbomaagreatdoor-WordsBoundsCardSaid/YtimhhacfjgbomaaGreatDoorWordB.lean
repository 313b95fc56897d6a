/-
  FOR THE WALK of the reader's word: the word in memory.
-/
import Derived.Test.YtimhhacfjgbomaaGreatDoorText
import Derived.Test.YtimhhacfjgbomaaGreatDoorQuot
import Derived.Test.YtimhhacfjgbomaaGreatDoorWordsP
namespace Go.Proofs.YtimhhacfjgbomaaGreatDoor
set_option linter.unusedSimpArgs false
set_option linter.unusedVariables false
open Go.RowKit Go.Shelf

/-- A word in memory. -/
def Box4 (w : World) (b : Nat) (k p : Int) (t : ByteArray) (n : Int) : Prop := w.heap[b]? = some (.cells #[.int .i64 k, .int .i64 p, .string t, .int .u64 n] 33 (0, 0))
theorem Box4.lt {w : World} {b : Nat} {k p n : Int} {t : ByteArray} (h : Box4 w b k p t n) : b < w.heap.size := (Array.getElem?_eq_some_iff.1 h).1
theorem Box4.cells {w : World} {b : Nat} {k p n : Int} {t : ByteArray} (h : Box4 w b k p t n) : w.cell? ⟨b, 0, none⟩ = some (.int .i64 k) ∧ w.cell? ⟨b, 1, none⟩ = some (.int .i64 p) ∧ w.cell? ⟨b, 2, none⟩ = some (.string t) ∧ w.cell? ⟨b, 3, none⟩ = some (.int .u64 n) := by
  unfold Box4 at h
  refine ⟨?_, ?_, ?_, ?_⟩ <;> simp [World.cell?, h]
theorem Box4.fr {w : World} {b : Nat} {k p n : Int} {t : ByteArray} (h : Box4 w b k p t n) (o : Nat) : w.frozen? ⟨b, o, none⟩ = false := by unfold Box4 at h; simp [World.frozen?, h]
theorem Box4.only {w w' : World} {b B : Nat} {k p n : Int} {t : ByteArray} (h : Box4 w b k p t n) (hg : w.grownBy w' (some B)) (hB : b ≠ B) : Box4 w' b k p t n := (hg.block b h.lt (fun e => hB (Option.some.inj e))).trans h
theorem Box4.next {w w' : World} {b : Nat} {k p n : Int} {t : ByteArray} (h : Box4 w b k p t n) (hg : Below w.heap.size w w') : Box4 w' b k p t n := (hg.block b h.lt).trans h
theorem set_at {w : World} {b i : Nat} {c : Array Value} {t : TypeId} {fz : Nat × Nat} (v : Value) (h : w.heap[b]? = some (.cells c t fz)) : (w.setCell ⟨b, i, none⟩ v).heap[b]? = some (.cells (c.setIfInBounds i v) t fz) := by
  obtain ⟨hlt, hk⟩ := Array.getElem?_eq_some_iff.1 h
  show (w.heap.modify b _)[b]? = _
  rw [Array.getElem?_eq_getElem (by rw [Array.size_modify]; exact hlt), Array.getElem_modify_self, hk]
  rfl
theorem Box4.set0 {w : World} {b : Nat} {k p n : Int} {t : ByteArray} (h : Box4 w b k p t n) (x : Int) : Box4 (w.setCell ⟨b, 0, none⟩ (.int .i64 x)) b x p t n := set_at _ h
theorem Box4.set1 {w : World} {b : Nat} {k p n : Int} {t : ByteArray} (h : Box4 w b k p t n) (x : Int) : Box4 (w.setCell ⟨b, 1, none⟩ (.int .i64 x)) b k x t n := set_at _ h
theorem Box4.set2 {w : World} {b : Nat} {k p n : Int} {t : ByteArray} (h : Box4 w b k p t n) (x : ByteArray) : Box4 (w.setCell ⟨b, 2, none⟩ (.string x)) b k p x n := set_at _ h
theorem Box4.set3 {w : World} {b : Nat} {k p n : Int} {t : ByteArray} (h : Box4 w b k p t n) (x : Int) : Box4 (w.setCell ⟨b, 3, none⟩ (.int .u64 x)) b k p t x := set_at _ h
theorem Box4.other {w : World} {b c o : Nat} {k p n : Int} {t : ByteArray} (h : Box4 w b k p t n) (hne : b ≠ c) (v : Value) : Box4 (w.setCell ⟨c, o, none⟩ v) b k p t n := (Below.heap_setCell w ⟨c, o, none⟩ v b hne).trans h
theorem Rd.other {w : World} {B c o : Nat} {s : ByteArray} {j : Nat} (h : Rd w B s j) (hne : B ≠ c) (v : Value) : Rd (w.setCell ⟨c, o, none⟩ v) B s j := (Below.heap_setCell w ⟨c, o, none⟩ v B hne).trans h

/-- How word ends. -/
def WordQ (B : Nat) (s : ByteArray) (i : Nat) (o : Option (Wd × Nat)) (w : World) (e : Ending) (w' : World) : Prop :=
  w.grownBy w' (some B) ∧ match o with
    | none => e = .panicked (refusedV i)
    | some p => e = .returned (.agg #[.int .i64 p.1.k, .int .i64 i, .string ⟨p.1.t.toArray⟩, .int .u64 p.1.n]) ∧ Rd w' B s (i + p.2)
/-- What is known within it. -/
structure WoI (B b : Nat) (s : ByteArray) (i : Nat) (w : World) (j : Nat) (k : Int) (t : ByteArray) (n : Int) (V : World) : Prop where
  rd : Rd V B s j
  only : w.grownBy V (some B)
  res : Box4 V b 0 0 ⟨#[]⟩ 0
  loc : Box4 V (b + 1) k i t n
  old : w.heap.size ≤ b
theorem WoI.start {B b : Nat} {s : ByteArray} {i : Nat} {w : World} (hR : Rd w B s i) (hb : w.heap.size = b) : WoI B b s i w i 0 ⟨#[]⟩ 0 ((w.alloc (.cells #[.int .i64 0, .int .i64 0, .string ⟨#[]⟩, .int .u64 0] 33)).alloc (.cells #[.int .i64 0, .int .i64 i, .string ⟨#[]⟩, .int .u64 0] 33)) :=
  ⟨(hR.next (ballocR _ _)).next (ballocR _ _), only_alloc (only_alloc (only_refl w _) _) _, new_old (new_at' hb _), new_at' (by simp [hb]) _, by omega⟩
theorem WoI.drew {B b : Nat} {s : ByteArray} {i : Nat} {w : World} {j : Nat} {k n : Int} {t : ByteArray} {V : World} (h : WoI B b s i w j k t n V) (q : Nat) : WoI B b s i w j k t n (V.drewN q) := ⟨h.rd, only_drewN h.only q, h.res, h.loc, h.old⟩
/-- Behind a reader's call. -/
theorem WoI.call {B b : Nat} {s : ByteArray} {i : Nat} {w : World} {j j' : Nat} {k n : Int} {t : ByteArray} {V V' : World} (h : WoI B b s i w j k t n V) (hB : B < b) (hg : V.grownBy V' (some B)) (hr : Rd V' B s j') : WoI B b s i w j' k t n V' :=
  ⟨hr, only_trans h.only hg, h.res.only hg (by omega), h.loc.only hg (by omega), h.old⟩
theorem WoI.next {B b : Nat} {s : ByteArray} {i : Nat} {w : World} {j : Nat} {k n : Int} {t : ByteArray} {V V' : World} (h : WoI B b s i w j k t n V) (hg : Below V.heap.size V V') : WoI B b s i w j k t n V' :=
  ⟨h.rd.next hg, only_trans h.only (only_of_below hg _), h.res.next hg, h.loc.next hg, h.old⟩
theorem WoI.set0 {B b : Nat} {s : ByteArray} {i : Nat} {w : World} {j : Nat} {k n : Int} {t : ByteArray} {V : World} (h : WoI B b s i w j k t n V) (hB : B < b) (x : Int) : WoI B b s i w j x t n (V.setCell ⟨b + 1, 0, none⟩ (.int .i64 x)) :=
  ⟨h.rd.other (by omega) _, only_setCell h.only (.inr (by have := h.old; simp; omega)) _, h.res.other (by omega) _, h.loc.set0 x, h.old⟩
theorem WoI.set2 {B b : Nat} {s : ByteArray} {i : Nat} {w : World} {j : Nat} {k n : Int} {t : ByteArray} {V : World} (h : WoI B b s i w j k t n V) (hB : B < b) (x : ByteArray) : WoI B b s i w j k x n (V.setCell ⟨b + 1, 2, none⟩ (.string x)) :=
  ⟨h.rd.other (by omega) _, only_setCell h.only (.inr (by have := h.old; simp; omega)) _, h.res.other (by omega) _, h.loc.set2 x, h.old⟩
theorem WoI.set3 {B b : Nat} {s : ByteArray} {i : Nat} {w : World} {j : Nat} {k n : Int} {t : ByteArray} {V : World} (h : WoI B b s i w j k t n V) (hB : B < b) (x : Int) : WoI B b s i w j k t x (V.setCell ⟨b + 1, 3, none⟩ (.int .u64 x)) :=
  ⟨h.rd.other (by omega) _, only_setCell h.only (.inr (by have := h.old; simp; omega)) _, h.res.other (by omega) _, h.loc.set3 x, h.old⟩
theorem WoI.setAt {B b : Nat} {s : ByteArray} {i : Nat} {w : World} {j : Nat} {k n : Int} {t : ByteArray} {V : World} (h : WoI B b s i w j k t n V) (hB : B < b) {x : Int} {j' : Nat} (hx : x = (j' : Int)) : WoI B b s i w j' k t n (V.setCell ⟨B, 1, none⟩ (.int .i64 x)) :=
  ⟨Rd.set' h.rd hx, only_setCell h.only (.inl rfl) _, h.res.other (by omega) _, h.loc.other (by omega) _, h.old⟩
/-- The word is handed back. -/
theorem WoI.done {B b : Nat} {s : ByteArray} {i : Nat} {w : World} {j : Nat} {k n : Int} {t : ByteArray} {V : World} (h : WoI B b s i w j k t n V) (hB : B < b) :
    ∃ V', (((V.setCell ⟨b, 0, none⟩ (.int .i64 k)).setCell ⟨b, 1, none⟩ (.int .i64 i)).setCell ⟨b, 2, none⟩ (.string t)).setCell ⟨b, 3, none⟩ (.int .u64 n) = V' ∧ Box4 V' b k i t n ∧ Rd V' B s j ∧ w.grownBy V' (some B) := by
  have ho := h.old
  exact ⟨_, rfl, (((h.res.set0 k).set1 i).set2 t).set3 n, (((h.rd.other (by omega) _).other (by omega) _).other (by omega) _).other (by omega) _,
    only_setCell (only_setCell (only_setCell (only_setCell h.only (.inr ho) _) (.inr ho) _) (.inr ho) _) (.inr ho) _⟩
/-- The word that begins here, by its first byte. -/
def mkW (k : Nat) (f : List UInt8 → Bool) : Option (List UInt8 × Nat) → Option (Wd × Nat)
  | some p => if f p.1 then some (⟨k, p.1, 0⟩, p.2 + 1) else none
  | none => none
theorem w1_name {c : UInt8} {r : List UInt8} (h : cls c.toNat = 1) : word1 (c :: r) = if (runL (c :: r)).length ≤ 64 then some (⟨1, runL (c :: r), 0⟩, (runL (c :: r)).length) else none := by
  unfold word1; simp only; rw [if_pos h]
theorem w1_num {c : UInt8} {r : List UInt8} (h : cls c.toNat = 2) : word1 (c :: r) = if numB (runL (c :: r)) then some (⟨4, [], numV (runL (c :: r))⟩, (runL (c :: r)).length) else none := by
  unfold word1; simp only; rw [if_neg (by omega), if_pos h]
theorem w1_text {c : UInt8} {r : List UInt8} (h : cls c.toNat = 3) : word1 (c :: r) = mkW 3 Lib.validD (textL c r) := by
  unfold word1; simp only; rw [if_neg (by omega), if_neg (by omega), if_pos h]; cases textL c r <;> rfl
theorem w1_quot {c : UInt8} {r : List UInt8} (h : cls c.toNat = 4) : word1 (c :: r) = mkW 2 nameB (quotL r) := by
  unfold word1; simp only; rw [if_neg (by omega), if_neg (by omega), if_neg (by omega), if_pos h]; cases quotL r <;> rfl
theorem w1_sign {c : UInt8} {r : List UInt8} (h : cls c.toNat = 5) : word1 (c :: r) = if two (c :: r) then some (⟨5, (c :: r).take 2, 0⟩, 2) else some (⟨5, (c :: r).take 1, 0⟩, 1) := by
  unfold word1; simp only; rw [if_neg (by omega), if_neg (by omega), if_neg (by omega), if_neg (by omega), if_pos h]
theorem w1_none {c : UInt8} {r : List UInt8} (h : cls c.toNat = 0) : word1 (c :: r) = none := by
  unfold word1; simp only; rw [if_neg (by omega), if_neg (by omega), if_neg (by omega), if_neg (by omega), if_neg (by omega)]
/-- Where the reader is lost. -/
structure WoL (B b i : Nat) (w : World) (k : Int) (t : ByteArray) (n : Int) (V : World) : Prop where
  only : w.grownBy V (some B)
  loc : Box4 V (b + 1) k i t n
  old : w.heap.size ≤ b
theorem WoI.lost {B b : Nat} {s : ByteArray} {i : Nat} {w : World} {j : Nat} {k n : Int} {t : ByteArray} {V V' : World} (h : WoI B b s i w j k t n V) (hB : B < b) (hg : V.grownBy V' (some B)) : WoL B b i w k t n V' :=
  ⟨only_trans h.only hg, h.loc.only hg (by omega), h.old⟩
theorem WoL.set2 {B b i : Nat} {w : World} {k n : Int} {t : ByteArray} {V : World} (h : WoL B b i w k t n V) (x : ByteArray) : WoL B b i w k x n (V.setCell ⟨b + 1, 2, none⟩ (.string x)) :=
  ⟨only_setCell h.only (.inr (by have := h.old; simp; omega)) _, h.loc.set2 x, h.old⟩
end Go.Proofs.YtimhhacfjgbomaaGreatDoor
