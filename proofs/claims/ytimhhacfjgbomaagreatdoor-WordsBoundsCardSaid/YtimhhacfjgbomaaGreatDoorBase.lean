/-
  THE WALKS' GROUND OF LAYER 3: the library's variables as they were laid, carried along; frames; the reader in memory.
-/
import Derived.Test.YtimhhacfjgbomaaGreatDoorShelf
import Derived.Test.YtimhhacfjgbomaaGreatDoorLib
import Derived.Test.YtimhhacfjgbomaaGreatDoorWordsP
import Derived.Below
import Derived.Lib.AppendIntMem
import Derived.Laws.AppendOwn
import Derived.Deep.DeepFit
namespace Go.Proofs.YtimhhacfjgbomaaGreatDoor
set_option linter.unusedSimpArgs false
set_option linter.unusedVariables false
open Go.RowKit Go.Shelf

/-- What holds where the law begins. -/
structure Laid (W : World) : Prop where
  maxLen : ∃ m : Int, W.cell? ⟨2, 0, none⟩ = some (.int .i64 m)
  utf8 : Lib.Utf8Tabs 0 1 W
  errS : ∃ ev, W.cell? ⟨7, 0, none⟩ = some ev ∧ (ev = .nilIface ∨ ∃ te pe, ev = .iface te pe)
  errR : ∃ ev, W.cell? ⟨8, 0, none⟩ = some ev ∧ (ev = .nilIface ∨ ∃ te pe, ev = .iface te pe)
  pow10 : Lib.TabIs Tryz.prog W "internal/strconv.uint64pow10" .u64 Lib.pow10Tab
/-- It holds still: the law began with a memory of n₀ blocks, and they lie as they lay. -/
def Env (n₀ : Nat) (w : World) : Prop := ∃ W, W.heap.size = n₀ ∧ Laid W ∧ Below n₀ W w
theorem Env.start {W : World} (h : Laid W) : Env W.heap.size W := ⟨W, rfl, h, Below.refl _ _⟩
theorem Env.next {n₀ : Nat} {w w' : World} (h : Env n₀ w) (hb : Below n₀ w w') : Env n₀ w' := by
  obtain ⟨W, h1, h2, h3⟩ := h
  exact ⟨W, h1, h2, h3.trans hb⟩
theorem Env.le {n₀ : Nat} {w : World} (h : Env n₀ w) : n₀ ≤ w.heap.size := by
  obtain ⟨W, h1, _, h3⟩ := h
  have := h3.size; omega
theorem Env.below {n₀ : Nat} {w w' : World} (h : Env n₀ w) (hb : Below w.heap.size w w') : Env n₀ w' := h.next (hb.mono h.le)
theorem Env.maxLen {n₀ : Nat} {w : World} (h : Env n₀ w) : ∃ m : Int, w.cell? ⟨2, 0, none⟩ = some (.int .i64 m) := by
  obtain ⟨W, h1, h2, h3⟩ := h
  obtain ⟨m, hm⟩ := h2.maxLen
  refine ⟨m, ?_⟩
  rw [h3.cell (p := ⟨2, 0, none⟩) (by rw [← h1]; exact World.block_lt_of_cell? W ⟨2, 0, none⟩ hm)]
  exact hm
theorem Env.errS {n₀ : Nat} {w : World} (h : Env n₀ w) : ∃ ev, w.cell? ⟨7, 0, none⟩ = some ev ∧ (ev = .nilIface ∨ ∃ te pe, ev = .iface te pe) := by
  obtain ⟨W, h1, h2, h3⟩ := h
  obtain ⟨m, hm, he⟩ := h2.errS
  exact ⟨m, (h3.cell (p := ⟨7, 0, none⟩) (by rw [← h1]; exact World.block_lt_of_cell? W ⟨7, 0, none⟩ hm)).trans hm, he⟩
theorem Env.errR {n₀ : Nat} {w : World} (h : Env n₀ w) : ∃ ev, w.cell? ⟨8, 0, none⟩ = some ev ∧ (ev = .nilIface ∨ ∃ te pe, ev = .iface te pe) := by
  obtain ⟨W, h1, h2, h3⟩ := h
  obtain ⟨m, hm, he⟩ := h2.errR
  exact ⟨m, (h3.cell (p := ⟨8, 0, none⟩) (by rw [← h1]; exact World.block_lt_of_cell? W ⟨8, 0, none⟩ hm)).trans hm, he⟩
theorem Env.pow10 {n₀ : Nat} {w : World} (h : Env n₀ w) : Lib.TabIs Tryz.prog w "internal/strconv.uint64pow10" .u64 Lib.pow10Tab := by
  obtain ⟨W, h1, h2, h3⟩ := h
  exact Lib.tabBelow_of_tabIs h2.pow10 w (by rw [h1]; exact h3)
theorem Env.drew {n₀ : Nat} {w : World} (h : Env n₀ w) (n : Nat) : Env n₀ (w.drewN n) := h.next (bdrewN (Below.refl _ _) n)

/-- Frames: only block g has turned, and what is new. -/
theorem only_refl (w : World) (row : Option Nat) : w.grownBy w row := ⟨rfl, rfl, rfl, Nat.le_refl _, fun _ _ _ => rfl⟩
theorem only_drewN {a w : World} {row : Option Nat} (h : a.grownBy w row) (n : Nat) : a.grownBy (w.drewN n) row := ⟨h.os, h.tape, h.output, h.size, h.block⟩
theorem only_drew {a w : World} {row : Option Nat} (h : a.grownBy w row) : a.grownBy w.drew row := ⟨h.os, h.tape, h.output, h.size, h.block⟩
theorem only_alloc {a w : World} {row : Option Nat} (h : a.grownBy w row) (o : Obj) : a.grownBy (w.alloc o) row :=
  ⟨h.os, h.tape, h.output, Nat.le_trans h.size (by simp), fun i hi hne => (Below.heap_alloc w o i (Nat.lt_of_lt_of_le hi h.size)).trans (h.block i hi hne)⟩
theorem only_setCell {a w : World} {g : Nat} (h : a.grownBy w (some g)) {p : Addr} (hp : p.block = g ∨ a.heap.size ≤ p.block) (u : Value) : a.grownBy (w.setCell p u) (some g) :=
  ⟨h.os, h.tape, h.output, by simpa [World.setCell] using h.size, fun i hi hne => (Below.heap_setCell w p u i (by
    rintro rfl
    rcases hp with hp | hp
    · exact hne (by rw [hp])
    · omega)).trans (h.block i hi hne)⟩
theorem only_of_below {a w : World} (h : Below a.heap.size a w) (row : Option Nat) : a.grownBy w row := ⟨h.os, h.tape, h.output, h.size, fun i hi _ => h.block i hi⟩
theorem only_trans {a b c : World} {row : Option Nat} (h : a.grownBy b row) (k : b.grownBy c row) : a.grownBy c row :=
  ⟨k.os.trans h.os, k.tape.trans h.tape, k.output.trans h.output, Nat.le_trans h.size k.size, fun i hi hne => (k.block i (Nat.lt_of_lt_of_le hi h.size) hne).trans (h.block i hi hne)⟩
theorem only_below {a b : World} {g n : Nat} (h : a.grownBy b (some g)) (hn : n ≤ g) (hz : n ≤ a.heap.size) : Below n a b :=
  ⟨h.os, h.tape, h.output, h.size, fun i hi => h.block i (by omega) (by intro e; cases e; omega)⟩
theorem Env.only {n₀ g : Nat} {w w' : World} (h : Env n₀ w) (hg : w.grownBy w' (some g)) (hn : n₀ ≤ g) : Env n₀ w' := h.next (only_below hg hn h.le)

/-- The reader in memory. -/
def Rd (w : World) (B : Nat) (s : ByteArray) (i : Nat) : Prop := w.heap[B]? = some (.cells #[.string s, .int .i64 i] 94 (0, 0))
theorem Rd.lt {w : World} {B : Nat} {s : ByteArray} {i : Nat} (h : Rd w B s i) : B < w.heap.size := (Array.getElem?_eq_some_iff.1 h).1
theorem Rd.s {w : World} {B : Nat} {s : ByteArray} {i : Nat} (h : Rd w B s i) : w.cell? ⟨B, 0, none⟩ = some (.string s) := by unfold Rd at h; simp [World.cell?, h]
theorem Rd.at_ {w : World} {B : Nat} {s : ByteArray} {i : Nat} (h : Rd w B s i) : w.cell? ⟨B, 1, none⟩ = some (.int .i64 i) := by unfold Rd at h; simp [World.cell?, h]
theorem Rd.fr {w : World} {B : Nat} {s : ByteArray} {i : Nat} (h : Rd w B s i) (o : Nat) : w.frozen? ⟨B, o, none⟩ = false := by unfold Rd at h; simp [World.frozen?, h]
theorem Rd.next {w w' : World} {B : Nat} {s : ByteArray} {i : Nat} (h : Rd w B s i) (hb : Below w.heap.size w w') : Rd w' B s i := (hb.block B h.lt).trans h
theorem Rd.drew {w : World} {B : Nat} {s : ByteArray} {i : Nat} (h : Rd w B s i) (n : Nat) : Rd (w.drewN n) B s i := h
theorem Rd.set {w : World} {B : Nat} {s : ByteArray} {i : Nat} (h : Rd w B s i) (j : Nat) : Rd (w.setCell ⟨B, 1, none⟩ (.int .i64 j)) B s j := by
  unfold Rd at *
  obtain ⟨hlt, hk⟩ := Array.getElem?_eq_some_iff.1 h
  show (w.heap.modify B _)[B]? = _
  rw [Array.getElem?_eq_getElem (by rw [Array.size_modify]; exact hlt), Array.getElem_modify_self, hk]
  rfl
end Go.Proofs.YtimhhacfjgbomaaGreatDoor
