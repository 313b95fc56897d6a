/-
  FOR THE WALK OF value.Check: what its loop knows, and how it is left.
-/
import Derived.Test.YtlokoepljmlcgaaDoorCheckD
import Derived.Test.YtlokoepljmlcgaaDoorIter
namespace Go.Proofs.YtlokoepljmlcgaaDoor
set_option linter.unusedSimpArgs false
set_option linter.unusedVariables false
open Go.RowKit Go.Shelf

/-- How many bytes a value alone has. -/
def bytesE (e : Nat × Nd × Fo) : Nat := e.2.1.t.size + (e.2.1.ks.map (·.size)).sum
def bytesL (xs : List (Nat × Nd × Fo)) : Nat := (xs.map bytesE).sum
/-- Is one of them too deep, too long, or are they too great together? (As the loop asks it.) -/
def overStep (s : Nat × Bool) (e : Nat × Nd × Fo) : Nat × Bool := (s.1 + bytesE e, s.2 || (decide (64 < e.1) || decide (65536 < e.2.1.ll) || decide (1048576 < s.1 + bytesE e)))
def overL (xs : List (Nat × Nd × Fo)) : Bool := (xs.foldl overStep (0, false)).2
theorem bytesL_snoc (xs : List (Nat × Nd × Fo)) (e : Nat × Nd × Fo) : bytesL (xs ++ [e]) = bytesL xs + bytesE e := by simp [bytesL]
theorem over_fst : ∀ (xs : List (Nat × Nd × Fo)) (s : Nat × Bool), (xs.foldl overStep s).1 = s.1 + bytesL xs
  | [], s => by simp [bytesL]
  | e :: xs, s => by rw [List.foldl_cons, over_fst xs]; simp [overStep, bytesL]; omega
theorem overL_snoc (xs : List (Nat × Nd × Fo)) (e : Nat × Nd × Fo) : overL (xs ++ [e]) = (overL xs || (decide (64 < e.1) || decide (65536 < e.2.1.ll) || decide (1048576 < bytesL xs + bytesE e))) := by
  unfold overL
  rw [List.foldl_append]
  have h := over_fst xs (0, false)
  simp only [Nat.zero_add] at h
  simp only [List.foldl_cons, List.foldl_nil, overStep, h]

abbrev Elem (xs : List (Nat × Nd × Fo)) := { e : Nat × Nd × Fo // e ∈ xs }
def encE {xs : List (Nat × Nd × Fo)} (e : Elem xs) : Array Value := encV e.1
def vals {xs : List (Nat × Nd × Fo)} (l : List (Elem xs)) : List (Nat × Nd × Fo) := l.map (·.1)
theorem vals_snoc {xs : List (Nat × Nd × Fo)} (l : List (Elem xs)) (e : Elem xs) : vals (l ++ [e]) = vals l ++ [e.1] := by simp [vals]
theorem vals_attach (xs : List (Nat × Nd × Fo)) : vals xs.attach = xs := List.attach_map_subtype_val xs
theorem enc_attach (xs : List (Nat × Nd × Fo)) : xs.attach.map encE = xs.map encV := by
  conv => rhs; rw [← vals_attach xs]
  simp [vals, encE]
theorem bytesL_append (a b : List (Nat × Nd × Fo)) : bytesL (a ++ b) = bytesL a + bytesL b := by simp [bytesL]
theorem bytesL_prefix {a b : List (Nat × Nd × Fo)} (h : a <+: b) : bytesL a ≤ bytesL b := by obtain ⟨c, rfl⟩ := h; rw [bytesL_append]; omega

/-- What is known between two rounds, and within one. -/
structure Chk (n₀ : Nat) (W : World) (by_ : Int) (ov : Bool) (wr : World) : Prop where
  e : Boxed wr (n₀ + 1) 41 (.int .i64 0)
  b : Boxed wr (n₀ + 2) 3 (.int .i64 by_)
  o : Boxed wr (n₀ + 3) 4 (.bool ov)
  bl : Below n₀ W wr
/-- What is known within a round, of the value it is handed. -/
structure Bd (n₀ B : Nat) (W W2 : World) (x : Nd) (Bx : Nat) (by_ : Int) (ov : Bool) (wr : World) : Prop extends Chk n₀ W by_ ov wr where
  c3 : wr.cell? ⟨Bx, 3, none⟩ = some (.string x.t)
  c4 : wr.cell? ⟨Bx, 4, none⟩ = some (.slice x.ka x.kl x.kc)
  c5 : wr.cell? ⟨Bx, 5, none⟩ = some (.slice x.la x.ll x.lc)
  keys : x.Keys n₀ wr
  kf : KeepsFrom B W2 wr
  kb : Kb n₀ (n₀ + 4) W2 wr
  hn : n₀ + 4 ≤ Bx
theorem boxed_below {w w' : World} {b : Nat} {t : TypeId} {v : Value} (h : Boxed w b t v) (hb : Below w.heap.size w w') : Boxed w' b t v := (hb.block b h.lt).trans h
theorem cell_lt {w : World} {p : Addr} {v : Value} (h : w.cell? p = some v) : p.block < w.heap.size := by
  obtain ⟨o, ho, _⟩ := cells_of_cell h
  exact (Array.getElem?_eq_some_iff.1 ho).1
theorem cell_below {w w' : World} {p : Addr} {v : Value} (h : w.cell? p = some v) (hb : Below w.heap.size w w') : w'.cell? p = some v := (hb.cell (cell_lt h)).trans h
theorem KeepsFrom.below {B : Nat} {w w' : World} (hb : Below w.heap.size w w') : KeepsFrom B w w' := ⟨hb.size, fun k _ _ hk _ => (hb.block k (Array.getElem?_eq_some_iff.1 hk).1).trans hk⟩
theorem Chk.le {n₀ : Nat} {W : World} {by_ : Int} {ov : Bool} {wr : World} (h : Chk n₀ W by_ ov wr) : n₀ + 4 ≤ wr.heap.size := h.o.lt
theorem Chk.next {n₀ : Nat} {W : World} {by_ : Int} {ov : Bool} {wr w' : World} (h : Chk n₀ W by_ ov wr) (hb : Below wr.heap.size wr w') : Chk n₀ W by_ ov w' :=
  ⟨boxed_below h.e hb, boxed_below h.b hb, boxed_below h.o hb, h.bl.trans (hb.mono (by have := h.le; omega))⟩
theorem Bd.next {n₀ B : Nat} {W W2 : World} {x : Nd} {Bx : Nat} {by_ : Int} {ov : Bool} {wr w' : World} (h : Bd n₀ B W W2 x Bx by_ ov wr) (hb : Below wr.heap.size wr w') : Bd n₀ B W W2 x Bx by_ ov w' :=
  { h.toChk.next hb with
    c3 := cell_below h.c3 hb, c4 := cell_below h.c4 hb, c5 := cell_below h.c5 hb
    keys := h.keys.keep (Cellsy.of_below (hb.mono (by have := h.le; omega)))
    kf := h.kf.trans (KeepsFrom.below hb), kb := h.kb.trans (Kb.below hb (Nat.le_refl _)), hn := h.hn }
theorem Kb.set {n₀ n₁ : Nat} (A : World) {p : Addr} (v : Value) (h0 : n₀ ≤ p.block) (h1 : p.block < n₁) : Kb n₀ n₁ A (A.setCell p v) :=
  ⟨(KeepsWalks.setCell A p v).size, fun k o hk _ hn => (Below.heap_setCell A p v k (by omega)).trans hk⟩
theorem cell_set_other {w : World} {p q : Addr} {u v : Value} (h : w.cell? p = some v) (hne : p.block ≠ q.block) : (w.setCell q u).cell? p = some v :=
  (World.cell?_of_block (Below.heap_setCell w q u p.block hne)).trans h
theorem Bd.setB {n₀ B : Nat} {W W2 : World} {x : Nd} {Bx : Nat} {by_ : Int} {ov : Bool} {wr : World} (h : Bd n₀ B W W2 x Bx by_ ov wr) (v : Int) : Bd n₀ B W W2 x Bx v ov (wr.setCell ⟨n₀ + 2, 0, none⟩ (.int .i64 v)) where
  e := h.e.other (by omega) _
  b := h.b.set _
  o := h.o.other (by omega) _
  bl := h.bl.setCell (p := ⟨n₀ + 2, 0, none⟩) (by simp) _
  c3 := cell_set_other h.c3 (by have := h.hn; simp; omega)
  c4 := cell_set_other h.c4 (by have := h.hn; simp; omega)
  c5 := cell_set_other h.c5 (by have := h.hn; simp; omega)
  keys := h.keys.keep (fun p u hp hu => cell_set_other hu (by simp; omega))
  kf := h.kf.trans ((KeepsOthers.setCell _ _ _).from _)
  kb := h.kb.trans (Kb.set _ _ (by simp) (by simp))
  hn := h.hn
theorem Bd.setO {n₀ B : Nat} {W W2 : World} {x : Nd} {Bx : Nat} {by_ : Int} {ov : Bool} {wr : World} (h : Bd n₀ B W W2 x Bx by_ ov wr) (v : Bool) : Bd n₀ B W W2 x Bx by_ v (wr.setCell ⟨n₀ + 3, 0, none⟩ (.bool v)) where
  e := h.e.other (by omega) _
  b := h.b.other (by omega) _
  o := h.o.set _
  bl := h.bl.setCell (p := ⟨n₀ + 3, 0, none⟩) (by simp) _
  c3 := cell_set_other h.c3 (by have := h.hn; simp; omega)
  c4 := cell_set_other h.c4 (by have := h.hn; simp; omega)
  c5 := cell_set_other h.c5 (by have := h.hn; simp; omega)
  keys := h.keys.keep (fun p u hp hu => cell_set_other hu (by simp; omega))
  kf := h.kf.trans ((KeepsOthers.setCell _ _ _).from _)
  kb := h.kb.trans (Kb.set _ _ (by simp) (by simp))
  hn := h.hn
theorem chk_own {β : Type} (n₀ B : Nat) (W : World) (f : β → Int) (g : β → Bool) (h1 : n₀ ≤ W.heap.size) (h2 : n₀ ≤ B) : OwnFrom B (fun (s : β) w => Chk n₀ W (f s) (g s) w) := fun s X Y row hs hg hr =>
  ⟨boxed_own (n₀ + 1) 41 (fun (_ : Unit) => Value.int .i64 0) () X Y row hs.e hg (fun r e => (hr r e).2),
   boxed_own (n₀ + 2) 3 (fun (_ : Unit) => Value.int .i64 (f s)) () X Y row hs.b hg (fun r e => (hr r e).2),
   boxed_own (n₀ + 3) 4 (fun (_ : Unit) => Value.bool (g s)) () X Y row hs.o hg (fun r e => (hr r e).2),
   ownFrom_below (β := Unit) h1 h2 () X Y row hs.bl hg hr⟩
theorem cells_own {x : Nd} {Bx : Nat} {X Y : World} {row : Option Nat} (h : x.Cells X Bx 0) (hg : X.grownBy Y row) (hr : ∀ r, row = some r → ∃ o : Obj, X.heap[r]? = some o ∧ o.isCells = false) : x.Cells Y Bx 0 :=
  ⟨cell_kept h.1 hg hr, cell_kept h.2.1 hg hr, cell_kept h.2.2.1 hg hr, cell_kept h.2.2.2.1 hg hr, cell_kept h.2.2.2.2.1 hg hr, cell_kept h.2.2.2.2.2 hg hr⟩

/-- What Check answers. -/
def checkV (x : Nd) (c : Fo) : Int := if (Nd.pre 1 x c).all (fun e => mayB e.2.1) then (if overL (Nd.pre 1 x c) then 3 else 0) else 110
end Go.Proofs.YtlokoepljmlcgaaDoor
