/-
  BYTES GATHERED BY APPENDS, for the document's answer: what holds of the row behind each.
-/
import Derived.Test.YtimhhacfjgbomaaGreatDoorRname
import Derived.Test.YtimhhacfjgbomaaGreatDoorTells
import Derived.Deep.AppendLies
namespace Go.Proofs.YtimhhacfjgbomaaGreatDoor
set_option linter.unusedSimpArgs false
set_option linter.unusedVariables false
open Go.RowKit Go.Shelf

/-- The bytes so far, in a row of the call's own. -/
structure Acc (w : World) (l : List UInt8) (v : Value) (wr : World) : Prop where
  own : wr.ownsRow w.heap.size 5 1 v l.length (Lib.byteCells l)
  bel : Below w.heap.size w wr
theorem Acc.nil (w : World) : Acc w [] (.slice none 0 0) w := ⟨World.ownsRow_nil _ _ _ _, Below.refl _ _⟩
theorem Acc.next {w : World} {l : List UInt8} {v : Value} {wr w' : World} (h : Acc w l v wr) (hb : Below wr.heap.size wr w') : Acc w l v w' :=
  ⟨h.own.kept (only_of_below hb none) (by by_cases hv : v.ownBlock = none; exact .inl hv; exact .inr hv), h.bel.trans (hb.mono h.bel.size)⟩
/-- Behind an append of bytes that lie in a new block. -/
theorem Acc.more {w : World} {l l' : List UInt8} {v v' : Value} {wr wa w1 : World} {n : Nat} {xs : List Value} (h : Acc w l v wr) (hb : Below wr.heap.size wr wa) (hg : wa.grownBy w1 v.ownBlock) (ho : w1.ownsRow w.heap.size 5 1 v' n xs)
    (hn : n = (l ++ l').length) (hx : xs = Lib.byteCells (l ++ l')) : Acc w (l ++ l') v' w1 := by
  subst hn; subst hx
  refine ⟨ho, ?_⟩
  have h1 := h.bel.trans (hb.mono h.bel.size)
  exact h1.grown hg (by have := h1.size; omega) (fun k hk => (h.own.lt k hk).1)
theorem Acc.room {w : World} {l : List UInt8} {v : Value} {wr : World} (h : Acc w l v wr) (o : Obj) : w.heap.size ≤ (wr.alloc o).heap.size := by have := h.bel.size; simp; omega
/-- The bytes, to be read. -/
theorem Acc.row {w : World} {l : List UInt8} {v : Value} {wr : World} (h : Acc w l v wr) :
    (v = .slice none 0 0 ∧ l = []) ∨ ∃ g c, v = .slice (some ⟨g, 0, none⟩) l.length c ∧ l.length ≤ c ∧ g < wr.heap.size ∧ Lib.Bytes wr g 0 ⟨l.toArray⟩ := by
  have h2 := h.own
  rcases h.own.2 with ⟨rfl, hn⟩ | ⟨g, cap, cur, rfl, hb, hh, hnc, _, _, _⟩
  · exact .inl ⟨rfl, List.eq_nil_of_length_eq_zero hn⟩
  · refine .inr ⟨g, cap, rfl, hnc, (Array.getElem?_eq_some_iff.1 hh).1, fun i hi => ?_⟩
    have hi' : i < l.length := hi
    have := h2.cells (g := g) rfl i (.int .u8 (l[i].toNat : Int)) (by unfold Lib.byteCells; simp [hi'])
    have e : (⟨l.toArray⟩ : ByteArray)[i] = l[i] := rfl
    rw [e]
    simpa [Addr.add_lit] using this
/-- .. put into a string. -/
theorem Acc.str {w : World} {l : List UInt8} {v : Value} {wr : World} (h : Acc w l v wr) : (convert 43 9 v).run Tryz.prog wr = .ok (.string ⟨l.toArray⟩) wr := by
  rcases h.row with ⟨rfl, rfl⟩ | ⟨g, c, rfl, _, _, hb⟩
  · kernel_rfl
  · exact Lib.run_convert_whole wr 43 5 9 Tryz.underlying43 Tryz.underlying5 Tryz.underlying9 g 0 ⟨l.toArray⟩ hb c
theorem cells_new (w : World) (cs : List Value) (t : TypeId) : ∀ j u, cs[j]? = some u → (w.alloc (.cells cs.toArray t)).cell? ((⟨w.heap.size, 0, none⟩ : Addr).add j) = some u := fun j u hu =>
  World.news_of_block (new_at w (.cells cs.toArray t)) j u (by simpa using hu)
theorem all_int {l : List Int} {k : IntKind} : ∀ u ∈ l.map (Value.int k), u.oneCell' = true := by
  intro u hu
  obtain ⟨x, _, rfl⟩ := List.mem_map.1 hu
  rfl
end Go.Proofs.YtimhhacfjgbomaaGreatDoor
