/-
  SLICES OF Int VALUES that a call has made: as values; among them.
-/
import Derived.Test.YtlokoepljmlcgaaDoorIn
import Derived.Test.YtlokoepljmlcgaaDoorStepsP
namespace Go.Proofs.YtlokoepljmlcgaaDoor
set_option linter.unusedSimpArgs false
set_option linter.unusedVariables false
open Go.RowKit Go.Shelf

def valCells (z : Int) : List Value := [.int .i64 2, .bool false, .int .i64 z, .string ⟨#[]⟩, .slice none 0 0, .slice none 0 0]
def valsCells (zs : List Int) : List Value := zs.flatMap valCells
theorem valsCells_len : ∀ zs : List Int, (valsCells zs).length = zs.length * 6
  | [] => rfl
  | z :: r => by
    have := valsCells_len r
    simp only [valsCells, List.flatMap_cons, List.length_append, List.length_cons] at *
    rw [this]; simp [valCells]; omega
theorem valsCells_get : ∀ (zs : List Int) (i j : Nat) (u : Value), i < zs.length → j < 6 → (valCells (zs.getD i 0))[j]? = some u → (valsCells zs)[i * 6 + j]? = some u
  | [], i, _, _, h, _, _ => absurd h (Nat.not_lt_zero i)
  | z :: r, 0, j, u, _, hj, h => by
    have h' : (valCells z)[j]? = some u := by simpa using h
    simp only [valsCells, List.flatMap_cons]
    rw [List.getElem?_append_left (by simp [valCells]; omega)]
    simpa using h'
  | z :: r, i + 1, j, u, hi, hj, h => by
    have h' := valsCells_get r i j u (by simpa using hi) hj (by simpa using h)
    simp only [valsCells, List.flatMap_cons]
    rw [List.getElem?_append_right (by simp [valCells]; omega)]
    have e : (i + 1) * 6 + j - (valCells z).length = i * 6 + j := by simp [valCells]; omega
    rw [e]; exact h'
def foInts : List Int → Fo
  | [] => .nil
  | z :: r => .cons (sc 2 false z) .nil (foInts r)
theorem foInts_len : ∀ zs : List Int, (foInts zs).len = zs.length
  | [] => rfl
  | z :: r => by simp [foInts, Fo.len, foInts_len r]
theorem foInts_toL : ∀ zs : List Int, (foInts zs).toL = zs.map fun z => (sc 2 false z, Fo.nil)
  | [] => rfl
  | z :: r => by simp [foInts, Fo.toL, foInts_toL r]
theorem foInts_at {n₀ : Nat} {W : World} {b : Nat} (hb : b < n₀) : ∀ (zs : List Int) (o : Nat), (∀ i, i < zs.length → (sc 2 false (zs.getD i 0)).Cells W b (o + i * 6)) → (foInts zs).At n₀ W b o
  | [], _, _ => trivial
  | z :: r, o, h => by
    refine ⟨⟨hb, by simpa using h 0 (by simp), rfl, .inl rfl⟩, ⟨rfl, .inl rfl⟩, foInts_at hb r (o + 6) (fun i hi => ?_)⟩
    have := h (i + 1) (by simpa using hi)
    rw [show o + (i + 1) * 6 = o + 6 + i * 6 by omega] at this
    simpa using this
theorem vals_of_owns {w : World} {base : Nat} {e : TypeId} {v : Value} {n : Nat} {zs : List Int} (h : w.ownsRow base e 6 v n (valsCells zs)) (hn : n = zs.length) (hm : n ≤ 1048576) :
    ∃ a cap, v = .slice a n cap ∧ Vals w.heap.size w a (foInts zs) := by
  subst hn
  have hsz : ∀ p ∈ (foInts zs).toL, Sized p.1 p.2 := fun p hp => by
    rw [foInts_toL] at hp
    obtain ⟨z, _, rfl⟩ := List.mem_map.1 hp
    exact sized_sc 2 z
  have h2 := h
  rcases h.2 with ⟨rfl, h0⟩ | ⟨g, cap, cur, rfl, hb, hh, hnc, hcm, hcs, ht⟩
  · have : zs = [] := List.eq_nil_of_length_eq_zero h0
    subst this
    exact ⟨none, 0, rfl, .inl rfl, hsz, by rw [foInts_len]; exact hm⟩
  · refine ⟨some ⟨g, 0, none⟩, cap, rfl, .inr ⟨g, 0, rfl, foInts_at (Array.getElem?_eq_some_iff.1 hh).1 zs 0 (fun i hi => ?_)⟩, hsz, by rw [foInts_len]; exact hm⟩
    have hc : ∀ (j : Nat) (u : Value), j < 6 → (valCells (zs.getD i 0))[j]? = some u → w.cell? ⟨g, 0 + i * 6 + j, none⟩ = some u := fun j u hj hu => by
      have := h2.cells (g := g) rfl (i * 6 + j) u (valsCells_get zs i j u hi hj hu)
      rw [Addr.add_lit] at this
      rw [show 0 + i * 6 + j = 0 + (i * 6 + j) by omega]
      exact this
    exact ⟨hc 0 _ (by omega) rfl, hc 1 _ (by omega) rfl, hc 2 _ (by omega) rfl, hc 3 _ (by omega) rfl, hc 4 _ (by omega) rfl, hc 5 _ (by omega) rfl⟩

theorem inF_ints_go (k : Int) : ∀ (zs : List Int) (o : Int), o = 0 ∨ o = 2 → (zs.map fun z => (sc 2 false z, Fo.nil)).foldl (fun o p => mx (mx 0 (pl o)) (pl (eqS 2 k p.1.k p.1.n))) o = if o = 2 ∨ k ∈ zs then 2 else 0
  | [], o, h => by rcases h with rfl | rfl <;> simp
  | z :: r, o, h => by
    simp only [List.map_cons, List.foldl_cons]
    by_cases hk : k = z
    · have e : mx (mx 0 (pl o)) (pl (eqS 2 k (sc 2 false z).k (sc 2 false z).n)) = 2 := by
        rcases h with rfl | rfl <;> simp [eqS, sc, hk, mx, pl]
      rw [e, inF_ints_go k r 2 (.inr rfl)]; simp [hk]
    · have e : mx (mx 0 (pl o)) (pl (eqS 2 k (sc 2 false z).k (sc 2 false z).n)) = o := by
        rcases h with rfl | rfl <;> simp [eqS, sc, hk, mx, pl]
      rw [e, inF_ints_go k r o h]; simp [hk]
theorem inF_ints (k : Int) (zs : List Int) : inF (fun x _ => eqS 2 k x.k x.n) (foInts zs).toL = if k ∈ zs then 2 else 0 := by
  rw [foInts_toL]; unfold inF; rw [inF_ints_go k zs 0 (.inl rfl)]; simp
theorem inF_null_go : ∀ (zs : List Int) (o : Int), o = 0 ∨ o = 1 → (zs.map fun z => (sc 2 false z, Fo.nil)).foldl (fun o p => mx (mx 0 (pl o)) (pl (eqS 0 0 p.1.k p.1.n))) o = if o = 1 ∨ zs ≠ [] then 1 else 0
  | [], o, h => by rcases h with rfl | rfl <;> simp
  | z :: r, o, h => by
    simp only [List.map_cons, List.foldl_cons]
    have e : mx (mx 0 (pl o)) (pl (eqS 0 0 (sc 2 false z).k (sc 2 false z).n)) = 1 := by rcases h with rfl | rfl <;> simp [eqS, mx, pl]
    rw [e, inF_null_go r 1 (.inr rfl)]; simp
theorem inF_null (zs : List Int) : inF (fun x _ => eqS 0 0 x.k x.n) (foInts zs).toL = if zs ≠ [] then 1 else 0 := by
  rw [foInts_toL]; unfold inF; rw [inF_null_go zs 0 (.inl rfl)]; simp

/-- In, of a number among numbers. -/
theorem in_int {w : World} {base : Nat} {e : TypeId} {v : Value} {n : Nat} {zs : List Int} (k : Int) (h : w.ownsRow base e 6 v n (valsCells zs)) (hn : n = zs.length) (hm : n ≤ 1048576) (hT : Lib.Utf8Tabs 0 1 w) :
    Calls Tryd.prog 23 #[(sc 2 false k).val, v] w fun e w' => e = .returned (.int .i64 (if k ∈ zs then 2 else 0)) ∧ Below w.heap.size w w' := by
  obtain ⟨a, cap, rfl, hV⟩ := vals_of_owns h hn hm
  have := in_any (sc 2 false k) n cap hV (by rw [foInts_len]; exact hn) (Nat.le_refl _) (fun x _ => eqS 2 k x.k x.n) (fun x c W' hx hg hb => by
    rw [foInts_toL] at hx
    obtain ⟨z, _, hz⟩ := List.mem_map.1 hx
    cases hz
    exact Equal_sc 2 k 2 z W' (.inr rfl) (.inr rfl) (Utf8Tabs_below hT hb))
  rw [inF_ints] at this
  exact this
theorem in_null {w : World} {base : Nat} {e : TypeId} {v : Value} {n : Nat} {zs : List Int} (h : w.ownsRow base e 6 v n (valsCells zs)) (hn : n = zs.length) (hm : n ≤ 1048576) (hT : Lib.Utf8Tabs 0 1 w) :
    Calls Tryd.prog 23 #[(sc 0 false 0).val, v] w fun e w' => e = .returned (.int .i64 (if zs ≠ [] then 1 else 0)) ∧ Below w.heap.size w w' := by
  obtain ⟨a, cap, rfl, hV⟩ := vals_of_owns h hn hm
  have := in_any (sc 0 false 0) n cap hV (by rw [foInts_len]; exact hn) (Nat.le_refl _) (fun x _ => eqS 0 0 x.k x.n) (fun x c W' hx hg hb => by
    rw [foInts_toL] at hx
    obtain ⟨z, _, hz⟩ := List.mem_map.1 hx
    cases hz
    exact Equal_sc 0 0 2 z W' (.inl ⟨rfl, rfl⟩) (.inr rfl) (Utf8Tabs_below hT hb))
  rw [inF_null] at this
  exact this
theorem six_new (w : World) (z : Int) : ∀ j u, (valCells z)[j]? = some u → (w.alloc (.cells #[.int .i64 2, .bool false, .int .i64 z, .string ⟨#[]⟩, .slice none 0 0, .slice none 0 0] 30)).cell? ((⟨w.heap.size, 0, none⟩ : Addr).add j) = some u := by
  intro j u hj
  rw [Addr.add_lit]
  unfold World.cell?
  rw [World.alloc_heap_new]
  simpa [valCells] using hj
theorem six_one (z : Int) : ∀ u ∈ valCells z, u.oneCell' = true := by
  intro u hu
  simp only [valCells, List.mem_cons, List.mem_nil_iff, or_false] at hu
  rcases hu with rfl | rfl | rfl | rfl | rfl | rfl <;> rfl
theorem Tryd.info30 : (Tryd.prog.info? 30).map (fun i => (i.zero, i.size, i.bytes)) = some (some (.agg #[.int .i64 0, .bool false, .int .i64 0, .string ⟨#[]⟩, .slice none 0 0, .slice none 0 0]), 6, 88) := by kernel_rfl
end Go.Proofs.YtlokoepljmlcgaaDoor
