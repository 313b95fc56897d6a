/-
  A SLICE OF INTEGERS THAT CAME IN, COPIED, with one more behind: what is known of it.
-/
import Derived.Test.YtlokoepljmlcgaaDoorWorks
import Derived.Laws.AppendOwnNone
namespace Go.Proofs.YtlokoepljmlcgaaDoor
set_option linter.unusedSimpArgs false
set_option linter.unusedVariables false
open Go.RowKit

/-- A slice of integers that came in, read: its elements. -/
theorem row_of {k : IntKind} {w : World} {a : Option Addr} {len cap : Nat} {zs : List Int} (h : IsRow k w a len cap zs) : RowAt w a k (zs.take len) ∧ (zs.take len).length = len ∧ len ≤ cap := by
  rcases h with ⟨rfl, rfl, rfl, rfl⟩ | ⟨x, rfl, hl, hm, hz, hc, hw⟩
  · exact ⟨.inl rfl, rfl, Nat.le_refl _⟩
  · refine ⟨?_, by simp; omega, hl⟩
    obtain ⟨b, o, s⟩ := x
    by_cases h0 : len = 0
    · subst h0; exact .inl rfl
    · have hc0 := hc 0 (by omega)
      have hs : s = none := by simpa [Addr.add] using World.cell?_spot hc0
      subst hs
      refine .inr ⟨b, o, rfl, fun i hi => ?_⟩
      simp at hi
      have := hc i (by omega)
      simp only [Addr.add_lit] at this
      rw [this]
      simp [List.getD_eq_getElem?_getD, show i < len by omega]
theorem wf_of {k : IntKind} {w : World} {a : Option Addr} {len cap : Nat} {zs : List Int} (h : IsRow k w a len cap zs) : ∀ n ∈ zs.take len, (Lit.int k n).wf = true := by
  rcases h with ⟨rfl, rfl, rfl, rfl⟩ | ⟨x, rfl, hl, hm, hz, hc, hw⟩
  · intro n hn; simp at hn
  · intro n hn; exact hw n (List.mem_of_mem_take hn)
/-- The cells behind an address, as an append asks for them. -/
theorem RowAt.news {w : World} {x : Addr} {k : IntKind} {zs : List Int} (h : RowAt w (some x) k zs) : ∀ j u, (zs.map (Value.int k))[j]? = some u → w.cell? (x.add j) = some u := by
  intro j u hj
  rcases h with h | ⟨b, o, hx, hc⟩
  · subst h; simp at hj
  · cases hx
    have hlt : j < zs.length := by
      rcases Nat.lt_or_ge j zs.length with h | h
      · exact h
      · simp [h] at hj
    rw [Addr.add_lit, hc j hlt]
    simp [hlt] at hj
    simp [hlt, hj]
theorem ints_oneCell {k : IntKind} {zs : List Int} : ∀ u ∈ zs.map (Value.int k), u.oneCell' = true := by
  intro u hu; obtain ⟨z, _, rfl⟩ := List.mem_map.1 hu; rfl
/-- An owned row that is not empty: its cells. -/
theorem owns_pos {w : World} {base : Nat} {e : TypeId} {v : Value} {n : Nat} {k : IntKind} {zs : List Int} (h : w.ownsRow base e 1 v n (zs.map (Value.int k))) (hn : n ≠ 0) :
    ∃ g cap, v = .slice (some ⟨g, 0, none⟩) n cap ∧ n ≤ cap ∧ ∀ i, i < zs.length → w.cell? ⟨g, 0 + i, none⟩ = some (.int k (zs.getD i 0)) := by
  have h2 := h
  rcases h.2 with ⟨rfl, h0⟩ | ⟨g, cap, cur, rfl, hb, hh, hnc, hcm, hcs, ht⟩
  · exact absurd h0 hn
  · refine ⟨g, cap, rfl, hnc, fun i hi => ?_⟩
    have := h2.cells (g := g) rfl i (Value.int k (zs.getD i 0)) (by simp [hi])
    simpa [Addr.add_lit] using this

/-- A row of the call's own: so many numbers that came in, and one more behind them. -/
def Copied (w wx : World) (n : Nat) (zs : List Int) (k : IntKind) (q : Int) (v : Value) : Prop :=
  ∃ g cap, v = .slice (some ⟨g, 0, none⟩) n cap ∧ n + 1 ≤ cap ∧ (∀ i, i < n → wx.cell? ⟨g, 0 + i, none⟩ = some (.int k (zs.getD i 0))) ∧ wx.cell? ⟨g, n, none⟩ = some (.int k q) ∧ Below w.heap.size w wx
theorem copied_of {w w2 : World} {base : Nat} {e : TypeId} {a : Option Addr} {c : Nat} {n : Nat} {zs : List Int} {k : IntKind} {q : Int} (h : w2.ownsRow base e 1 (.slice a (n + 1) c) (n + 1) ((zs ++ [q]).map (Value.int k))) (hn : n = zs.length) (hb : Below w.heap.size w w2) :
    (∃ g, a = some ⟨g, 0, none⟩) ∧ n + 1 ≤ c ∧ Copied w w2 n zs k q (.slice a n c) := by
  obtain ⟨g, cap, hv, hle, hc⟩ := owns_pos h (by omega)
  injection hv with h1 h2 h3
  subst h1; subst h3
  refine ⟨⟨g, rfl⟩, hle, g, c, rfl, hle, fun i hi => ?_, ?_, hb⟩
  · rw [hc i (by simp; omega)]; simp [List.getElem?_append_left (show i < zs.length by omega)]
  · have := hc n (by simp; omega)
    rw [Nat.zero_add] at this
    rw [this]; subst hn; simp

end Go.Proofs.YtlokoepljmlcgaaDoor
