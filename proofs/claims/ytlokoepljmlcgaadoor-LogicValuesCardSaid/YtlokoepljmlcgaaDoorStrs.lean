/-
  WALKS: strings.Compare, slices.Equal of texts (laid on the shelf's); truths.
-/
import Derived.Test.YtlokoepljmlcgaaDoorEqu
import Derived.Shelf.Small.Strs
import Derived.Shelf.Slices.Equal
import Derived.Shelf.Slices.Empties2
import Derived.Maps.Own
import Derived.Maps.OwnOps
namespace Go.Proofs.YtlokoepljmlcgaaDoor
set_option linter.unusedSimpArgs false
set_option linter.unusedVariables false
open Go.RowKit Go.Shelf Go.Maps

def Tryd.cmp_ren : Ren := ⟨fun | 106 => 72 | 213 => 79 | 265 => 83 | n => n, fun | 3 => 3 | 9 => 9 | n => n, fun n => n⟩
theorem Tryd.cmp_lays : Lays.n106 Tryd.prog Tryd.cmp_ren := {
  mixed := by kernel_rfl
  f106 := Tryd.func72.trans (congrArg some (by kernel_rfl))
  f213 := Tryd.func79.trans (congrArg some (by kernel_rfl))
  f265 := Tryd.func83.trans (congrArg some (by kernel_rfl))
  t3 := Tryd.underlying3
  a3 := Tryd.isAgg3
  z3 := Tryd.sizeOf3
  v3 := Tryd.zeroValue3
  t9 := Tryd.underlying9
  a9 := Tryd.isAgg9
  z9 := Tryd.sizeOf9
  v9 := Tryd.zeroValue9 }
theorem scompare_any (a b : ByteArray) (w : World) : Calls Tryd.prog 72 #[.string a, .string b] w fun e w' => e = .returned (.int .i64 (Lib.compareBytes a.data.toList b.data.toList)) ∧ w' = w := Any.strings_Compare Tryd.cmp_lays a b w

def Tryd.seq_ren : Ren := ⟨fun | 193 => 65 | n => n, fun | 0 => 0 | 3 => 3 | 4 => 4 | 9 => 9 | 31 => 27 | n => n, fun n => n⟩
theorem Tryd.seq_lays : Lays.n193 Tryd.prog Tryd.seq_ren := {
  mixed := by kernel_rfl
  f193 := Tryd.func65.trans (congrArg some (by kernel_rfl))
  t0 := Tryd.underlying0
  a0 := Tryd.isAgg0
  z0 := Tryd.sizeOf0
  v0 := Tryd.zeroValue0
  t3 := Tryd.underlying3
  a3 := Tryd.isAgg3
  z3 := Tryd.sizeOf3
  v3 := Tryd.zeroValue3
  t4 := Tryd.underlying4
  a4 := Tryd.isAgg4
  z4 := Tryd.sizeOf4
  v4 := Tryd.zeroValue4
  t9 := Tryd.underlying9
  a9 := Tryd.isAgg9
  z9 := Tryd.sizeOf9
  v9 := Tryd.zeroValue9
  t31 := Tryd.underlying27
  a31 := Tryd.isAgg27
  z31 := Tryd.sizeOf27
  v31 := Tryd.zeroValue27 }
/-- Are two values' keys the same? -/
theorem sequal_any {n₀ : Nat} {W : World} (x y : Nd) (hx : x.Keys n₀ W) (hy : y.Keys n₀ W) (hk : x.kl ≤ 1099511627776) (hk' : y.kl ≤ 1099511627776) :
    Calls Tryd.prog 65 #[.slice x.ka x.kl x.kc, .slice y.ka y.kl y.kc] W fun e w' => e = .returned (.bool (decide (x.ks = y.ks))) ∧ Below W.heap.size W w' := by
  have hget : ∀ (l : List ByteArray) (j : Nat) (hj : j < l.length), l[j]? = some (l.getD j ByteArray.empty) := fun l j hj => by simp [List.getD, hj]
  by_cases hl : x.kl = y.kl
  · rcases hx.2 with h0 | ⟨b, o, ha, _, hc⟩
    · have h1 : x.kl = 0 := by rw [hx.1, h0]; rfl
      have h2 : y.ks = [] := by apply List.eq_nil_of_length_eq_zero; rw [← hy.1, ← hl, h1]
      rw [h1, h0, h2, ← hl, h1]
      refine (Any.slices_Equal_string_empty Tryd.seq_lays x.ka y.ka x.kc 0 y.kc W (by omega)).mono ?_
      rintro e w' ⟨rfl, rfl⟩
      exact ⟨retB (by simp), Below.refl _ _⟩
    · rcases hy.2 with h0 | ⟨b', o', ha', _, hc'⟩
      · have h1 : y.kl = 0 := by rw [hy.1, h0]; rfl
        have h2 : x.ks = [] := by apply List.eq_nil_of_length_eq_zero; rw [← hx.1, hl, h1]
        rw [hl, h1, h0, h2]
        refine (Any.slices_Equal_string_empty Tryd.seq_lays x.ka y.ka x.kc 0 y.kc W (by omega)).mono ?_
        rintro e w' ⟨rfl, rfl⟩
        exact ⟨retB (by simp), Below.refl _ _⟩
      · rw [ha, ha']
        refine (Any.slices_Equal_string Tryd.seq_lays b o x.kl x.kc b' o' y.kl y.kc x.ks y.ks W (Nat.le_of_eq hx.1) (Nat.le_of_eq hy.1) (by omega) (by omega) (fun j hj => hc j _ (hget _ _ hj)) (fun j hj => hc' j _ (hget _ _ hj))).mono ?_
        rintro e w' ⟨rfl, q, rfl⟩
        exact ⟨retB (by rw [hx.1, hy.1, List.take_length, List.take_length]), bdrewN (Below.refl _ _) q⟩
  · refine (Any.slices_Equal_string_lens Tryd.seq_lays x.ka y.ka x.kl x.kc y.kl y.kc W hl).mono ?_
    rintro e w' ⟨rfl, rfl⟩
    have : x.ks ≠ y.ks := fun h => hl (by rw [hx.1, hy.1, h])
    exact ⟨retB (by simp [this]), Below.refl _ _⟩
end Go.Proofs.YtlokoepljmlcgaaDoor
