/-
  PLAIN LAW: the numbers of a range are a step apart, within it; what comes behind the last.
-/
import Derived.Test.YtlokoepljmlcgaaDoorRange
namespace Go.Proofs.YtlokoepljmlcgaaDoor
set_option linter.unusedSimpArgs false
set_option linter.unusedVariables false
open Go.RowKit

theorem rgo_spec (to step : Int) : ∀ (f : Nat) (n : Int) (l : List Int), rgo to step f n = some l → In64 n →
    l.length ≤ f ∧ (∀ i, i < l.length → l.getD i 0 = n + i * step ∧ past to step (n + i * step) = false ∧ In64 (n + i * step)) ∧ (past to step (n + l.length * step) = true ∨ (l ≠ [] ∧ fits (n + l.length * step) = false))
  | 0, n, l, h, hn => by
    by_cases hp : past to step n = true
    · rw [rgo_past hp] at h
      cases h
      exact ⟨Nat.le_refl _, fun i hi => absurd hi (Nat.not_lt_zero i), .inl (by simpa using hp)⟩
    · rw [rgo_zero (by simpa using hp)] at h; cases h
  | f + 1, n, l, h, hn => by
    by_cases hp : past to step n = true
    · rw [rgo_past hp] at h
      cases h
      exact ⟨Nat.zero_le _, fun i hi => absurd hi (Nat.not_lt_zero i), .inl (by simpa using hp)⟩
    · have hp' : past to step n = false := by simpa using hp
      by_cases hf : fits (n + step) = true
      · rw [rgo_more hp' hf] at h
        cases hr : rgo to step f (n + step) with
        | none => rw [hr] at h; cases h
        | some r =>
          rw [hr] at h
          simp only [Option.map_some, Option.some.injEq] at h
          subst h
          obtain ⟨h1, h2, h3⟩ := rgo_spec to step f (n + step) r hr (fl hf)
          refine ⟨by simp; omega, fun i hi => ?_, ?_⟩
          · cases i with
            | zero => simpa using ⟨hp', hn⟩
            | succ i =>
              obtain ⟨a, b, c⟩ := h2 i (by simpa using hi)
              have e : n + ((i + 1 : Nat) : Int) * step = n + step + (i : Int) * step := by
                have : ((i + 1 : Nat) : Int) = (i : Int) + 1 := by simp
                rw [this, Int.add_mul, Int.one_mul]; omega
              rw [e]
              exact ⟨by simpa using a, b, c⟩
          · have e : n + ((r.length + 1 : Nat) : Int) * step = n + step + (r.length : Int) * step := by
              have : ((r.length + 1 : Nat) : Int) = (r.length : Int) + 1 := by simp
              rw [this, Int.add_mul, Int.one_mul]; omega
            rw [List.length_cons, e]
            rcases h3 with h3 | ⟨h3, h4⟩
            · exact .inl h3
            · exact .inr ⟨by simp, h4⟩
      · have hf' : fits (n + step) = false := by simpa using hf
        rw [rgo_last hp' hf'] at h
        cases h
        refine ⟨by simp, fun i hi => ?_, .inr ⟨by simp, by simpa using hf'⟩⟩
        have : i = 0 := by simpa using hi
        subst this
        simpa using ⟨hp', hn⟩
end Go.Proofs.YtlokoepljmlcgaaDoor
