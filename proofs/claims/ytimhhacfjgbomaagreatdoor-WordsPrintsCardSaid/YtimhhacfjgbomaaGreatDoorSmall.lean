/-
  THE WALK of small: are words few and short enough?
-/
import Derived.Test.YtimhhacfjgbomaaGreatDoorReads
import Derived.Deep.LoopGhost
namespace Go.Proofs.YtimhhacfjgbomaaGreatDoor
set_option linter.unusedSimpArgs false
set_option linter.unusedVariables false
open Go.RowKit Go.Shelf

/-- The texts' sizes, none counted for more than 4001. -/
def cut4 (l : List Gw) : Nat := (l.map fun g => min g.t.size 4001).sum
theorem cut4_next {l : List Gw} {j : Nat} {g : Gw} (h : l[j]? = some g) : cut4 (l.take (j + 1)) = cut4 (l.take j) + min g.t.size 4001 := by
  unfold cut4
  rw [List.take_add_one, h]
  simp
theorem cut4_le (l : List Gw) : cut4 l ≤ 4001 * l.length := by
  unfold cut4
  induction l with
  | nil => simp
  | cons g l ih => simp only [List.map_cons, List.sum_cons, List.length_cons]; omega
theorem cut4_small : ∀ {l : List Gw}, cut4 l ≤ 4000 → (l.map fun g => g.t.size).sum ≤ 4000 ∧ cut4 l = (l.map fun g => g.t.size).sum
  | [], _ => by simp [cut4]
  | g :: l, h => by
    have e : cut4 (g :: l) = min g.t.size 4001 + cut4 l := by simp [cut4]
    rw [e] at h ⊢
    have ih := cut4_small (l := l) (by omega)
    simp only [List.map_cons, List.sum_cons]
    omega
/-- A list that is small. -/
def SmallL (l : List Gw) : Prop := l.length ≤ 200 ∧ (l.map fun g => g.t.size).sum ≤ 4000
theorem mem_sum : ∀ {l : List Gw} {g : Gw}, g ∈ l → g.t.size ≤ (l.map fun g => g.t.size).sum
  | [], g, h => by cases h
  | x :: l, g, h => by
    simp only [List.map_cons, List.sum_cons]
    rcases List.mem_cons.1 h with rfl | h
    · omega
    · have := mem_sum h; omega
theorem SmallL.short {l : List Gw} (h : SmallL l) : ∀ g ∈ l, g.t.size ≤ 4000 := fun g hg => Nat.le_trans (mem_sum hg) h.2

set_option maxHeartbeats 4000000 in
set_option maxRecDepth 100000 in
theorem small_any {a : Option Addr} {l : List Gw} (n cap : Nat) (w : World) (h : Gws w a l) (hn : n = l.length) :
    Calls Tryz.prog 27 #[.slice a n cap] w fun e w' => (∃ b, e = .returned (.bool b) ∧ (b = true → SmallL l)) ∧ w = w' := by
  have HG := Lib.hid h
  have HL := Lib.hid hn
  clear h hn
  go_enter Tryz.func27, Tryz.ntmps27
  go_wp2_with fail
  go_loopg [3, 4] n (fun gk v u wr => ∃ j : Nat, gk = n - j ∧ v = .int .i64 (cut4 (l.take j) : Nat) ∧ u = .int .i64 j ∧ j ≤ n ∧ j ≤ 201 ∧ w = wr)
  case atStart => exact ⟨0, rfl, rfl, rfl, by omega, by omega, rfl⟩
  case round =>
    obtain ⟨j, rfl, rfl, rfl, hj, hj2, rfl⟩ := hrel
    have hcl := cut4_le (l.take j)
    rw [List.length_take] at hcl
    by_cases hlt : j < n
    · by_cases h200 : j ≤ 200
      · obtain ⟨g, b, o, hg, rfl, hat⟩ := HG.out.get (i := j) (by rw [← HL.out]; exact hlt)
        have hcn := cut4_next hg
        obtain ⟨c0, c1, c2, c3⟩ := hat
        have HCN := Lib.hid hcn
        clear hcn hg
        generalize cut4 (l.take j) = C at *
        have hC : C ≤ 4001 * 201 := by omega
        clear hcl
        go_wp2_with fail
        go_roundg (n - (j + 1))
        case measure => omega
        case rel => exact ⟨j + 1, rfl, by rw [HCN.out]; congr 1; omega, rfl, by omega, by omega, rfl⟩
      · obtain rfl : j = 201 := by omega
        generalize cut4 (l.take 201) = C at *
        go_wp2_with fail
        go_ret
        first | exact ⟨⟨false, rfl, fun h => by cases h⟩, rfl⟩ | exact ⟨.inl rfl, rfl⟩
    · obtain rfl : j = n := by omega
      rw [List.take_of_length_le (by rw [← HL.out]; exact Nat.le_refl _)] at hcl ⊢
      have hcs := @cut4_small l
      have HCS := Lib.hid hcs
      clear hcs
      generalize cut4 l = C at *
      by_cases h200 : j ≤ 200
      · by_cases hC : C ≤ 4000
        · have hsm : SmallL l := ⟨by rw [← HL.out]; exact h200, (HCS.out hC).1⟩
          have HSM := Lib.hid hsm
          have hz : decide ((C : Int) ≤ 4000) = true := by simp; omega
          clear hsm hcl
          go_wp2_with fail
          go_ret
          exact ⟨⟨true, rfl, fun _ => HSM.out⟩, rfl⟩
        · have hz : decide ((C : Int) ≤ 4000) = false := by simp; omega
          clear hcl
          go_wp2_with fail
          go_ret
          first | exact ⟨⟨false, rfl, fun h => by cases h⟩, rfl⟩ | exact ⟨.inl rfl, rfl⟩
      · clear hcl
        go_wp2_with fail
        go_ret
        first | exact ⟨⟨false, rfl, fun h => by cases h⟩, rfl⟩ | exact ⟨.inl rfl, rfl⟩
end Go.Proofs.YtimhhacfjgbomaaGreatDoor
