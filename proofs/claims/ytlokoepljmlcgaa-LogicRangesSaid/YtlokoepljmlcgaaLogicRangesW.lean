/-
  THE LAW LogicRanges: the walk.
-/
import Derived.Test.YtlokoepljmlcgaaRefr
import Derived.Test.YtlokoepljmlcgaaWorks
namespace Go.Proofs.Ytlokoepljmlcgaa
set_option linter.unusedSimpArgs false
set_option linter.unusedVariables false
open Go.RowKit

/-- Where a row of numbers is read, a cell. -/
theorem RowAt.cell {w : World} {a : Option Addr} {k : IntKind} {zs : List Int} (h : RowAt w a k zs) {i : Nat} (hi : i < zs.length) : ∃ b o, a = some ⟨b, o, none⟩ ∧ w.cell? ⟨b, o + i, none⟩ = some (.int k (zs.getD i 0)) := by
  rcases h with h | ⟨b, o, ha, hc⟩
  · subst h; simp at hi
  · exact ⟨b, o, ha, hc i hi⟩

theorem rgo_len {z step : Int} : ∀ (f : Nat) (n : Int) (l : List Int), rgo z step f n = some l → l.length ≤ f + 1
  | 0, n, l, h => by
    unfold rgo at h; split at h
    · cases h; simp
    · cases h
  | f + 1, n, l, h => by
    unfold rgo at h; split at h
    · cases h; simp
    · split at h
      · cases hr : rgo z step f (n + step) with
        | none => rw [hr] at h; cases h
        | some r => rw [hr] at h; cases h; have := rgo_len f _ r hr; simp; omega
      · cases h; simp
theorem range_len (a z step : Int) : (rangeL a z step).length ≤ 65537 := by
  unfold rangeL; split
  · simp
  · cases hr : rgo z step 65536 a with
    | none => simp
    | some l => have := rgo_len _ _ _ hr; simpa using this

set_option maxRecDepth 100000 in
set_option maxHeartbeats 2000000 in
theorem ranges_walk (a z step : Int) (w : World) (ha : In64 a) (hs : In64 step) :
    Calls Try.prog 4 #[.int .i64 a, .int .i64 z, .int .i64 step] w fun e w' => e = .returned (.bool true) ∧ Below w.heap.size w w' := by
  have HA := Lib.hid ha; have HS := Lib.hid hs; clear ha hs
  go_enter Try.func4, Try.ntmps4
  go_wp2_with fail
  go_fit (range_any a z step _ HA.out HS.out)
  rintro e w1 ⟨v1, rfl, ho1, hb1⟩
  obtain ⟨_, a1, c1, rfl, _, hr1⟩ := rowAt_owns ho1
  have HR1 := Lib.hid hr1; clear ho1 hr1
  go_wp2_with fail
  go_fit (rrange_any a z step _ HA.out HS.out)
  rintro e w2 ⟨v2, rfl, ho2, hb2⟩
  obtain ⟨_, a2, c2, rfl, _, hr2⟩ := rowAt_owns ho2
  have HR1' := Lib.hid (HR1.out.below hb2)
  have HR2 := Lib.hid hr2; clear ho2 hr2 HR1
  have hB : Below w.heap.size w w2 := hb1.trans (hb2.mono hb1.size)
  clear hb1 hb2
  have hlen := range_len a z step
  generalize rangeL a z step = L at *
  generalize rangeE a z step = x at *
  go_wp2_with (go_at_call 12; go_fit (num_any _ _); rintro e w' ⟨rfl, rfl⟩)
  go_loopg [11] L.length (fun gk i wr => ∃ k : Nat, (RowAt wr a1 .i64 L ∧ RowAt wr a2 .i64 L ∧ Below w.heap.size w wr) ∧ gk = L.length - k ∧ k ≤ L.length ∧ i = .int .i64 k)
  case atStart => exact ⟨0, ⟨HR1'.out, HR2.out, hB⟩, rfl, Nat.zero_le _, rfl⟩
  case round =>
    obtain ⟨k, ⟨hr1, hr2, hbr⟩, hgk, hk, rfl⟩ := hrel
    have HQ1 := Lib.hid hr1; have HQ2 := Lib.hid hr2; clear hr1 hr2
    have HK := Lib.hid hgk; clear hgk
    by_cases hlt : k < L.length
    · obtain ⟨b1, o1, rfl, c1⟩ := HQ1.out.cell hlt
      obtain ⟨b2, o2, rfl, c2⟩ := HQ2.out.cell hlt
      generalize L.getD k 0 = x at *
      go_wp2_with fail
      go_quiet (fail)
      go_wp2
      go_roundg (L.length - (k + 1))
      case measure => have := HK.out; omega
      case rel => exact ⟨k + 1, ⟨HQ1.out.drewN nq, HQ2.out.drewN nq, bdrewN hbr nq⟩, rfl, by omega, by go_num⟩
    · go_wp2_with (go_at_call 9; go_fit (works_any _); rintro e w' ⟨rfl, hbel⟩)
      go_ret
      exact ⟨rfl, hbr.trans (hbel.mono hbr.size)⟩
theorem rangesW (a z step : Int) (w : World) (ha : (Lit.int .i64 a).wf = true) (hz : (Lit.int .i64 z).wf = true) (hs : (Lit.int .i64 step).wf = true) :
    Calls Try.prog 4 #[.int .i64 a, .int .i64 z, .int .i64 step] w fun e w' => e = .returned (.bool true) ∧ Below w.heap.size w w' := ranges_walk a z step w (wf_in64 ha) (wf_in64 hs)
end Go.Proofs.Ytlokoepljmlcgaa
