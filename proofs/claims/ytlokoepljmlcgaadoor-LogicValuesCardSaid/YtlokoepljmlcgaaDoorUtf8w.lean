/-
  THE WALK of the document's UTF8.
-/
import Derived.Test.YtlokoepljmlcgaaDoorUtf8
import Derived.Deep.LoopGhost
namespace Go.Proofs.YtlokoepljmlcgaaDoor
set_option linter.unusedSimpArgs false
set_option linter.unusedVariables false
open Go.RowKit Go.Shelf Go.Lib

set_option maxRecDepth 100000 in
theorem utf8_any (s : ByteArray) (w : World) (hs : s.size ≤ 1099511627776) : Calls Tryd.prog 52 #[.string s] w fun e w' => e = .returned (.bool (validD s.data.toList)) ∧ w = w' := by
  have hsz : s.data.toList.length = s.size := by rw [Array.length_toList]; rfl
  obtain ⟨ANS, hA⟩ : ∃ A, validD s.data.toList = A := ⟨_, rfl⟩
  rw [hA]
  have HA := Lib.hid hA
  clear hA
  go_enter Tryd.func52, Tryd.ntmps52
  go_wp2
  go_loopg [3] s.size (fun gk s0 wr => wr = w ∧ ∃ i : Nat, s0 = .int .i64 i ∧ gk = s.size - i ∧ i ≤ s.size ∧ validD (s.data.toList.drop i) = ANS)
  case atStart => exact ⟨rfl, 0, rfl, rfl, Nat.zero_le _, HA.out⟩
  case round =>
    obtain ⟨rfl, i, rfl, rfl, hi, hv⟩ := hrel
    by_cases hlt : i < s.size
    · have hr := valid_rune s i hlt
      rw [hv] at hr
      have hp := runeS_pos hlt
      have hC := runeAt_any s i wr hlt hs
      have HC := Lib.hid hC
      have HR := Lib.hid hr
      clear hr hC hv
      generalize runeS s i = r at *
      by_cases h0 : r = 0
      · subst h0
        go_wp2_with (go_at_call 66; refine HC.out.mono ?_; rintro e w2 ⟨rfl, rfl⟩)
        go_ret
        exact ⟨retB (by have := HR.out; simpa using this.symm), rfl⟩
      · have e0 : ((r : Int) == 0) = false := by simp; omega
        go_wp2_with (go_at_call 66; refine HC.out.mono ?_; rintro e w2 ⟨rfl, rfl⟩)
        go_roundg (s.size - (i + r))
        case measure => omega
        case rel => exact ⟨rfl, i + r, by go_num, rfl, hp, by have := HR.out; rw [if_neg h0] at this; exact this.symm⟩
    · have hie : i = s.size := by omega
      subst hie
      go_wp2
      go_ret
      have : validD (s.data.toList.drop s.size) = true := by rw [List.drop_of_length_le (by omega)]; rfl
      exact ⟨retB (by rw [← hv, this]), rfl⟩
end Go.Proofs.YtlokoepljmlcgaaDoor
