/-
  THE WALKS of the reference's wide numbers: back to 64 bits; the other sign; the sum.
-/
import Derived.Test.YtlokoepljmlcgaaWide
namespace Go.Proofs.Ytlokoepljmlcgaa
set_option linter.unusedSimpArgs false
set_option linter.unusedVariables false
open Go.RowKit

theorem val_drop {ds : List Int} {k : Nat} (h : k < ds.length) : val (ds.drop k) = ds.getD k 0 + 65536 * val (ds.drop (k + 1)) := by
  rw [List.drop_eq_getElem_cons h]; simp [val, h]
theorem far_off {ds : List Int} {neg : Bool} {k : Nat} (hD : Dig ds) (hk : k + 1 ≤ ds.length) (h : (281474976710655 : Int) < val (ds.drop (k + 1))) : fits (sgv neg ds) = false := by
  have hs := val_split ds (k + 1) hk
  have h1 := val_bd (hD.take (k + 1))
  have h2 : pw (k + 1) * 281474976710656 ≤ pw (k + 1) * val (ds.drop (k + 1)) := Int.mul_le_mul_of_nonneg_left (by omega) (Int.le_of_lt (pw_pos _))
  have h3 : pw 1 ≤ pw (k + 1) := pw_mono (by omega)
  have h4 : pw 1 = 65536 := by decide
  rw [← Bool.not_eq_true, fits_iff]
  unfold In64 sgv
  split <;> omega
theorem to_neg {V : Int} (h0 : 0 ≤ V) (h : V ≤ 9223372036854775808) : IntKind.i64.wrap (IntKind.u64.wrap (-V)) = -V := by
  rw [i64l, IntKind.wrap_u64]; unfold wrap64; omega

set_option maxRecDepth 100000 in
set_option maxHeartbeats 2000000 in
theorem to64_any (neg : Bool) (a : Option Addr) (n cap : Nat) (ds : List Int) (w : World) (hn : Hid (n = ds.length)) (hr : RowAt w a .i64 ds) (hD : Dig ds) (hl : n ≤ 1000000) :
    Calls Try.prog 38 #[.agg #[.bool neg, .slice a n cap]] w fun e w' => e = .returned (.tuple #[.int .i64 (res (sgv neg ds)), .int .i64 (err (sgv neg ds))]) ∧ Below w.heap.size w w' := by
  have HR := Lib.hid (hr.below (ballocR w (.cells #[.bool neg, .slice a n cap] 55)))
  have hX := Box2.new w (.bool neg) (.slice a n cap) 55
  have c0 := hX.c0; have c1 := hX.c1
  have HD := Lib.hid hD; clear hr hD hX
  go_enter Try.func38, Try.ntmps38
  go_wp2
  obtain ⟨W, hW⟩ : ∃ W, W = w.alloc (.cells #[.bool neg, .slice a n cap] 55) := ⟨_, rfl⟩
  have HB : Hid (Below w.heap.size w W) := by rw [hW]; exact ballocR _ _
  rw [← hW] at c0 c1 HR ⊢
  clear hW
  go_loopg [4, 5] n (fun gk u i wr => wr = W ∧ gk ≤ n ∧ i = .int .i64 (↑gk - 1) ∧ u = .int .u64 (val (ds.drop gk)) ∧ 0 ≤ val (ds.drop gk) ∧ val (ds.drop gk) < 18446744073709551616)
  case atStart => exact ⟨rfl, Nat.le_refl _, rfl, by rw [hn.out, List.drop_length]; rfl, by rw [hn.out, List.drop_length]; decide, by rw [hn.out, List.drop_length]; decide⟩
  case round =>
    obtain ⟨rfl, hgk, rfl, rfl, h0, h1⟩ := hrel
    have H1 := Lib.hid h1; clear h1
    cases gk with
    | succ j =>
      rw [show ((j + 1 : Nat) : Int) - 1 = (j : Int) by omega]
      have hj : j < ds.length := by have := hn.out; omega
      by_cases hbig : (281474976710655 : Int) < val (ds.drop (j + 1))
      · have HF := Lib.hid (far_off (neg := neg) HD.out (by omega) hbig)
        generalize val (ds.drop (j + 1)) = U at *
        go_wp2
        go_ret2
        exact ⟨ret2 (res_no HF.out).symm (err_no HF.out).symm, HB.out⟩
      · have HV := Lib.hid (val_drop hj)
        have hd := HD.out.getD j
        obtain ⟨hd0, hd1⟩ := hd
        rcases HR.out with h | ⟨b, o, rfl, hc⟩
        · exfalso; rw [h] at hj; exact absurd hj (by simp)
        have hcj := hc j hj
        clear hc hj
        generalize val (ds.drop (j + 1)) = U at *
        generalize ds.getD j 0 = d at *
        go_wp2
        go_roundg j
        case measure => omega
        case rel => exact ⟨rfl, by omega, rfl, by rw [HV.out]; go_num, by rw [HV.out]; omega, by rw [HV.out]; omega⟩
    | zero =>
      rw [List.drop_zero] at H1 h0 ⊢
      have hs : sgv neg ds = if neg then -val ds else val ds := rfl
      have HS := Lib.hid hs; clear hs
      generalize val ds = V at *
      simp only [Int.ofNat_zero, Int.zero_sub]
      cases neg
      · by_cases hb : V ≤ 9223372036854775807
        · have hf : fits (sgv false ds) = true := by rw [fits_iff, HS.out]; unfold In64; simp; omega
          have HF := Lib.hid hf; clear hf
          have hne : (V == 9223372036854775808) = false := by simp; omega
          go_wp2
          go_ret2
          exact ⟨ret2 (by rw [res_fit HF.out, HS.out]; rfl) (err_fit HF.out).symm, HB.out⟩
        · have hf : fits (sgv false ds) = false := by rw [← Bool.not_eq_true, fits_iff, HS.out]; unfold In64; simp; omega
          have HF := Lib.hid hf; clear hf
          by_cases hb2 : V = 9223372036854775808
          · have hne : (V == 9223372036854775808) = true := by simp [hb2]
            have hle : V ≤ 9223372036854775808 := by omega
            have HB2 := Lib.hid hb2; clear hb2
            go_wp2
            go_ret2
            exact ⟨ret2 (res_no HF.out).symm (err_no HF.out).symm, HB.out⟩
          · have hb3 : 9223372036854775808 < V := by omega
            clear hb2 hb
            go_wp2
            go_ret2
            exact ⟨ret2 (res_no HF.out).symm (err_no HF.out).symm, HB.out⟩
      · by_cases hb : V ≤ 9223372036854775808
        · have hf : fits (sgv true ds) = true := by rw [fits_iff, HS.out]; unfold In64; simp; omega
          have HF := Lib.hid hf; clear hf
          have HN : Hid (wrap64 (IntKind.u64.wrap (-V)) = -V) := (i64l _).symm.trans (to_neg h0 hb)
          obtain ⟨bq, hne⟩ : ∃ bq, (V == 9223372036854775808) = bq := ⟨_, rfl⟩
          cases bq
          all_goals
            go_wp2
            go_ret2
            exact ⟨ret2 (by rw [res_fit HF.out, HS.out]; exact HN.out) (err_fit HF.out).symm, HB.out⟩
        · have hf : fits (sgv true ds) = false := by rw [← Bool.not_eq_true, fits_iff, HS.out]; unfold In64; simp; omega
          have HF := Lib.hid hf; clear hf
          have hb3 : 9223372036854775808 < V := by omega
          clear hb
          go_wp2
          go_ret2
          exact ⟨ret2 (res_no HF.out).symm (err_no HF.out).symm, HB.out⟩
end Go.Proofs.Ytlokoepljmlcgaa
