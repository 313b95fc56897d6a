/-
  THE WALK of the layer's Sum: two halves of 128 bits, a closure that adds to them.
-/
import Derived.Test.YtlokoepljmlcgaaDoorRows
import Derived.Test.YtlokoepljmlcgaaDoorLib
import Derived.Shelf.Spec.BitsCarry
namespace Go.Proofs.YtlokoepljmlcgaaDoor
set_option linter.unusedSimpArgs false
set_option linter.unusedVariables false
open Go.RowKit Go.Shelf Go.Lib

def lo64 (S : Int) : Int := S % 18446744073709551616
def hi64 (S : Int) : Int := (S / 18446744073709551616) % 18446744073709551616
def cy64 (S n : Int) : Int := (S % 18446744073709551616 + n % 18446744073709551616) / 18446744073709551616
/-- The sign's word. -/
def sw64 (n : Int) : Int := if n < 0 then 18446744073709551615 else 0

def Tryd.add_ren : Ren := ⟨fun | 25 => 45 | n => n, fun | 22 => 65 | n => n, fun | n => n⟩
theorem Tryd.add_lays : Lays7.n25 Tryd.prog Tryd.add_ren := {
  mixed := by kernel_rfl
  f25 := Tryd.func45.trans (congrArg some (by kernel_rfl))
  t22 := Tryd.underlying65
  a22 := Tryd.isAgg65
  z22 := Tryd.sizeOf65
  v22 := Tryd.zeroValue65
  i22 := by kernel_rfl }
theorem add64_nat (x y c : Nat) (hc : c ≤ 1) (w : World) : (callFunc 45 #[.int .u64 x, .int .u64 y, .int .u64 c]).run Tryd.prog w =
      .ok (.value (.tuple #[.int .u64 (((x + y + c) % 18446744073709551616 : Nat) : Int), .int .u64 (((x + y + c) / 18446744073709551616 : Nat) : Int)])) w := Any7.bits_Add64 Tryd.add_lays x y c hc w
theorem add64_i (x y c u v : Int) (hx : 0 ≤ x) (hy : 0 ≤ y) (hc0 : 0 ≤ c) (hc : c ≤ 1) (hu : u = (x + y + c) % 18446744073709551616) (hv : v = (x + y + c) / 18446744073709551616) (w : World) :
    (callFunc 45 #[.int .u64 x, .int .u64 y, .int .u64 c]).run Tryd.prog w = .ok (.value (.tuple #[.int .u64 u, .int .u64 v])) w := by
  obtain ⟨x, rfl⟩ := Int.eq_ofNat_of_zero_le hx
  obtain ⟨y, rfl⟩ := Int.eq_ofNat_of_zero_le hy
  obtain ⟨c, rfl⟩ := Int.eq_ofNat_of_zero_le hc0
  subst hu hv
  refine (add64_nat x y c (by omega) w).trans ?_
  congr 5
theorem half_lo (S n : Int) (w : World) : (callFunc 45 #[.int .u64 (lo64 S), .int .u64 (IntKind.u64.wrap n), .int .u64 0]).run Tryd.prog w = .ok (.value (.tuple #[.int .u64 (lo64 (S + n)), .int .u64 (cy64 S n)])) w := by
  rw [IntKind.wrap_u64]; unfold lo64 cy64
  apply add64_i <;> omega
theorem half_arith (S n : Int) (hn : In64 n) : (S / 18446744073709551616 % 18446744073709551616 + n / 9223372036854775808 % 18446744073709551616 + (S % 18446744073709551616 + n % 18446744073709551616) / 18446744073709551616) % 18446744073709551616 = (S + n) / 18446744073709551616 % 18446744073709551616 := by
  unfold In64 at hn
  have e : (S + n) / 18446744073709551616 = S / 18446744073709551616 + n / 9223372036854775808 + (S % 18446744073709551616 + n % 18446744073709551616) / 18446744073709551616 := by
    by_cases h : n < 0
    · have h1 : n / 9223372036854775808 = -1 := by omega
      have h2 : n % 18446744073709551616 = n + 18446744073709551616 := by omega
      rw [h1, h2]; omega
    · have h1 : n / 9223372036854775808 = 0 := by omega
      have h2 : n % 18446744073709551616 = n := by omega
      rw [h1, h2]; omega
  rw [e]
  generalize S / 18446744073709551616 = a
  generalize n / 9223372036854775808 = b
  generalize (S % 18446744073709551616 + n % 18446744073709551616) / 18446744073709551616 = c
  omega
theorem half_hi (S n : Int) (hn : In64 n) (w : World) : ∃ v, (callFunc 45 #[.int .u64 (hi64 S), .int .u64 (IntKind.u64.wrap (n / 9223372036854775808)), .int .u64 (cy64 S n)]).run Tryd.prog w = .ok (.value (.tuple #[.int .u64 (hi64 (S + n)), .int .u64 v])) w := by
  rw [IntKind.wrap_u64]
  have ha := half_arith S n hn
  unfold In64 at hn
  refine ⟨_, add64_i _ _ _ _ _ ?_ ?_ ?_ ?_ ?_ rfl w⟩
  · unfold hi64; omega
  · omega
  · unfold cy64; omega
  · unfold cy64; omega
  · unfold hi64 cy64; exact ha.symm

theorem grow_any (B : Nat) (S n : Int) (w : World) (hn : In64 n) (h0 : w.cell? ⟨B, 0, none⟩ = some (.int .u64 (hi64 S))) (h1 : w.cell? ⟨B, 1, none⟩ = some (.int .u64 (lo64 S))) (f0 : w.frozen? ⟨B, 0, none⟩ = false) (f1 : w.frozen? ⟨B, 1, none⟩ = false) :
    Calls Tryd.prog 44 #[.int .i64 n, .pointer (some ⟨B, 0, none⟩)] w fun e w' => e = .returned (.tuple #[]) ∧ w' = (w.setCell ⟨B, 1, none⟩ (.int .u64 (lo64 (S + n)))).setCell ⟨B, 0, none⟩ (.int .u64 (hi64 (S + n))) := by
  have e1 := half_lo S n
  obtain ⟨v, e2⟩ := half_hi S n hn (w.setCell ⟨B, 1, none⟩ (.int .u64 (lo64 (S + n))))
  go_enter Tryd.func44, Tryd.ntmps44
  go_wp2
  go_end0
  exact ⟨rfl, rfl⟩

theorem sum_snoc (zs : List Int) (z : Int) : (zs ++ [z]).sum = zs.sum + z := by simp
theorem sum_bd (zs : List Int) (h : ∀ z ∈ zs, In64 z) : -(9223372036854775808 * (zs.length : Int)) ≤ zs.sum ∧ zs.sum ≤ 9223372036854775808 * (zs.length : Int) := by
  induction zs with
  | nil => simp
  | cons z zs ih =>
    have h1 := h z (by simp)
    have h2 := ih (fun x hx => h x (by simp [hx]))
    unfold In64 at h1
    simp only [List.sum_cons, List.length_cons]
    omega
theorem end_fact (S : Int) : wrap64 (lo64 S) / 9223372036854775808 % 18446744073709551616 = if S % 18446744073709551616 < 9223372036854775808 then 0 else 18446744073709551615 := by
  unfold wrap64 lo64
  have h0 : 0 ≤ S % 18446744073709551616 := by omega
  have h1 : S % 18446744073709551616 < 18446744073709551616 := by omega
  generalize S % 18446744073709551616 = r at *
  split
  · rename_i h
    have : (r + 9223372036854775808) % 18446744073709551616 = r + 9223372036854775808 := by omega
    rw [this]; omega
  · rename_i h
    have : (r + 9223372036854775808) % 18446744073709551616 = r - 9223372036854775808 := by omega
    rw [this]; omega
theorem end_yes {S : Int} (h : -(9223372036854775808 * 4611686018427387904) ≤ S ∧ S ≤ 9223372036854775808 * 4611686018427387904) (e : hi64 S = IntKind.u64.wrap (wrap64 (lo64 S) / 9223372036854775808)) : wrap64 (lo64 S) = res S ∧ 0 = err S := by
  rw [IntKind.wrap_u64, end_fact] at e
  have hf : fits S = true := by rw [fits_iff]; unfold In64; unfold hi64 at e; split at e <;> omega
  rw [res_fit hf, err_fit hf]
  have := fits_iff.1 hf
  unfold In64 at this
  unfold wrap64 lo64
  omega
theorem end_no {S : Int} (e : ¬ hi64 S = IntKind.u64.wrap (wrap64 (lo64 S) / 9223372036854775808)) : 0 = res S ∧ 120 = err S := by
  rw [IntKind.wrap_u64, end_fact] at e
  have hf : fits S = false := by rw [← Bool.not_eq_true, fits_iff]; unfold In64; unfold hi64 at e; split at e <;> omega
  rw [res_no hf, err_no hf]
  exact ⟨rfl, rfl⟩

set_option maxHeartbeats 1000000 in
theorem sum_any (a : Option Addr) (n cap : Nat) (zs : List Int) (w : World) (hn : Hid (n = zs.length)) (hr : RowAt w a .i64 zs) (hz : Hid (∀ z ∈ zs, In64 z)) (hm : n ≤ 4611686018427387904) :
    Calls Tryd.prog 30 #[.slice a n cap] w fun e w' => e = .returned (.tuple #[.int .i64 (res zs.sum), .int .i64 (err zs.sum)]) ∧ Below w.heap.size w w' := by
  have HR := Lib.hid hr; clear hr
  obtain ⟨B, hB⟩ : ∃ B, B = w.heap.size := ⟨_, rfl⟩
  have HB := Lib.hid hB; clear hB
  go_enter Tryd.func30, Tryd.ntmps30
  go_wp2
  go_loopw [12] (fun i wr => ∃ k : Nat, k ≤ n ∧ i = .int .i64 k ∧ wr.cell? ⟨w.heap.size, 0, none⟩ = some (.int .u64 (hi64 (zs.take k).sum)) ∧ wr.cell? ⟨w.heap.size, 1, none⟩ = some (.int .u64 (lo64 (zs.take k).sum)) ∧
      wr.frozen? ⟨w.heap.size, 0, none⟩ = false ∧ wr.frozen? ⟨w.heap.size, 1, none⟩ = false ∧ Below w.heap.size w wr)
    (fun i _ => n - (intOf i).toNat)
  case atStart => exact ⟨0, Nat.zero_le _, rfl, by simp [hi64], by simp [lo64], by simp, by simp, ballocR _ _⟩
  case round =>
    obtain ⟨k, hk, rfl, hc0, hc1, hf0, hf1, hb⟩ := hrel
    by_cases hlt : k < n
    · rcases HR.out with h0 | ⟨b, o, rfl, hc⟩
      · have := hn.out; subst h0; simp at this; omega
      have hk' : k < zs.length := by have := hn.out; omega
      have hck := hc k hk'
      have hckr : wr.cell? ⟨b, o + k, none⟩ = some (.int .i64 (zs.getD k 0)) := by rw [hb.cell (World.block_lt_of_cell? w ⟨b, o + k, none⟩ hck)]; exact hck
      have HS : Hid ((zs.take (k + 1)).sum = (zs.take k).sum + zs.getD k 0) := by rw [take_succ_getD 0 zs k hk', sum_snoc]; rfl
      have hI : In64 (zs.getD k 0) := by apply hz.out; simp [hk']
      clear hc hck hk'
      generalize hz' : zs.getD k 0 = z at *
      generalize hS : (zs.take k).sum = S at *
      clear hz' hS
      go_wp2_with fail
      refine (grow_any _ S z _ hI hc0 hc1 hf0 hf1).mono ?_
      rintro e w' ⟨rfl, hw'⟩
      obtain ⟨g0, g1⟩ := cell_set2 (Value.int .u64 (hi64 (S + z))) (Value.int .u64 (lo64 (S + z))) hc0 hc1 (by intro h; injection h with _ h _; exact absurd h (by decide))
      rw [← hw'] at g0 g1
      have g2 : w'.frozen? ⟨w.heap.size, 0, none⟩ = false := by rw [hw', World.frozen?_setCell, World.frozen?_setCell]; exact hf0
      have g3 : w'.frozen? ⟨w.heap.size, 1, none⟩ = false := by rw [hw', World.frozen?_setCell, World.frozen?_setCell]; exact hf1
      have gb : Below w.heap.size w w' := by rw [hw']; exact (hb.setCell (Nat.le_refl _) _).setCell (Nat.le_refl _) _
      clear hw' hc0 hc1 hf0 hf1 hb hckr
      go_wp2
      go_roundw
      case rel => exact ⟨k + 1, by omega, by go_num, by rw [HS.out]; exact g0, by rw [HS.out]; exact g1, g2, g3, gb⟩
      case measure => simp [intOf]; omega
    · have hS : (zs.take k).sum = zs.sum := by rw [List.take_of_length_le (by have := hn.out; omega)]
      rw [hS] at hc0 hc1
      have hbd := sum_bd zs hz.out
      rw [← hn.out] at hbd
      have hbd' : -(9223372036854775808 * 4611686018427387904) ≤ zs.sum ∧ zs.sum ≤ 9223372036854775808 * 4611686018427387904 := by omega
      have HBD := Lib.hid hbd'
      clear hS hbd hbd'
      by_cases he : hi64 zs.sum = IntKind.u64.wrap (wrap64 (lo64 zs.sum) / 9223372036854775808)
      · have hy := end_yes HBD.out he
        have hb' : (hi64 zs.sum == IntKind.u64.wrap (wrap64 (lo64 zs.sum) / 9223372036854775808)) = true := by simpa using he
        have HY := Lib.hid hy
        clear he hy
        go_wp2
        go_ret2
        exact ⟨ret2 HY.out.1 HY.out.2, hb⟩
      · have hy := end_no he
        have hb' : (hi64 zs.sum == IntKind.u64.wrap (wrap64 (lo64 zs.sum) / 9223372036854775808)) = false := by simpa using he
        have HY := Lib.hid hy
        clear he hy
        go_wp2
        go_ret2
        exact ⟨ret2 HY.out.1 HY.out.2, hb⟩
end Go.Proofs.YtlokoepljmlcgaaDoor
