/-
  THE WALK of strconv.ParseUint to the base ten, 64 bits; numbers, plain.
-/
import Derived.Test.YtimhhacfjgbomaaGreatDoorEscape
import Derived.Lib.AtoiAll
namespace Go.Proofs.YtimhhacfjgbomaaGreatDoor
set_option linter.unusedSimpArgs false
set_option linter.unusedVariables false
open Go.RowKit Go.Shelf

theorem numV_cons (acc : Nat) (l : List UInt8) : l.foldl (fun n c => 10 * n + (c.toNat - 48)) acc = acc * 10 ^ l.length + numV l := by
  induction l generalizing acc with
  | nil => simp [numV]
  | cons c r ih =>
    have h0 := ih (10 * 0 + (c.toNat - 48))
    have h1 := ih (10 * acc + (c.toNat - 48))
    have e : numV (c :: r) = List.foldl (fun n c => 10 * n + (c.toNat - 48)) (10 * 0 + (c.toNat - 48)) r := rfl
    rw [e, h0]
    show List.foldl (fun n c => 10 * n + (c.toNat - 48)) (10 * acc + (c.toNat - 48)) r = _
    rw [h1, List.length_cons, Nat.pow_succ, Nat.add_mul, ← Nat.add_assoc]
    congr 1
    rw [Nat.mul_zero, Nat.zero_add]
    congr 1
    rw [Nat.mul_comm 10 acc, Nat.mul_assoc, Nat.mul_comm 10]
theorem foldl_ge (acc : Nat) (l : List UInt8) : acc ≤ l.foldl (fun n c => 10 * n + (c.toNat - 48)) acc := by
  rw [numV_cons]
  have : 1 ≤ 10 ^ l.length := Nat.pow_pos (by decide)
  have := Nat.mul_le_mul_left acc this
  omega
/-- What it comes to. -/
theorem pu10 : ∀ (l : List UInt8) (acc : Nat), acc < 18446744073709551616 → (∃ u, Lib.parseUint10 acc l = .ok u ∧ (l.all fun c => digN c.toNat) = true ∧ l.foldl (fun n c => 10 * n + (c.toNat - 48)) acc = u ∧ u < 18446744073709551616) ∨
    (Lib.parseUint10 acc l = Lib.NumEnd.syntax ∧ (l.all fun c => digN c.toNat) = false) ∨ (Lib.parseUint10 acc l = .range ∧ ((l.all fun c => digN c.toNat) = true → 18446744073709551616 ≤ l.foldl (fun n c => 10 * n + (c.toNat - 48)) acc))
  | [], acc, h => .inl ⟨acc, rfl, rfl, rfl, h⟩
  | c :: r, acc, h => by
    by_cases hd : 48 ≤ c.toNat ∧ c.toNat ≤ 57
    · have hdig : digN c.toNat = true := by simp [digN, hd]
      by_cases h1 : 1844674407370955162 ≤ acc
      · right; right
        refine ⟨by unfold Lib.parseUint10; rw [if_pos hd, if_pos h1], fun _ => ?_⟩
        have := foldl_ge (10 * acc + (c.toNat - 48)) r
        show _ ≤ List.foldl (fun n c => 10 * n + (c.toNat - 48)) (10 * acc + (c.toNat - 48)) r
        omega
      · by_cases h2 : 18446744073709551616 ≤ acc * 10 + (c.toNat - 48)
        · right; right
          refine ⟨by unfold Lib.parseUint10; rw [if_pos hd, if_neg h1, if_pos h2], fun _ => ?_⟩
          have := foldl_ge (10 * acc + (c.toNat - 48)) r
          show _ ≤ List.foldl (fun n c => 10 * n + (c.toNat - 48)) (10 * acc + (c.toNat - 48)) r
          omega
        · have e : Lib.parseUint10 acc (c :: r) = Lib.parseUint10 (acc * 10 + (c.toNat - 48)) r := by
            conv => lhs; unfold Lib.parseUint10
            rw [if_pos hd, if_neg h1, if_neg h2]
          have e2 : List.foldl (fun n c => 10 * n + (c.toNat - 48)) acc (c :: r) = List.foldl (fun n c => 10 * n + (c.toNat - 48)) (acc * 10 + (c.toNat - 48)) r := by
            rw [Nat.mul_comm acc 10]; rfl
          rw [e, e2, List.all_cons, hdig, Bool.true_and]
          exact pu10 r _ (by omega)
    · right; left
      have hdig : digN c.toNat = false := by simp only [digN, decide_eq_false_iff_not]; exact hd
      exact ⟨by unfold Lib.parseUint10; rw [if_neg hd], by rw [List.all_cons, hdig, Bool.false_and]⟩
/-- How ParseUint ends. -/
def PuQ (l : List UInt8) (e : Ending) : Prop :=
  ((l.all fun c => digN c.toNat) = true ∧ numV l < 18446744073709551616 ∧ e = .returned (.tuple #[.int .u64 (numV l), .nilIface])) ∨
  (((l.all fun c => digN c.toNat) = false ∨ 18446744073709551616 ≤ numV l) ∧ ∃ (n : Int) (N : Nat), e = .returned (.tuple #[.int .u64 n, .iface 162 (.pointer (some ⟨N, 0, none⟩))]))
set_option maxHeartbeats 4000000 in
set_option maxRecDepth 100000 in
theorem pu_any {n₀ : Nat} (s : ByteArray) (h0 : s.size ≠ 0) (h1 : s.size ≤ 1048576) (w : World) (hE : Env n₀ w) :
    Calls Tryz.prog 112 #[.string s, .int .i64 10, .int .i64 64] w fun e w' => PuQ s.data.toList e ∧ Below w.heap.size w w' := by
  have hne : s.data.toList ≠ [] := fun e => h0 (by show s.data.size = 0; rw [← Array.length_toList, e]; rfl)
  have hM : Lib.parseUintB 64 s.data.toList = Lib.parseUint10 0 s.data.toList := by
    rw [Lib.parseUintB_64]
    unfold Lib.parseMag
    rw [if_neg hne]
  have hn : numV s.data.toList = s.data.toList.foldl (fun n c => 10 * n + (c.toNat - 48)) 0 := rfl
  rcases pu10 s.data.toList 0 (by omega) with ⟨u, h2, h3, h4, h5⟩ | ⟨h2, h3⟩ | ⟨h2, h3⟩
  · exact (Tryz.strconv_ParseUint_10_at64_ok s (by omega) u (hM.trans h2) w).mono fun e w' h => ⟨.inl ⟨h3, by rw [hn, h4]; exact h5, by rw [hn, h4]; exact h.1⟩, by
      rcases h.2 with e | e
      · rw [e]; exact Below.refl _ _
      · rw [e]; exact Lib.bytesWorld_below _ _ _⟩
  · obtain ⟨ev, hv1, hev⟩ := hE.errS
    exact (Tryz.strconv_ParseUint_10_at64_syntax s (by omega) (hM.trans h2) ev w hv1 hev).mono fun e w' ⟨N, h, _, _, hb⟩ => ⟨.inr ⟨.inl h3, _, N, h⟩, hb⟩
  · obtain ⟨ev, hv1, hev⟩ := hE.errR
    exact (Tryz.strconv_ParseUint_10_at64_range s (by omega) (hM.trans h2) ev w hv1 hev).mono fun e w' ⟨N, h, _, _, hb⟩ => ⟨.inr ⟨by
      cases hb : (s.data.toList.all fun c => digN c.toNat) with
      | false => exact .inl rfl
      | true => exact .inr (by rw [hn]; exact h3 hb), _, N, h⟩, hb⟩
end Go.Proofs.YtimhhacfjgbomaaGreatDoor
