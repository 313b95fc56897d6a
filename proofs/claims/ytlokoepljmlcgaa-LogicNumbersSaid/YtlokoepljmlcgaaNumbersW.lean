/-
  THE LAW LogicNumbers: the reference's product; the walk.
-/
import Derived.Test.YtlokoepljmlcgaaWidm
import Derived.Test.YtlokoepljmlcgaaRefr
import Derived.Test.YtlokoepljmlcgaaWorks
namespace Go.Proofs.Ytlokoepljmlcgaa
set_option linter.unusedSimpArgs false
set_option linter.unusedVariables false
open Go.RowKit

set_option maxHeartbeats 1000000 in
theorem rmul_any (x y : Int) (w : World) (hx : In64 x) (hy : In64 y) :
    Calls Try.prog 25 #[.int .i64 x, .int .i64 y] w fun e w' => e = .returned (.tuple #[.int .i64 (res (x * y)), .int .i64 (err (x * y))]) ∧ Below w.heap.size w w' := by
  go_enter Try.func25, Try.ntmps25
  go_wp2_with fail
  go_fit (of64_any _ _ hx)
  rintro e w1 ⟨n1, sv, ds, rfl, hd, hD, ⟨hn1, hv1, hl1⟩, hb1⟩
  obtain ⟨a1, c1, rfl, hr1, _⟩ := hd
  have V1 := Lib.hid hv1; have N1 := Lib.hid hn1; have L1 := Lib.hid hl1
  have HR1 := Lib.hid hr1; have HD1 := Lib.hid hD
  clear hn1 hv1 hr1 hD
  rw [hl1]
  clear hl1
  go_wp2_with fail
  go_fit (of64_any _ _ hy)
  rintro e w2 ⟨n2, sv, es, rfl, hd, hE, ⟨hn2, hv2, hl2⟩, hb2⟩
  obtain ⟨a2, c2, rfl, hr2, _⟩ := hd
  have V2 := Lib.hid hv2; have N2 := Lib.hid hn2; have L2 := Lib.hid hl2
  have HR2 := Lib.hid hr2; have HD2 := Lib.hid hE
  have HR1' := Lib.hid (HR1.out.below hb2)
  clear hn2 hv2 hr2 hE
  rw [hl2]
  clear hl2
  go_wp2_with fail
  go_fit (wideMul_any n1 n2 a1 c1 ds a2 c2 es _ HR1'.out HR2.out HD1.out HD2.out L1 L2)
  rintro e w3 ⟨n3, sv, os, rfl, hd, hO, ⟨hn3, hv3, hl3⟩, hb3⟩
  obtain ⟨a3, c3, rfl, hr3, _⟩ := hd
  have hs : sgv n3 os = x * y := by
    have h := sg_mul x y n3 (by rw [hn3, N1.out, N2.out])
    unfold sg at h
    unfold sgv
    rw [hv3, V1.out, V2.out, ← h]
    simp
  have HS := Lib.hid hs; have HO := Lib.hid hO; have HR3 := Lib.hid hr3; have L3 := Lib.hid hl3
  clear hs hn3 hv3 hl3 hO hr3
  go_wp2_with fail
  go_fit (to64_any n3 a3 _ c3 os _ rfl HR3.out HO.out (by have := L3.out; omega))
  rintro e w4 ⟨rfl, hb4⟩
  go_wp2
  go_ret2
  refine ⟨ret2 (by rw [HS.out]) (by rw [HS.out]), ?_⟩
  exact hb1.trans ((hb2.mono hb1.size).trans ((hb3.mono (Nat.le_trans hb1.size hb2.size)).trans (hb4.mono (Nat.le_trans hb1.size (Nat.le_trans hb2.size hb3.size)))))

theorem nB {w0 w w' : World} (hB : Below w0.heap.size w0 w) (h : Below w.heap.size w w') : Below w0.heap.size w0 w' := hB.trans (h.mono hB.size)

set_option maxRecDepth 100000 in
set_option maxHeartbeats 4000000 in
theorem numbers_walk (a b : Int) (w : World) (ha : In64 a) (hb : In64 b) : Calls Try.prog 7 #[.int .i64 a, .int .i64 b] w fun e w' => e = .returned (.bool true) ∧ Below w.heap.size w w' := by
  have HA := Lib.hid ha; have HB := Lib.hid hb; clear ha hb
  have B0 := Below.refl w.heap.size w
  go_enter Try.func7, Try.ntmps7
  go_wp2_with (first
    | (go_at_call 15; go_fit (add_any _ _ _ HA.out HB.out); rintro e w' ⟨rfl, rfl⟩)
    | (go_at_call 22; go_fit (sub_any _ _ _ HA.out HB.out); rintro e w' ⟨rfl, rfl⟩)
    | (go_at_call 24; go_fit (mul_any _ _ _ HA.out HB.out); rintro e w' ⟨rfl, rfl⟩)
    | (go_at_call 26; go_fit (div_any _ _ _ HA.out); rintro e w' ⟨rfl, rfl⟩)
    | (go_at_call 28; go_fit (mod_any _ _ _ HA.out); rintro e w' ⟨rfl, rfl⟩)
    | (go_at_call 30; go_fit (neg_any _ _ HA.out); rintro e w' ⟨rfl, rfl⟩)
    | (go_at_call 32; go_fit (abs_any _ _ HA.out); rintro e w' ⟨rfl, rfl⟩)
    | (go_at_call 21; go_fit (radd_any _ _ _ HA.out HB.out); rintro e w' ⟨rfl, hbA⟩)
    | (go_at_call 23; go_fit (rsub_any _ _ _ HA.out HB.out); rintro e w' ⟨rfl, hbS⟩)
    | (go_at_call 25; go_fit (rmul_any _ _ _ HA.out HB.out); rintro e w' ⟨rfl, hbM⟩)
    | (go_at_call 27; go_fit (rdiv_any _ _ _ HA.out); rintro e w' ⟨rfl, hbD⟩)
    | (go_at_call 29; go_fit (rmod_any _ _ _); rintro e w' ⟨rfl, hbO⟩)
    | (go_at_call 31; go_fit (rneg_any _ _ HA.out); rintro e w' ⟨rfl, hbN⟩)
    | (go_at_call 33; go_fit (rabs_any _ _ HA.out); rintro e w' ⟨rfl, hbL⟩)
    | (go_at_call 12; go_fit (num_any _ _); rintro e w' ⟨rfl, rfl⟩)
    | (go_at_call 9; go_fit (works_any _); rintro e w' ⟨rfl, hbW⟩))
  go_ret
  exact ⟨rfl, nB (nB (nB (nB (nB (nB (nB hbA hbS) hbM) hbD) hbO) hbN) hbL) hbW⟩
theorem numbersW (a b : Int) (w : World) (ha : (Lit.int .i64 a).wf = true) (hb : (Lit.int .i64 b).wf = true) : Calls Try.prog 7 #[.int .i64 a, .int .i64 b] w fun e w' => e = .returned (.bool true) ∧ Below w.heap.size w w' :=
  numbers_walk a b w (wf_in64 ha) (wf_in64 hb)
end Go.Proofs.Ytlokoepljmlcgaa
