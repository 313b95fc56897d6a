/-
  THE WALKS of the reference's sums, differences, other signs, sizes of 64 bits.
-/
import Derived.Test.YtlokoepljmlcgaaWidh
namespace Go.Proofs.Ytlokoepljmlcgaa
set_option linter.unusedSimpArgs false
set_option linter.unusedVariables false
open Go.RowKit

theorem wideAdd_any (na nb : Bool) (a : Option Addr) (cap : Nat) (ds : List Int) (a' : Option Addr) (cap' : Nat) (es : List Int) (w : World) (hr : RowAt w a .i64 ds) (hr' : RowAt w a' .i64 es) (hD : Dig ds) (hE : Dig es)
    (hl : ds.length ≤ 1000000) (hl' : es.length ≤ 1000000) :
    Calls Try.prog 37 #[.agg #[.bool na, .slice a ds.length cap], .agg #[.bool nb, .slice a' es.length cap']] w (RetWide (fun ng os => sgv ng os = sgv na ds + sgv nb es ∧ os.length = max ds.length es.length + 1) w) := by
  by_cases h : na = nb
  · subst h
    exact wideAdd_same na a _ cap ds a' _ cap' es w rfl rfl hr hr' hD hE hl hl'
  · exact wideAdd_diff na nb a _ cap ds a' _ cap' es w (by show nb = !na; cases na <;> cases nb <;> simp_all) rfl rfl hr hr' hD hE hl hl' (by simpa using h)

theorem sgv_abs (n : Int) (ds : List Int) (neg : Bool) (h : neg = decide (n < 0)) (hv : val ds = n.natAbs) : sgv neg ds = n := by
  subst h; unfold sgv; rw [hv]; by_cases h0 : n < 0 <;> simp [h0] <;> omega
theorem sgv_not (neg : Bool) (ds : List Int) : sgv (!neg) ds = -sgv neg ds := by unfold sgv; cases neg <;> simp

set_option maxHeartbeats 1000000 in
theorem radd_any (x y : Int) (w : World) (hx : In64 x) (hy : In64 y) :
    Calls Try.prog 21 #[.int .i64 x, .int .i64 y] w fun e w' => e = .returned (.tuple #[.int .i64 (res (x + y)), .int .i64 (err (x + y))]) ∧ Below w.heap.size w w' := by
  go_enter Try.func21, Try.ntmps21
  go_wp2_with fail
  go_fit (of64_any _ _ hx)
  rintro e w1 ⟨n1, sv, ds, rfl, hd, hD, ⟨hn1, hv1, hl1⟩, hb1⟩
  obtain ⟨a1, c1, rfl, hr1, _⟩ := hd
  have S1 := Lib.hid (sgv_abs x ds n1 hn1 hv1)
  have HL1 := Lib.hid hl1
  have HR1 := Lib.hid hr1; have HD1 := Lib.hid hD
  clear hn1 hv1 hl1 hr1 hD
  go_wp2_with fail
  go_fit (of64_any _ _ hy)
  rintro e w2 ⟨n2, sv, es, rfl, hd, hE, ⟨hn2, hv2, hl2⟩, hb2⟩
  obtain ⟨a2, c2, rfl, hr2, _⟩ := hd
  have S2 := Lib.hid (sgv_abs y es n2 hn2 hv2)
  have HL2 := Lib.hid hl2
  have HR2 := Lib.hid hr2; have HD2 := Lib.hid hE
  have HR1' := Lib.hid (HR1.out.below hb2)
  clear hn2 hv2 hl2 hr2 hE
  go_wp2_with fail
  go_fit (wideAdd_any n1 n2 a1 c1 ds a2 c2 es _ HR1'.out HR2.out HD1.out HD2.out (by have := HL1.out; omega) (by have := HL2.out; omega))
  rintro e w3 ⟨n3, sv, os, rfl, hd, hO, ⟨hs, hl⟩, hb3⟩
  obtain ⟨a3, c3, rfl, hr3, _⟩ := hd
  rw [S1.out, S2.out] at hs
  have hlen : os.length ≤ 1000000 := by have := HL1.out; have := HL2.out; omega
  have HS := Lib.hid hs; have HO := Lib.hid hO; have HR3 := Lib.hid hr3
  clear hs hl hO hr3
  go_wp2_with fail
  go_fit (to64_any n3 a3 _ c3 os _ rfl HR3.out HO.out hlen)
  rintro e w4 ⟨rfl, hb4⟩
  go_wp2
  go_ret2
  refine ⟨ret2 (by rw [HS.out]) (by rw [HS.out]), ?_⟩
  exact hb1.trans ((hb2.mono hb1.size).trans ((hb3.mono (Nat.le_trans hb1.size hb2.size)).trans (hb4.mono (Nat.le_trans hb1.size (Nat.le_trans hb2.size hb3.size)))))

set_option maxHeartbeats 1000000 in
theorem rsub_any (x y : Int) (w : World) (hx : In64 x) (hy : In64 y) :
    Calls Try.prog 23 #[.int .i64 x, .int .i64 y] w fun e w' => e = .returned (.tuple #[.int .i64 (res (x - y)), .int .i64 (err (x - y))]) ∧ Below w.heap.size w w' := by
  go_enter Try.func23, Try.ntmps23
  go_wp2_with fail
  go_fit (of64_any _ _ hx)
  rintro e w1 ⟨n1, sv, ds, rfl, hd, hD, ⟨hn1, hv1, hl1⟩, hb1⟩
  obtain ⟨a1, c1, rfl, hr1, _⟩ := hd
  have S1 := Lib.hid (sgv_abs x ds n1 hn1 hv1)
  have HL1 := Lib.hid hl1
  have HR1 := Lib.hid hr1; have HD1 := Lib.hid hD
  clear hn1 hv1 hl1 hr1 hD
  go_wp2_with fail
  go_fit (of64_any _ _ hy)
  rintro e w2 ⟨n2, sv, es, rfl, hd, hE, ⟨hn2, hv2, hl2⟩, hb2⟩
  obtain ⟨a2, c2, rfl, hr2, _⟩ := hd
  have S2 := Lib.hid (sgv_abs y es n2 hn2 hv2)
  have HL2 := Lib.hid hl2
  have HR2 := Lib.hid hr2; have HD2 := Lib.hid hE
  have HR1' := Lib.hid (HR1.out.below hb2)
  clear hn2 hv2 hl2 hr2 hE
  go_wp2_with fail
  go_fit (negated_any n2 a2 _ c2 _)
  rintro e w2' ⟨rfl, hb2'⟩
  have HR1'' := Lib.hid (HR1'.out.below hb2')
  have HR2' := Lib.hid (HR2.out.below hb2')
  go_wp2_with fail
  go_fit (wideAdd_any n1 (!n2) a1 c1 ds a2 c2 es _ HR1''.out HR2'.out HD1.out HD2.out (by have := HL1.out; omega) (by have := HL2.out; omega))
  rintro e w3 ⟨n3, sv, os, rfl, hd, hO, ⟨hs, hl⟩, hb3⟩
  obtain ⟨a3, c3, rfl, hr3, _⟩ := hd
  rw [S1.out, sgv_not, S2.out] at hs
  have hlen : os.length ≤ 1000000 := by have := HL1.out; have := HL2.out; omega
  have HS := Lib.hid hs; have HO := Lib.hid hO; have HR3 := Lib.hid hr3
  clear hs hl hO hr3
  go_wp2_with fail
  go_fit (to64_any n3 a3 _ c3 os _ rfl HR3.out HO.out hlen)
  rintro e w4 ⟨rfl, hb4⟩
  go_wp2
  go_ret2
  refine ⟨ret2 (by rw [HS.out, Int.sub_eq_add_neg]) (by rw [HS.out, Int.sub_eq_add_neg]), ?_⟩
  exact hb1.trans ((hb2.mono hb1.size).trans ((hb2'.mono (Nat.le_trans hb1.size hb2.size)).trans ((hb3.mono (Nat.le_trans hb1.size (Nat.le_trans hb2.size hb2'.size))).trans (hb4.mono (Nat.le_trans hb1.size (Nat.le_trans hb2.size (Nat.le_trans hb2'.size hb3.size)))))))

set_option maxHeartbeats 1000000 in
theorem rneg_any (x : Int) (w : World) (hx : In64 x) :
    Calls Try.prog 31 #[.int .i64 x] w fun e w' => e = .returned (.tuple #[.int .i64 (res (-x)), .int .i64 (err (-x))]) ∧ Below w.heap.size w w' := by
  go_enter Try.func31, Try.ntmps31
  go_wp2_with fail
  go_fit (of64_any _ _ hx)
  rintro e w1 ⟨n1, sv, ds, rfl, hd, hD, ⟨hn1, hv1, hl1⟩, hb1⟩
  obtain ⟨a1, c1, rfl, hr1, _⟩ := hd
  have S1 := Lib.hid (sgv_abs x ds n1 hn1 hv1)
  have HL1 := Lib.hid hl1
  have HR1 := Lib.hid hr1; have HD1 := Lib.hid hD
  clear hn1 hv1 hl1 hr1 hD
  go_wp2_with fail
  go_fit (negated_any n1 a1 _ c1 _)
  rintro e w2 ⟨rfl, hb2⟩
  have HR2 := Lib.hid (HR1.out.below hb2)
  go_wp2_with fail
  go_fit (to64_any (!n1) a1 _ c1 ds _ rfl HR2.out HD1.out (by have := HL1.out; omega))
  rintro e w4 ⟨rfl, hb4⟩
  go_wp2
  go_ret2
  refine ⟨ret2 (by rw [sgv_not, S1.out]) (by rw [sgv_not, S1.out]), ?_⟩
  exact hb1.trans ((hb2.mono hb1.size).trans (hb4.mono (Nat.le_trans hb1.size hb2.size)))

set_option maxHeartbeats 1000000 in
theorem rabs_any (x : Int) (w : World) (hx : In64 x) :
    Calls Try.prog 33 #[.int .i64 x] w fun e w' => e = .returned (.tuple #[.int .i64 (res x.natAbs), .int .i64 (err x.natAbs)]) ∧ Below w.heap.size w w' := by
  go_enter Try.func33, Try.ntmps33
  go_wp2_with fail
  go_fit (of64_any _ _ hx)
  rintro e w1 ⟨n1, sv, ds, rfl, hd, hD, ⟨hn1, hv1, hl1⟩, hb1⟩
  obtain ⟨a1, c1, rfl, hr1, _⟩ := hd
  have S1 : Hid (sgv false ds = x.natAbs) := hv1
  have HL1 := Lib.hid hl1
  have HR1 := Lib.hid hr1; have HD1 := Lib.hid hD
  clear hn1 hv1 hl1 hr1 hD
  go_wp2_with fail
  have HR2 := fun o : Obj => (HR1.out.below (ballocR w1 o))
  go_fit (to64_any false a1 _ c1 ds _ rfl (HR2 _) HD1.out (by have := HL1.out; omega))
  rintro e w4 ⟨rfl, hb4⟩
  go_wp2
  go_ret2
  refine ⟨ret2 (by rw [S1.out]) (by rw [S1.out]), ?_⟩
  exact (hb1.alloc hb1.size _).trans (hb4.mono (by simp; have := hb1.size; omega))
end Go.Proofs.Ytlokoepljmlcgaa
