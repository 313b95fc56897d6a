/-
  THE WALK of utf8.Valid: bytes in memory.
  THE WALK of utf8.Valid: bytes in memory. (Printed by gen_valb.py.)
-/
import Derived.Test.YtimhhacfjgbomaaGreatDoorReader
import Derived.Lib.SlBytesRow
import Derived.Lib.ValidAsc
import Derived.Lib.Endian
import Derived.Lib.EndianBits
import Derived.Laws.BitsAllLaws
import Derived.Deep.LoopGhost
import Derived.Deep.CutBlock
import Derived.Deep.DeepCutAuto
import Derived.Shelf.Unicode.WordAny
import Derived.Test.YtimhhacfjgbomaaGreatDoorName
namespace Go.Proofs.YtimhhacfjgbomaaGreatDoor
set_option linter.unusedSimpArgs false
set_option linter.unusedVariables false
open Go.RowKit Go.Shelf

theorem get_at (t : ByteArray) (i : Nat) (h : i < t.size) : t[i] = t.get! i := (Utf8W.get!_of_lt t i h).symm
set_option maxHeartbeats 8000000 in
set_option maxRecDepth 100000 in
theorem wordB_any (g o c : Nat) (t : ByteArray) (w : World) (hs : 8 ≤ t.size) (hb : Lib.Bytes w g o t) :
    Calls Tryz.prog 142 #[.slice (some ⟨g, o, none⟩) t.size c] w fun e w' => e = .returned (.int .u64 (Lib.leNat [t.get! 0, t.get! 1, t.get! 2, t.get! 3, t.get! 4, t.get! 5, t.get! 6, t.get! 7])) ∧ ∃ q, w' = w.drewN q := by
  have c0 := hb 0 (by omega); have c1 := hb 1 (by omega); have c2 := hb 2 (by omega); have c3 := hb 3 (by omega)
  have c4 := hb 4 (by omega); have c5 := hb 5 (by omega); have c6 := hb 6 (by omega); have c7 := hb 7 (by omega)
  rw [get_at] at c0 c1 c2 c3 c4 c5 c6 c7
  generalize t.get! 0 = x0 at *; generalize t.get! 1 = x1 at *; generalize t.get! 2 = x2 at *; generalize t.get! 3 = x3 at *
  generalize t.get! 4 = x4 at *; generalize t.get! 5 = x5 at *; generalize t.get! 6 = x6 at *; generalize t.get! 7 = x7 at *
  have h0 : x0.toNat < 256 := x0.toNat_lt; have h1 : x1.toNat < 256 := x1.toNat_lt; have h2 : x2.toNat < 256 := x2.toNat_lt; have h3 : x3.toNat < 256 := x3.toNat_lt
  have h4 : x4.toNat < 256 := x4.toNat_lt; have h5 : x5.toNat < 256 := x5.toNat_lt; have h6 : x6.toNat < 256 := x6.toNat_lt; have h7 : x7.toNat < 256 := x7.toNat_lt
  have hv : ((Lib.leNat [x0, x1, x2, x3, x4, x5, x6, x7] : Nat) : Int) = (x0.toNat : Int) + (x1.toNat : Int) * 256 + (x2.toNat : Int) * 65536 + (x3.toNat : Int) * 16777216 + (x4.toNat : Int) * 4294967296 + (x5.toNat : Int) * 1099511627776 + (x6.toNat : Int) * 281474976710656 + (x7.toNat : Int) * 72057594037927936 := by
    simp only [Lib.leNat]
    push_cast
    omega
  have HV := Lib.hid hv
  have n : (7 : Int) < (t.size : Int) := by omega
  have n0 : (0 : Int) < (t.size : Int) := by omega
  have n1 : (1 : Int) < (t.size : Int) := by omega
  have n2 : (2 : Int) < (t.size : Int) := by omega
  have n3 : (3 : Int) < (t.size : Int) := by omega
  have n4 : (4 : Int) < (t.size : Int) := by omega
  have n5 : (5 : Int) < (t.size : Int) := by omega
  have n6 : (6 : Int) < (t.size : Int) := by omega
  clear hb hv
  simp only [Nat.add_zero] at c0
  go_enter Tryz.func142, Tryz.ntmps142
  go_wp2_with fail
  go_quiet (fail)
  go_wp2
  go_ret
  refine ⟨?_, _, rfl⟩
  simp (disch := omega) only [u64_wrap_id, u64_or8, u64_or16, u64_or24, u64_or32, u64_or40, u64_or48, u64_or56]
  rw [HV.out]
  rfl
theorem run_cutB (W : World) (g o n k : Nat) (hk : k ≤ n) :
    (Instr.slice 43 (.slice (some ⟨g, o, none⟩) n n) (some (.int .i64 (k : Int))) none none).run Tryz.prog W = .ok (.slice (some ⟨g, if n = k then o else o + k, none⟩) (n - k) (n - k)) W := by
  have ht' : Tryz.prog.underlying 43 = some (.slice (Tryz.prog.elem 43)) := by simp [Program.elem, Tryz.underlying43]
  have he : Tryz.prog.elem 43 = 5 := by simp [Program.elem, Tryz.underlying43]
  rw [run_slice_l W 43 _ _ _ ht' .i64 _ (by omega) (by omega), he, Tryz.sizeOf5]
  by_cases hn : n = k
  · subst hn; simp [Result.andThen, sliced]
  · by_cases h0 : k = 0
    · subst h0; simp [Result.andThen, sliced, Addr.add, hn]
    · simp [Result.andThen, sliced, Addr.add, hn, h0]
theorem bytes_cut {W : World} {g o k : Nat} {t : ByteArray} (h : Lib.Bytes W g o t) : Lib.Bytes W g (if t.size = k then o else o + k) (t.extract k t.size) := fun i hi => by
  rw [Lib.ext_size] at hi
  rw [if_neg (by omega)]
  have := h (k + i) (by omega)
  rw [Nat.add_assoc, this]
  congr 3
  rw [ByteArray.getElem_extract]
theorem bytes_keep {w w' : World} {g o m : Nat} {t : ByteArray} (h : Lib.Bytes w g o t) (hb : Below m w w') (hg : g < m) : Lib.Bytes w' g o t := fun i hi => (hb.cell (p := ⟨g, o + i, none⟩) hg).trans (h i hi)
/-- What is known between two rounds. -/
structure VI (g o : Nat) (t : ByteArray) (ANS : Bool) (w wr : World) : Prop where
  below : Below w.heap.size w wr
  ans : Lib.validD t.data.toList = ANS
  len : t.size ≤ 1099511627776
  row : Lib.Bytes wr g o t
theorem VI.drew {g o : Nat} {t : ByteArray} {ANS : Bool} {w wr : World} (h : VI g o t ANS w wr) (n : Nat) : VI g o t ANS w (wr.drewN n) := ⟨bdrewN h.below n, h.ans, h.len, h.row.drewN n⟩
theorem VI.alloc {g o : Nat} {t : ByteArray} {ANS : Bool} {w wr : World} (h : VI g o t ANS w wr) (x : Obj) : VI g o t ANS w (wr.alloc x) :=
  ⟨h.below.alloc h.below.size _, h.ans, h.len, fun i hi => by
    have := h.row i hi
    exact ((Below.refl wr.heap.size wr).alloc (Nat.le_refl _) x |>.cell (p := ⟨g, o + i, none⟩) (World.block_lt_of_cell? wr ⟨g, o + i, none⟩ this)).trans this⟩
theorem VI.cut' {g o : Nat} {t : ByteArray} {ANS : Bool} {w wr : World} (h : VI g o t ANS w wr) {k : Nat} (hk : k ≤ t.size) (kz : Int) (hkz : kz = k) :
    ∃ (o' : Nat) (t' : ByteArray), t'.size + k = t.size ∧ (∀ W, (Instr.slice 43 (.slice (some ⟨g, o, none⟩) t.size t.size) (some (.int .i64 kz)) none none).run Tryz.prog W = .ok (.slice (some ⟨g, o', none⟩) t'.size t'.size) W) ∧ Lib.Bytes wr g o' t' ∧ t.extract k t.size = t' := by
  refine ⟨if t.size = k then o else o + k, t.extract k t.size, by rw [Lib.ext_size]; omega, fun W => ?_, bytes_cut h.row, rfl⟩
  rw [hkz, run_cutB W g o t.size k hk, Lib.ext_size]
theorem VI.cut {g o : Nat} {t : ByteArray} {ANS : Bool} {w wr : World} (h : VI g o t ANS w wr) {k : Nat} (ha : Lib.Asc t k) (hk : k ≤ t.size) (kz : Int) (hkz : kz = k) :
    ∃ (o' : Nat) (t' : ByteArray), t'.size + k = t.size ∧ (∀ W, (Instr.slice 43 (.slice (some ⟨g, o, none⟩) t.size t.size) (some (.int .i64 kz)) none none).run Tryz.prog W = .ok (.slice (some ⟨g, o', none⟩) t'.size t'.size) W) ∧ VI g o' t' ANS w wr := by
  obtain ⟨o', t', hz, hr, hb, he⟩ := h.cut' hk kz hkz
  exact ⟨o', t', hz, hr, h.below, by rw [← he, Lib.valid_skip t k ha]; exact h.ans, by have := h.len; omega, hb⟩
theorem wordOf (t : ByteArray) (h : 8 ≤ t.size) : ∃ A : Nat, A < 18446744073709551616 ∧ (A &&& 9259542123273814144 = 0 → Lib.Asc t 8) ∧
    ∀ g o c W, Lib.Bytes W g o t → Calls Tryz.prog 142 #[.slice (some ⟨g, o, none⟩) t.size c] W fun e w' => e = .returned (.int .u64 A) ∧ ∃ q, w' = W.drewN q :=
  ⟨_, Lib.word_lt t, (Lib.word_asc t h).1, fun g o c W hb => wordB_any g o c t W h hb⟩
theorem maskOf {A : Nat} (h : A < 18446744073709551616) : ∃ Z : Nat, bits .and .u64 (A : Int) 9259542123273814144 = (Z : Int) ∧ (Z = 0 ↔ A &&& 9259542123273814144 = 0) :=
  ⟨_, u64_and_nat A 9259542123273814144 h (by omega), Iff.rfl⟩
theorem orOf {A B : Nat} (h : A < 18446744073709551616) (h' : B < 18446744073709551616) : ∃ O : Nat, bits .or .u64 (A : Int) (B : Int) = (O : Int) ∧ O < 18446744073709551616 ∧ (O &&& 9259542123273814144 = 0 → A &&& 9259542123273814144 = 0 ∧ B &&& 9259542123273814144 = 0) :=
  ⟨_, u64_or_nat A B h h', Nat.or_lt_two_pow (n := 64) h h', (Lib.or_mask A B _).1⟩
theorem and7b (X : Nat) (h : X < 256) : bits .and .u8 (X : Int) 7 = ((X % 8 : Nat) : Int) := by
  have := (by decide +kernel : ∀ X : Fin 256, bits .and .u8 ((X.val : Nat) : Int) 7 = ((X.val % 8 : Nat) : Int)) ⟨X, h⟩
  exact this
theorem leadOf {n₀ : Nat} {wr : World} {t : ByteArray} {ANS : Bool} {x0 : UInt8} (hE : Env n₀ wr) (h0 : 0 < t.size) (hx : t.get! 0 = x0) (hge : 128 ≤ x0.toNat) (hv : Lib.validD t.data.toList = ANS) :
    ∃ X LO HI : Nat, (ANS = match Lib.checkN t.size (t.get! 1).toNat (t.get! 2).toNat (t.get! 3).toNat (X % 8) LO HI with | none => false | some k => Lib.validD (t.data.toList.drop k)) ∧ X < 256 ∧
      wr.cell? ⟨0, x0.toNat, none⟩ = some (.int .u8 X) ∧ wr.cell? ⟨1, X / 16 * 2, none⟩ = some (.int .u8 LO) ∧ wr.cell? ⟨1, X / 16 * 2 + 1, none⟩ = some (.int .u8 HI) := by
  have hTr := hE.utf8
  have hne : t.data.toList ≠ [] := fun h => by rw [Lib.size_eq, h] at h0; simp at h0
  have hlead := Lib.validD_lead t.data.toList hne (by rw [Lib.getD_get!', hx]; exact hge)
  rw [Lib.getD_get!', Lib.getD_get!', Lib.getD_get!', Lib.getD_get!', hx, ← Lib.size_eq, hv] at hlead
  have hc0 := hTr.1 x0.toNat x0.toNat_lt
  have hXlt : Lib.firstT x0.toNat < 256 := by rcases Lib.firstT_cases x0.toNat with h | h | h | h | h | h | h | h | h <;> omega
  exact ⟨_, _, _, hlead, hXlt, hc0, by rw [Nat.mul_comm]; exact (hTr.2 (Lib.firstT x0.toNat / 16) (by omega)).1, by rw [Nat.mul_comm]; exact (hTr.2 (Lib.firstT x0.toNat / 16) (by omega)).2⟩
theorem acc_cells (w : World) (a b : Nat) : (w.alloc (.cells #[.int .u8 a, .int .u8 b] 88)).cell? ⟨w.heap.size, 0, none⟩ = some (.int .u8 a) ∧ (w.alloc (.cells #[.int .u8 a, .int .u8 b] 88)).cell? ⟨w.heap.size, 1, none⟩ = some (.int .u8 b) := by
  constructor <;> (rw [World.cell?_alloc_new]; rfl)
end Go.Proofs.YtimhhacfjgbomaaGreatDoor
namespace Go.Proofs.YtimhhacfjgbomaaGreatDoor
set_option linter.unusedSimpArgs false
set_option linter.unusedVariables false
open Go.RowKit Go.Shelf

set_option maxHeartbeats 64000000 in
set_option maxRecDepth 1000000 in
theorem validB_any {n₀ : Nat} (g o₀ c₀ : Nat) (t₀ : ByteArray) (w : World) (hs : t₀.size ≤ 1099511627776) (hc₀ : t₀.size ≤ c₀) (hb : Lib.Bytes w g o₀ t₀) (hg : g < w.heap.size) (hE : Env n₀ w) :
    Calls Tryz.prog 130 #[.slice (some ⟨g, o₀, none⟩) t₀.size c₀] w fun e w' => e = .returned (.bool (Lib.validD t₀.data.toList)) ∧ Below w.heap.size w w' := by
  obtain ⟨ANS, hANS⟩ : ∃ ANS, Lib.validD t₀.data.toList = ANS := ⟨_, rfl⟩
  rw [hANS]
  have HV0 := Lib.hid hANS
  have HB0 := Lib.hid hb
  have HE := Lib.hid hE
  clear hANS hb hE
  go_enter Tryz.func130, Tryz.ntmps130
  go_wp2_with fail
  go_loopg [0] (t₀.size + 1) (fun gk s0 wx => ∃ (t : ByteArray) (o : Nat), s0 = .slice (some ⟨g, o, none⟩) t.size t.size ∧ t.size < gk ∧ VI g o t ANS w wx)
  case atStart => exact ⟨t₀, o₀, rfl, by omega, ⟨Below.refl _ _, HV0.out, hs, HB0.out⟩⟩
  case round =>
    obtain ⟨t, o, rfl, hgk, hI⟩ := hrel
    have HI := Lib.hid hI
    have hts := hI.len
    have hby := hI.row
    have hEr : Env n₀ wr := HE.out.next (hI.below.mono HE.out.le)
    have HEr := Lib.hid hEr
    clear hI hEr HV0 HB0
    by_cases h0 : 0 < t.size
    · obtain ⟨g', rfl⟩ : ∃ g', gk = g' + 1 := ⟨gk - 1, by omega⟩
      have h0z : (0 : Int) < (t.size : Int) := by omega
      have b0 := hby 0 h0
      rw [get_at, Nat.add_zero] at b0
      obtain ⟨x0, hx0⟩ : ∃ x0, t.get! 0 = x0 := ⟨_, rfl⟩
      rw [hx0] at b0
      have HX0 := Lib.hid hx0
      clear hx0
      have hx0lt : x0.toNat < 256 := x0.toNat_lt
      by_cases hasc : x0.toNat < 128
      · as_aux_lemma =>
        have hascz : (x0.toNat : Int) < 128 := by omega
        have a1 : Lib.Asc t 1 := Lib.asc_one t h0 (by rw [HX0.out]; exact hasc)
        obtain ⟨o1, t1, z1, sl1, J1⟩ := HI.out.cut (k := 1) a1 (by omega) 1 rfl
        have HJ1 := Lib.hid J1
        have hr1 := J1.row
        clear J1 a1 hby HI hasc
        by_cases c8 : 8 < t1.size
        · have c8z : (8 : Int) < (t1.size : Int) := by omega
          obtain ⟨A1, lA1, kA1, cW1⟩ := wordOf t1 (by omega)
          obtain ⟨Z1, hand1, hZ1⟩ := maskOf lA1
          have HC1 := Lib.hid cW1
          have HK1 := Lib.hid (fun h => kA1 (hZ1.1 h))
          clear cW1 kA1 hZ1
          by_cases hz1 : Z1 = 0
          · have hz1b : ((Z1 : Int) == 0) = true := by simp [hz1]
            obtain ⟨o2, t2, z2, sl2, J2⟩ := HJ1.out.cut (k := 8) (HK1.out hz1) (by omega) 8 rfl
            have HJ2 := Lib.hid J2
            clear J2 HK1
            have b8a : (8 : Int) ≤ (t1.size : Int) := by omega
            go_wp2_with (go_at_call 142; refine (HC1.out _ _ _ _ hr1).mono ?_; rintro e W1 ⟨rfl, q1, rfl⟩)
            have HJ3 := Lib.hid (HJ2.out.drew q1)
            clear HJ2 HJ1 HC1 hr1 sl1 sl2 b0 hz1b hand1
            generalize wr.drewN q1 = wq at *
            by_cases c16 : 16 < t2.size
            · have c16z : (16 : Int) < (t2.size : Int) := by omega
              have s8z : (8 : Int) ≤ (t2.size : Int) := by omega
              obtain ⟨o2b, t2b, z2b, sl2b, r2b, e2b⟩ := HJ3.out.cut' (k := 8) (by omega) 8 rfl
              have hr2 := HJ3.out.row
              obtain ⟨A2, lA2, kA2, cW2⟩ := wordOf t2 (by omega)
              obtain ⟨A3, lA3, kA3, cW3⟩ := wordOf t2b (by omega)
              obtain ⟨O2, hor2, lO2, hO2⟩ := orOf lA2 lA3
              obtain ⟨Z2, hand2, hZ2⟩ := maskOf lO2
              have hk : Z2 = 0 → Lib.Asc t2 16 := fun h => by
                obtain ⟨e1, e2⟩ := hO2 (hZ2.1 h)
                exact Lib.asc_add t2 8 8 (kA2 e1) (by rw [e2b]; exact kA3 e2)
              have HC2 := Lib.hid cW2
              have HC3 := Lib.hid cW3
              have HK := Lib.hid hk
              have HJ4 : ∀ n, Hid (VI g o2 t2 ANS w (wq.drewN n)) := fun n => Lib.hid (HJ3.out.drew n)
              clear cW2 cW3 hk kA2 kA3 hO2 hZ2 e2b
              by_cases hz2 : Z2 = 0
              · have hz2b : ((Z2 : Int) == 0) = true := by simp [hz2]
                go_quiet (first | ((go_at_call_of 142 (Value.slice (some ⟨g, o2, none⟩) t2.size t2.size); exact Calls.quiet_of (HC2.out _ _ _ _ (hr2.drewN _)))) | ((go_at_call 142; exact Calls.quiet_of (HC3.out _ _ _ _ (r2b.drewN _)))))
                have HJ5 := HJ4 nq
                clear HC2 HC3 HJ3 HJ4 hr2 r2b sl2b hz2b hand2 hor2
                generalize wq.drewN nq = wq2 at *
                obtain ⟨o3, t3, z3, sl3, J3⟩ := HJ5.out.cut (k := 16) (HK.out hz2) (by omega) 16 rfl
                have HJ6 := Lib.hid J3
                clear J3 HJ5 HK
                go_wp2_with fail
                clear sl3
                go_loopg [0] (t3.size + 1) (fun g2 s0 wx => ∃ (u : ByteArray) (ou : Nat), s0 = .slice (some ⟨g, ou, none⟩) u.size u.size ∧ u.size < g2 ∧ u.size ≤ t3.size ∧ VI g ou u ANS w wx)
                case atStart => exact ⟨t3, o3, rfl, by omega, Nat.le_refl _, HJ6.out⟩
                case round =>
                  obtain ⟨u, ou, rfl, hgu, hut, hIu⟩ := hrel
                  have HU := Lib.hid hIu
                  clear hIu HJ6
                  have HU1 : ∀ n, Hid (VI g ou u ANS w (wr.drewN n)) := fun n => Lib.hid (HU.out.drew n)
                  by_cases c32 : 32 < u.size
                  · obtain ⟨g3, rfl⟩ : ∃ g3, gk = g3 + 1 := ⟨gk - 1, by omega⟩
                    have c32z : (32 : Int) < (u.size : Int) := by omega
                    have s8u : (8 : Int) ≤ (u.size : Int) := by omega
                    have s16u : (16 : Int) ≤ (u.size : Int) := by omega
                    have s24u : (24 : Int) ≤ (u.size : Int) := by omega
                    obtain ⟨ob, ub, zub, slb, rb, eb⟩ := HU.out.cut' (k := 8) (by omega) 8 rfl
                    obtain ⟨oc, uc, zuc, slc, rc, ec⟩ := HU.out.cut' (k := 16) (by omega) 16 rfl
                    obtain ⟨od, ud, zud, sld, rd, ed⟩ := HU.out.cut' (k := 24) (by omega) 24 rfl
                    have ra := HU.out.row
                    obtain ⟨B0, l0, k0, cB0⟩ := wordOf u (by omega)
                    obtain ⟨B1, l1, k1, cB1⟩ := wordOf ub (by omega)
                    obtain ⟨B2, l2, k2, cB2⟩ := wordOf uc (by omega)
                    obtain ⟨B3, l3, k3, cB3⟩ := wordOf ud (by omega)
                    obtain ⟨P1, ho1, lo1, hP1⟩ := orOf l0 l1
                    obtain ⟨P2, ho2, lo2, hP2⟩ := orOf l2 l3
                    obtain ⟨P3, ho3, lo3, hP3⟩ := orOf lo1 lo2
                    obtain ⟨Z3, hand3, hZ3⟩ := maskOf lo3
                    have hk : Z3 = 0 → Lib.Asc u 32 := fun h => by
                      obtain ⟨e01, e23⟩ := hP3 (hZ3.1 h)
                      obtain ⟨e0, e1⟩ := hP1 e01
                      obtain ⟨e2, e3⟩ := hP2 e23
                      have s16 : Lib.Asc u 16 := Lib.asc_add u 8 8 (k0 e0) (by rw [eb]; exact k1 e1)
                      have s24 : Lib.Asc u 24 := Lib.asc_add u 16 8 s16 (by rw [ec]; exact k2 e2)
                      exact Lib.asc_add u 24 8 s24 (by rw [ed]; exact k3 e3)
                    have HK := Lib.hid hk
                    have C0 := Lib.hid cB0; have C1 := Lib.hid cB1; have C2 := Lib.hid cB2; have C3 := Lib.hid cB3
                    clear hk k0 k1 k2 k3 hP1 hP2 hP3 hZ3 cB0 cB1 cB2 cB3 eb ec ed lo1 lo2 lo3
                    cases hz3 : decide (Z3 = 0) with
                    | true =>
                      have hz3' : Z3 = 0 := by simpa using hz3
                      have hz3b : ((Z3 : Int) == 0) = true := by simp [hz3']
                      clear hz3
                      go_wp2_with fail
                      go_quiet (first | ((go_at_call_of 142 (Value.slice (some ⟨g, ou, none⟩) u.size u.size); exact Calls.quiet_of (C0.out _ _ _ _ (ra.drewN _)))) | ((go_at_call_of 142 (Value.slice (some ⟨g, ob, none⟩) ub.size ub.size); exact Calls.quiet_of (C1.out _ _ _ _ (rb.drewN _)))) | ((go_at_call_of 142 (Value.slice (some ⟨g, oc, none⟩) uc.size uc.size); exact Calls.quiet_of (C2.out _ _ _ _ (rc.drewN _)))) | ((go_at_call_of 142 (Value.slice (some ⟨g, od, none⟩) ud.size ud.size); exact Calls.quiet_of (C3.out _ _ _ _ (rd.drewN _)))))
                      have HU2 := HU1 nq
                      clear HU HU1 ra rb rc rd slb slc sld C0 C1 C2 C3 hz3b ho1 ho2 ho3 hand3
                      generalize wr.drewN nq = wq3 at *
                      obtain ⟨o4, t4, z4, sl4, J4⟩ := HU2.out.cut (k := 32) (HK.out hz3') (by omega) 32 rfl
                      have HJ7 := Lib.hid J4
                      clear J4 HU2 HK
                      go_wp2_with fail
                      go_roundg g3
                      case measure => omega
                      case rel => exact ⟨t4, o4, rfl, by omega, by omega, HJ7.out⟩
                    | false =>
                      have hz3' : ¬ Z3 = 0 := by simpa using hz3
                      have hz3b : ((Z3 : Int) == 0) = false := by simp; omega
                      clear hz3
                      go_wp2_with fail
                      go_quiet (first | ((go_at_call_of 142 (Value.slice (some ⟨g, ou, none⟩) u.size u.size); exact Calls.quiet_of (C0.out _ _ _ _ (ra.drewN _)))) | ((go_at_call_of 142 (Value.slice (some ⟨g, ob, none⟩) ub.size ub.size); exact Calls.quiet_of (C1.out _ _ _ _ (rb.drewN _)))) | ((go_at_call_of 142 (Value.slice (some ⟨g, oc, none⟩) uc.size uc.size); exact Calls.quiet_of (C2.out _ _ _ _ (rc.drewN _)))) | ((go_at_call_of 142 (Value.slice (some ⟨g, od, none⟩) ud.size ud.size); exact Calls.quiet_of (C3.out _ _ _ _ (rd.drewN _)))))
                      have HU2 := HU1 nq
                      clear HU HU1 ra rb rc rd slb slc sld C0 C1 C2 C3 hz3b ho1 ho2 ho3 hand3
                      generalize wr.drewN nq = wq3 at *
                      go_wp2_with fail
                      go_roundg g'
                      case measure => omega
                      case rel => exact ⟨u, ou, rfl, by omega, HU2.out⟩
                  · have c32z : ¬ ((32 : Int) < (u.size : Int)) := by omega
                    have c32b : decide ((32 : Int) < (u.size : Int)) = false := decide_eq_false c32z
                    go_wp2_with fail
                    go_quiet (fail)
                    have HU2 := HU1 nq
                    clear HU HU1
                    generalize wr.drewN nq = wq3 at *
                    go_wp2_with fail
                    go_roundg g'
                    case measure => omega
                    case rel => exact ⟨u, ou, rfl, by omega, HU2.out⟩
              · have hz2b : ((Z2 : Int) == 0) = false := by simp; omega
                go_quiet (first | ((go_at_call_of 142 (Value.slice (some ⟨g, o2, none⟩) t2.size t2.size); exact Calls.quiet_of (HC2.out _ _ _ _ (hr2.drewN _)))) | ((go_at_call 142; exact Calls.quiet_of (HC3.out _ _ _ _ (r2b.drewN _)))))
                have HJ5 := HJ4 nq
                clear HC2 HC3 HJ3 HJ4 hr2 r2b sl2b hz2b hand2 hor2
                generalize wq.drewN nq = wq2 at *
                go_wp2_with fail
                go_roundg g'
                case measure => omega
                case rel => exact ⟨t2, o2, rfl, by omega, HJ5.out⟩
            · have c16z : ¬ ((16 : Int) < (t2.size : Int)) := by omega
              have c16b : decide ((16 : Int) < (t2.size : Int)) = false := decide_eq_false c16z
              have HJ4 : ∀ n, Hid (VI g o2 t2 ANS w (wq.drewN n)) := fun n => Lib.hid (HJ3.out.drew n)
              go_quiet (fail)
              have HJ5 := HJ4 nq
              clear HJ3 HJ4
              generalize wq.drewN nq = wq2 at *
              go_wp2_with fail
              go_roundg g'
              case measure => omega
              case rel => exact ⟨t2, o2, rfl, by omega, HJ5.out⟩
          · have hz1b : ((Z1 : Int) == 0) = false := by simp; omega
            go_wp2_with (go_at_call 142; refine (HC1.out _ _ _ _ hr1).mono ?_; rintro e W1 ⟨rfl, q1, rfl⟩)
            go_roundg g'
            case measure => omega
            case rel => exact ⟨t1, o1, rfl, by omega, HJ1.out.drew q1⟩
        · have c8z : ¬ ((8 : Int) < (t1.size : Int)) := by omega
          go_wp2_with fail
          go_roundg g'
          case measure => omega
          case rel => exact ⟨t1, o1, rfl, by omega, HJ1.out⟩
      · have hge : 128 ≤ x0.toNat := by omega
        have hascz : ¬ ((x0.toNat : Int) < 128) := by omega
        obtain ⟨X, LO, HIb, hlead, hXlt, hc0, ha0, ha1⟩ := leadOf HEr.out h0 HX0.out hge HI.out.ans
        have h7 := and7b X hXlt
        obtain ⟨SZ, hSZ⟩ : ∃ SZ, X % 8 = SZ := ⟨_, rfl⟩
        rw [hSZ] at hlead
        have HL := Lib.hid hlead
        clear hlead hasc
        by_cases s2 : SZ = 2
        · as_aux_lemma =>
          subst s2
          have hSZz : (X : Int) % 8 = 2 := by omega
          have hlead := HL.out
          simp only [Lib.checkN, Nat.reduceEqDiff, if_true, if_false] at hlead
          obtain ⟨x1, hx1⟩ : ∃ x1, t.get! 1 = x1 := ⟨_, rfl⟩
          have l1 := x1.toNat_lt
          rw [hx1] at hlead
          have HLL := Lib.hid hlead
          clear hlead HL
          go_upto_region 18 with fail
          have HI2 : VI g o t ANS w (wr.alloc (.cells #[.int .u8 LO, .int .u8 HIb] 88)) := HI.out.alloc _
          have q0' := acc_cells wr LO HIb
          obtain ⟨m0, m1⟩ := q0'
          have b1 : 1 < t.size → (wr.alloc (.cells #[.int .u8 LO, .int .u8 HIb] 88)).cell? ⟨g, o + 1, none⟩ = some (.int .u8 x1.toNat) := fun h => by have := HI2.row 1 h; rw [get_at, hx1] at this; exact this
          generalize wr.alloc (.cells #[.int .u8 LO, .int .u8 HIb] 88) = wa at *
          have HA := Lib.hid HI2
          have HBs := Lib.hid b1
          clear HI2 hby b0 HI hc0 ha0 ha1 b1
          go_cut [103] from 85 to 103 (fun c wx => c = .bool (decide (t.size < 2 ∨ x1.toNat < LO ∨ HIb < x1.toNat)) ∧ VI g o t ANS w wx)
          case first =>
            by_cases q0 : t.size < 2
            · have q0z : (t.size : Int) < 2 := by omega
              go_quiet (fail)
              go_wp2_with fail
              go_meet
              exact ⟨congrArg Value.bool (decide_eq_true (p := t.size < 2 ∨ x1.toNat < LO ∨ HIb < x1.toNat) (by omega)).symm, HA.out.drew _⟩
            · have q0z : ¬ ((t.size : Int) < 2) := by omega
              have n1 : (1 : Int) < (t.size : Int) := by omega
              have b1 := HBs.out (by omega)
              by_cases q1 : x1.toNat < LO
              · have q1z : (x1.toNat : Int) < (LO : Int) := by omega
                go_quiet (fail)
                go_wp2_with fail
                go_meet
                exact ⟨congrArg Value.bool (decide_eq_true (p := t.size < 2 ∨ x1.toNat < LO ∨ HIb < x1.toNat) (by omega)).symm, HA.out.drew _⟩
              · have q1z : ¬ ((x1.toNat : Int) < (LO : Int)) := by omega
                by_cases q2 : HIb < x1.toNat
                · have q2z : (HIb : Int) < (x1.toNat : Int) := by omega
                  go_quiet (fail)
                  go_wp2_with fail
                  go_meet
                  exact ⟨congrArg Value.bool (decide_eq_true (p := t.size < 2 ∨ x1.toNat < LO ∨ HIb < x1.toNat) (by omega)).symm, HA.out.drew _⟩
                · have q2z : ¬ ((HIb : Int) < (x1.toNat : Int)) := by omega
                  go_quiet (fail)
                  go_wp2_with fail
                  go_meet
                  exact ⟨congrArg Value.bool (decide_eq_false (p := t.size < 2 ∨ x1.toNat < LO ∨ HIb < x1.toNat) (by omega)).symm, HA.out.drew _⟩
          case rest =>
            obtain ⟨rfl, hI3⟩ := hcut
            have HI3 := Lib.hid hI3
            clear hI3 HA HBs m0 m1
            by_cases hb : t.size < 2 ∨ x1.toNat < LO ∨ HIb < x1.toNat
            · have hbd : decide (t.size < 2 ∨ x1.toNat < LO ∨ HIb < x1.toNat) = true := decide_eq_true hb
              have hl := HLL.out
              rw [if_pos hb] at hl
              have HL2 := Lib.hid hl
              clear hl HLL
              go_wp2_with fail
              all_goals (go_ret; exact ⟨retB HL2.out.symm, HI3.out.below⟩)
            · have hbd : decide (t.size < 2 ∨ x1.toNat < LO ∨ HIb < x1.toNat) = false := decide_eq_false hb
              have hl := HLL.out
              rw [if_neg hb] at hl
              obtain ⟨o5, t5, z5, sl5, r5, e5⟩ := HI3.out.cut' (k := 2) (by omega) 2 rfl
              have J5 : VI g o5 t5 ANS w wc := ⟨HI3.out.below, by rw [hl, ← e5, Lib.ext_list], by omega, r5⟩
              have HJ5 := Lib.hid J5
              clear hl HLL HI3 J5 r5 e5
              go_wp2_with fail
              go_roundg g'
              case measure => omega
              case rel => exact ⟨t5, o5, rfl, by omega, HJ5.out⟩
        by_cases s3 : SZ = 3
        · as_aux_lemma =>
          subst s3
          have hSZz : (X : Int) % 8 = 3 := by omega
          have hlead := HL.out
          simp only [Lib.checkN, Nat.reduceEqDiff, if_true, if_false] at hlead
          obtain ⟨x1, hx1⟩ : ∃ x1, t.get! 1 = x1 := ⟨_, rfl⟩
          have l1 := x1.toNat_lt
          obtain ⟨x2, hx2⟩ : ∃ x2, t.get! 2 = x2 := ⟨_, rfl⟩
          have l2 := x2.toNat_lt
          rw [hx1, hx2] at hlead
          have HLL := Lib.hid hlead
          clear hlead HL
          go_upto_region 22 with fail
          have HI2 : VI g o t ANS w (wr.alloc (.cells #[.int .u8 LO, .int .u8 HIb] 88)) := HI.out.alloc _
          have q0' := acc_cells wr LO HIb
          obtain ⟨m0, m1⟩ := q0'
          have b1 : 1 < t.size → (wr.alloc (.cells #[.int .u8 LO, .int .u8 HIb] 88)).cell? ⟨g, o + 1, none⟩ = some (.int .u8 x1.toNat) := fun h => by have := HI2.row 1 h; rw [get_at, hx1] at this; exact this
          have b2 : 2 < t.size → (wr.alloc (.cells #[.int .u8 LO, .int .u8 HIb] 88)).cell? ⟨g, o + 2, none⟩ = some (.int .u8 x2.toNat) := fun h => by have := HI2.row 2 h; rw [get_at, hx2] at this; exact this
          generalize wr.alloc (.cells #[.int .u8 LO, .int .u8 HIb] 88) = wa at *
          have HA := Lib.hid HI2
          have HBs := Lib.hid (And.intro b1 b2)
          clear HI2 hby b0 HI hc0 ha0 ha1 b1 b2
          go_cut [138] from 108 to 138 (fun c wx => c = .bool (decide (t.size < 3 ∨ x1.toNat < LO ∨ HIb < x1.toNat ∨ x2.toNat < 128 ∨ 191 < x2.toNat)) ∧ VI g o t ANS w wx)
          case first =>
            by_cases q0 : t.size < 3
            · have q0z : (t.size : Int) < 3 := by omega
              go_quiet (fail)
              go_wp2_with fail
              go_meet
              exact ⟨congrArg Value.bool (decide_eq_true (p := t.size < 3 ∨ x1.toNat < LO ∨ HIb < x1.toNat ∨ x2.toNat < 128 ∨ 191 < x2.toNat) (by omega)).symm, HA.out.drew _⟩
            · have q0z : ¬ ((t.size : Int) < 3) := by omega
              have n1 : (1 : Int) < (t.size : Int) := by omega
              have n2 : (2 : Int) < (t.size : Int) := by omega
              have b1 := HBs.out.1 (by omega)
              have b2 := HBs.out.2 (by omega)
              by_cases q1 : x1.toNat < LO
              · have q1z : (x1.toNat : Int) < (LO : Int) := by omega
                go_quiet (fail)
                go_wp2_with fail
                go_meet
                exact ⟨congrArg Value.bool (decide_eq_true (p := t.size < 3 ∨ x1.toNat < LO ∨ HIb < x1.toNat ∨ x2.toNat < 128 ∨ 191 < x2.toNat) (by omega)).symm, HA.out.drew _⟩
              · have q1z : ¬ ((x1.toNat : Int) < (LO : Int)) := by omega
                by_cases q2 : HIb < x1.toNat
                · have q2z : (HIb : Int) < (x1.toNat : Int) := by omega
                  go_quiet (fail)
                  go_wp2_with fail
                  go_meet
                  exact ⟨congrArg Value.bool (decide_eq_true (p := t.size < 3 ∨ x1.toNat < LO ∨ HIb < x1.toNat ∨ x2.toNat < 128 ∨ 191 < x2.toNat) (by omega)).symm, HA.out.drew _⟩
                · have q2z : ¬ ((HIb : Int) < (x1.toNat : Int)) := by omega
                  by_cases q3 : x2.toNat < 128
                  · have q3z : (x2.toNat : Int) < 128 := by omega
                    go_quiet (fail)
                    go_wp2_with fail
                    go_meet
                    exact ⟨congrArg Value.bool (decide_eq_true (p := t.size < 3 ∨ x1.toNat < LO ∨ HIb < x1.toNat ∨ x2.toNat < 128 ∨ 191 < x2.toNat) (by omega)).symm, HA.out.drew _⟩
                  · have q3z : ¬ ((x2.toNat : Int) < 128) := by omega
                    by_cases q4 : 191 < x2.toNat
                    · have q4z : (191 : Int) < (x2.toNat : Int) := by omega
                      go_quiet (fail)
                      go_wp2_with fail
                      go_meet
                      exact ⟨congrArg Value.bool (decide_eq_true (p := t.size < 3 ∨ x1.toNat < LO ∨ HIb < x1.toNat ∨ x2.toNat < 128 ∨ 191 < x2.toNat) (by omega)).symm, HA.out.drew _⟩
                    · have q4z : ¬ ((191 : Int) < (x2.toNat : Int)) := by omega
                      go_quiet (fail)
                      go_wp2_with fail
                      go_meet
                      exact ⟨congrArg Value.bool (decide_eq_false (p := t.size < 3 ∨ x1.toNat < LO ∨ HIb < x1.toNat ∨ x2.toNat < 128 ∨ 191 < x2.toNat) (by omega)).symm, HA.out.drew _⟩
          case rest =>
            obtain ⟨rfl, hI3⟩ := hcut
            have HI3 := Lib.hid hI3
            clear hI3 HA HBs m0 m1
            by_cases hb : t.size < 3 ∨ x1.toNat < LO ∨ HIb < x1.toNat ∨ x2.toNat < 128 ∨ 191 < x2.toNat
            · have hbd : decide (t.size < 3 ∨ x1.toNat < LO ∨ HIb < x1.toNat ∨ x2.toNat < 128 ∨ 191 < x2.toNat) = true := decide_eq_true hb
              have hl := HLL.out
              rw [if_pos hb] at hl
              have HL2 := Lib.hid hl
              clear hl HLL
              go_wp2_with fail
              all_goals (go_ret; exact ⟨retB HL2.out.symm, HI3.out.below⟩)
            · have hbd : decide (t.size < 3 ∨ x1.toNat < LO ∨ HIb < x1.toNat ∨ x2.toNat < 128 ∨ 191 < x2.toNat) = false := decide_eq_false hb
              have hl := HLL.out
              rw [if_neg hb] at hl
              obtain ⟨o5, t5, z5, sl5, r5, e5⟩ := HI3.out.cut' (k := 3) (by omega) 3 rfl
              have J5 : VI g o5 t5 ANS w wc := ⟨HI3.out.below, by rw [hl, ← e5, Lib.ext_list], by omega, r5⟩
              have HJ5 := Lib.hid J5
              clear hl HLL HI3 J5 r5 e5
              go_wp2_with fail
              go_roundg g'
              case measure => omega
              case rel => exact ⟨t5, o5, rfl, by omega, HJ5.out⟩
        by_cases s4 : SZ = 4
        · as_aux_lemma =>
          subst s4
          have hSZz : (X : Int) % 8 = 4 := by omega
          have hlead := HL.out
          simp only [Lib.checkN, Nat.reduceEqDiff, if_true, if_false] at hlead
          obtain ⟨x1, hx1⟩ : ∃ x1, t.get! 1 = x1 := ⟨_, rfl⟩
          have l1 := x1.toNat_lt
          obtain ⟨x2, hx2⟩ : ∃ x2, t.get! 2 = x2 := ⟨_, rfl⟩
          have l2 := x2.toNat_lt
          obtain ⟨x3, hx3⟩ : ∃ x3, t.get! 3 = x3 := ⟨_, rfl⟩
          have l3 := x3.toNat_lt
          rw [hx1, hx2, hx3] at hlead
          have HLL := Lib.hid hlead
          clear hlead HL
          go_upto_region 26 with fail
          have HI2 : VI g o t ANS w (wr.alloc (.cells #[.int .u8 LO, .int .u8 HIb] 88)) := HI.out.alloc _
          have q0' := acc_cells wr LO HIb
          obtain ⟨m0, m1⟩ := q0'
          have b1 : 1 < t.size → (wr.alloc (.cells #[.int .u8 LO, .int .u8 HIb] 88)).cell? ⟨g, o + 1, none⟩ = some (.int .u8 x1.toNat) := fun h => by have := HI2.row 1 h; rw [get_at, hx1] at this; exact this
          have b2 : 2 < t.size → (wr.alloc (.cells #[.int .u8 LO, .int .u8 HIb] 88)).cell? ⟨g, o + 2, none⟩ = some (.int .u8 x2.toNat) := fun h => by have := HI2.row 2 h; rw [get_at, hx2] at this; exact this
          have b3 : 3 < t.size → (wr.alloc (.cells #[.int .u8 LO, .int .u8 HIb] 88)).cell? ⟨g, o + 3, none⟩ = some (.int .u8 x3.toNat) := fun h => by have := HI2.row 3 h; rw [get_at, hx3] at this; exact this
          generalize wr.alloc (.cells #[.int .u8 LO, .int .u8 HIb] 88) = wa at *
          have HA := Lib.hid HI2
          have HBs := Lib.hid (And.intro b1 (And.intro b2 b3))
          clear HI2 hby b0 HI hc0 ha0 ha1 b1 b2 b3
          go_cut [185] from 143 to 185 (fun c wx => c = .bool (decide (t.size < 4 ∨ x1.toNat < LO ∨ HIb < x1.toNat ∨ x2.toNat < 128 ∨ 191 < x2.toNat ∨ x3.toNat < 128 ∨ 191 < x3.toNat)) ∧ VI g o t ANS w wx)
          case first =>
            by_cases q0 : t.size < 4
            · have q0z : (t.size : Int) < 4 := by omega
              go_quiet (fail)
              go_wp2_with fail
              go_meet
              exact ⟨congrArg Value.bool (decide_eq_true (p := t.size < 4 ∨ x1.toNat < LO ∨ HIb < x1.toNat ∨ x2.toNat < 128 ∨ 191 < x2.toNat ∨ x3.toNat < 128 ∨ 191 < x3.toNat) (by omega)).symm, HA.out.drew _⟩
            · have q0z : ¬ ((t.size : Int) < 4) := by omega
              have n1 : (1 : Int) < (t.size : Int) := by omega
              have n2 : (2 : Int) < (t.size : Int) := by omega
              have n3 : (3 : Int) < (t.size : Int) := by omega
              have b1 := HBs.out.1 (by omega)
              have b2 := HBs.out.2.1 (by omega)
              have b3 := HBs.out.2.2 (by omega)
              by_cases q1 : x1.toNat < LO
              · have q1z : (x1.toNat : Int) < (LO : Int) := by omega
                go_quiet (fail)
                go_wp2_with fail
                go_meet
                exact ⟨congrArg Value.bool (decide_eq_true (p := t.size < 4 ∨ x1.toNat < LO ∨ HIb < x1.toNat ∨ x2.toNat < 128 ∨ 191 < x2.toNat ∨ x3.toNat < 128 ∨ 191 < x3.toNat) (by omega)).symm, HA.out.drew _⟩
              · have q1z : ¬ ((x1.toNat : Int) < (LO : Int)) := by omega
                by_cases q2 : HIb < x1.toNat
                · have q2z : (HIb : Int) < (x1.toNat : Int) := by omega
                  go_quiet (fail)
                  go_wp2_with fail
                  go_meet
                  exact ⟨congrArg Value.bool (decide_eq_true (p := t.size < 4 ∨ x1.toNat < LO ∨ HIb < x1.toNat ∨ x2.toNat < 128 ∨ 191 < x2.toNat ∨ x3.toNat < 128 ∨ 191 < x3.toNat) (by omega)).symm, HA.out.drew _⟩
                · have q2z : ¬ ((HIb : Int) < (x1.toNat : Int)) := by omega
                  by_cases q3 : x2.toNat < 128
                  · have q3z : (x2.toNat : Int) < 128 := by omega
                    go_quiet (fail)
                    go_wp2_with fail
                    go_meet
                    exact ⟨congrArg Value.bool (decide_eq_true (p := t.size < 4 ∨ x1.toNat < LO ∨ HIb < x1.toNat ∨ x2.toNat < 128 ∨ 191 < x2.toNat ∨ x3.toNat < 128 ∨ 191 < x3.toNat) (by omega)).symm, HA.out.drew _⟩
                  · have q3z : ¬ ((x2.toNat : Int) < 128) := by omega
                    by_cases q4 : 191 < x2.toNat
                    · have q4z : (191 : Int) < (x2.toNat : Int) := by omega
                      go_quiet (fail)
                      go_wp2_with fail
                      go_meet
                      exact ⟨congrArg Value.bool (decide_eq_true (p := t.size < 4 ∨ x1.toNat < LO ∨ HIb < x1.toNat ∨ x2.toNat < 128 ∨ 191 < x2.toNat ∨ x3.toNat < 128 ∨ 191 < x3.toNat) (by omega)).symm, HA.out.drew _⟩
                    · have q4z : ¬ ((191 : Int) < (x2.toNat : Int)) := by omega
                      by_cases q5 : x3.toNat < 128
                      · have q5z : (x3.toNat : Int) < 128 := by omega
                        go_quiet (fail)
                        go_wp2_with fail
                        go_meet
                        exact ⟨congrArg Value.bool (decide_eq_true (p := t.size < 4 ∨ x1.toNat < LO ∨ HIb < x1.toNat ∨ x2.toNat < 128 ∨ 191 < x2.toNat ∨ x3.toNat < 128 ∨ 191 < x3.toNat) (by omega)).symm, HA.out.drew _⟩
                      · have q5z : ¬ ((x3.toNat : Int) < 128) := by omega
                        by_cases q6 : 191 < x3.toNat
                        · have q6z : (191 : Int) < (x3.toNat : Int) := by omega
                          go_quiet (fail)
                          go_wp2_with fail
                          go_meet
                          exact ⟨congrArg Value.bool (decide_eq_true (p := t.size < 4 ∨ x1.toNat < LO ∨ HIb < x1.toNat ∨ x2.toNat < 128 ∨ 191 < x2.toNat ∨ x3.toNat < 128 ∨ 191 < x3.toNat) (by omega)).symm, HA.out.drew _⟩
                        · have q6z : ¬ ((191 : Int) < (x3.toNat : Int)) := by omega
                          go_quiet (fail)
                          go_wp2_with fail
                          go_meet
                          exact ⟨congrArg Value.bool (decide_eq_false (p := t.size < 4 ∨ x1.toNat < LO ∨ HIb < x1.toNat ∨ x2.toNat < 128 ∨ 191 < x2.toNat ∨ x3.toNat < 128 ∨ 191 < x3.toNat) (by omega)).symm, HA.out.drew _⟩
          case rest =>
            obtain ⟨rfl, hI3⟩ := hcut
            have HI3 := Lib.hid hI3
            clear hI3 HA HBs m0 m1
            by_cases hb : t.size < 4 ∨ x1.toNat < LO ∨ HIb < x1.toNat ∨ x2.toNat < 128 ∨ 191 < x2.toNat ∨ x3.toNat < 128 ∨ 191 < x3.toNat
            · have hbd : decide (t.size < 4 ∨ x1.toNat < LO ∨ HIb < x1.toNat ∨ x2.toNat < 128 ∨ 191 < x2.toNat ∨ x3.toNat < 128 ∨ 191 < x3.toNat) = true := decide_eq_true hb
              have hl := HLL.out
              rw [if_pos hb] at hl
              have HL2 := Lib.hid hl
              clear hl HLL
              go_wp2_with fail
              all_goals (go_ret; exact ⟨retB HL2.out.symm, HI3.out.below⟩)
            · have hbd : decide (t.size < 4 ∨ x1.toNat < LO ∨ HIb < x1.toNat ∨ x2.toNat < 128 ∨ 191 < x2.toNat ∨ x3.toNat < 128 ∨ 191 < x3.toNat) = false := decide_eq_false hb
              have hl := HLL.out
              rw [if_neg hb] at hl
              obtain ⟨o5, t5, z5, sl5, r5, e5⟩ := HI3.out.cut' (k := 4) (by omega) 4 rfl
              have J5 : VI g o5 t5 ANS w wc := ⟨HI3.out.below, by rw [hl, ← e5, Lib.ext_list], by omega, r5⟩
              have HJ5 := Lib.hid J5
              clear hl HLL HI3 J5 r5 e5
              go_wp2_with fail
              go_roundg g'
              case measure => omega
              case rel => exact ⟨t5, o5, rfl, by omega, HJ5.out⟩
        · have e2 : ¬ ((X : Int) % 8 = 2) := by omega
          have e3 : ¬ ((X : Int) % 8 = 3) := by omega
          have e4 : ¬ ((X : Int) % 8 = 4) := by omega
          have e2b : (((X : Int) % 8) == 2) = false := by simp; omega
          have e3b : (((X : Int) % 8) == 3) = false := by simp; omega
          have e4b : (((X : Int) % 8) == 4) = false := by simp; omega
          have hlead := HL.out
          simp only [Lib.checkN, s2, s3, s4, if_false] at hlead
          have HL2 := Lib.hid hlead
          clear hlead HL
          go_wp2_with fail
          all_goals (go_ret; exact ⟨retB HL2.out.symm, (HI.out.alloc _).below⟩)
    · have h0z : ¬ ((0 : Int) < (t.size : Int)) := by omega
      have hv := HI.out.ans
      have ht0 : t.data.toList = [] := List.eq_nil_of_length_eq_zero (by rw [← Lib.size_eq]; omega)
      rw [ht0, Lib.validD_nil] at hv
      have HV := Lib.hid hv
      clear hv hby ht0
      go_wp2_with fail
      go_ret
      exact ⟨retB HV.out, HI.out.below⟩
end Go.Proofs.YtimhhacfjgbomaaGreatDoor
