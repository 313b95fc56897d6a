/-
  THE WALK of WordsJoin.
-/
import Derived.Test.YtimhhacfjgbomaaGreatDoorLawC
namespace Go.Proofs.YtimhhacfjgbomaaGreatDoor
set_option linter.unusedSimpArgs false
set_option linter.unusedVariables false
open Go.RowKit Go.Shelf

set_option maxHeartbeats 8000000 in
set_option maxRecDepth 100000 in
theorem join_walk (a b : ByteArray) (W : World) (hL : Laid W) :
    Calls Tryz.prog 7 #[.string a, .string b] W fun e W' => e = .returned (.bool true) ∧ Below W.heap.size W W' := by
  have HE := Lib.hid (Env.start hL)
  have HW : Hid (∀ V, Env W.heap.size V → Calls Tryz.prog 11 #[] V fun e w' => e = .returned (.bool true) ∧ Below V.heap.size V w') := Lib.hid fun V h => works_any V h
  clear hL
  by_cases ha : 2000 < a.size
  · have hz : (a.size : Int) > 2000 := by omega
    clear ha
    go_enter Tryz.func7, Tryz.ntmps7
    go_wp2_with (go_at_call 11; refine (HW.out _ HE.out).mono ?_; rintro e w' ⟨rfl, hb⟩)
    go_ret
    exact ⟨rfl, hb⟩
  · have hz : ¬ (a.size : Int) > 2000 := by omega
    by_cases hb : 2000 < b.size
    · have hz2 : (b.size : Int) > 2000 := by omega
      clear ha hb
      go_enter Tryz.func7, Tryz.ntmps7
      go_wp2_with (go_at_call 11; refine (HW.out _ HE.out).mono ?_; rintro e w' ⟨rfl, hb⟩)
      go_ret
      exact ⟨rfl, hb⟩
    · have hz2 : ¬ (b.size : Int) > 2000 := by omega
      have hC : ((a ++ ⟨#[10]⟩) ++ b).data.toList = a.data.toList ++ 10 :: b.data.toList := by simp
      have hCs : ((a ++ ⟨#[10]⟩) ++ b).size ≤ 4001 := by
        rw [← sz, hC, List.length_append, List.length_cons, sz, sz]; omega
      have hJ := fun h => join_law (u := a.data.toList) b.data.toList h
      rw [sz] at hJ
      have h1 := fun V h => lexg_any (n₀ := W.heap.size) a V (by omega) h
      have h2 := fun V h => lexg_any (n₀ := W.heap.size) b V (by omega) h
      have h3 := fun V h => lexg_any (n₀ := W.heap.size) ((a ++ ⟨#[10]⟩) ++ b) V (by omega) h
      have q1 : ¬ 9223372036854775807 < a.size + 1 := by omega
      have q2 : ¬ 9223372036854775807 < a.size + 1 + b.size := by omega
      cases hsa : (scan a.data.toList 0).2 with
      | some n =>
        rw [lexL_some (by omega) hsa] at h1
        have H1 := Lib.hid h1
        have H2 := Lib.hid h2
        have H3 := Lib.hid h3
        clear h1 h2 h3 hC hCs hJ hsa
        generalize lexL b = R2 at *
        generalize lexL ((a ++ ⟨#[10]⟩) ++ b) = R3 at *
        go_enter Tryz.func7, Tryz.ntmps7
        go_wp2_with (go_at_call 12; refine (H1.out _ HE.out).mono ?_)
        rintro e w1 ⟨a1, c1, rfl, _, hb1⟩
        have E1 := Lib.hid (HE.out.below hb1)
        go_wp2_with (go_at_call 12; refine (H2.out _ E1.out).mono ?_)
        rintro e w2 ⟨a2, c2, rfl, _, hb2⟩
        have E2 := Lib.hid (E1.out.below hb2)
        go_wp2_with (go_at_call 12; refine (H3.out _ E2.out).mono ?_)
        rintro e w3 ⟨a3, c3, rfl, _, hb3⟩
        have E3 := Lib.hid (E2.out.below hb3)
        have hb4 := (hb1.trans (hb2.mono hb1.size)).trans (hb3.mono (hb1.trans (hb2.mono hb1.size)).size)
        go_wp2_with (first
          | (go_at_call 14; refine (num_any _ _).mono ?_; rintro e w' ⟨rfl, rfl⟩)
          | (go_at_call 11; refine (HW.out _ E3.out).mono ?_; rintro e w' ⟨rfl, hb⟩))
        go_ret
        exact ⟨rfl, hb4.trans (hb.mono hb4.size)⟩
      | none =>
        rw [lexL_none (by omega) hsa] at h1
        have hJ2 := hJ hsa
        rw [← hC] at hJ2
        have hlc := scan_count a.data.toList
        rw [sz] at hlc
        cases hsb : (scan b.data.toList 0).2 with
        | some n =>
          have hnb := scan_err hsb
          rw [sz] at hnb
          rw [lexL_some (by omega) hsb] at h2
          rw [hsb] at hJ2
          rw [lexL_some (n := n + (a.size + 1)) (by omega) (by rw [hJ2]; rfl)] at h3
          have H1 := Lib.hid h1
          have H2 := Lib.hid h2
          have H3 := Lib.hid h3
          have hpl : (((n + (a.size + 1) : Nat) : Int) == (a.size : Int) + 1 + n) = true := by simp; omega
          clear h1 h2 h3 hC hCs hJ hJ2 hsa hsb
          generalize (scan a.data.toList 0).1 = l at *
          generalize n + (a.size + 1) = PL at *
          go_enter Tryz.func7, Tryz.ntmps7
          go_wp2_with (go_at_call 12; refine (H1.out _ HE.out).mono ?_)
          rintro e w1 ⟨a1, c1, rfl, _, hb1⟩
          have E1 := Lib.hid (HE.out.below hb1)
          go_wp2_with (go_at_call 12; refine (H2.out _ E1.out).mono ?_)
          rintro e w2 ⟨a2, c2, rfl, _, hb2⟩
          have E2 := Lib.hid (E1.out.below hb2)
          go_wp2_with (go_at_call 12; refine (H3.out _ E2.out).mono ?_)
          rintro e w3 ⟨a3, c3, rfl, _, hb3⟩
          have E3 := Lib.hid (E2.out.below hb3)
          have hb4 := (hb1.trans (hb2.mono hb1.size)).trans (hb3.mono (hb1.trans (hb2.mono hb1.size)).size)
          go_wp2_with (first
            | (go_at_call 14; refine (num_any _ _).mono ?_; rintro e w' ⟨rfl, rfl⟩)
            | (go_at_call 11; refine (HW.out _ E3.out).mono ?_; rintro e w' ⟨rfl, hb⟩))
          go_ret
          exact ⟨rfl, hb4.trans (hb.mono hb4.size)⟩
        | none =>
          rw [lexL_none (by omega) hsb] at h2
          rw [hsb] at hJ2
          rw [lexL_none (by omega) (by rw [hJ2]; rfl), hJ2] at h3
          have hlm := scan_count b.data.toList
          rw [sz] at hlm
          have hpp : ∀ p ∈ (scan b.data.toList 0).1, p.2 ≤ 2000 := fun p hp => by have := scan_place hp; rw [sz] at this; omega
          have H1 := Lib.hid h1
          have H2 := Lib.hid h2
          have H3 := Lib.hid h3
          have HPP := Lib.hid hpp
          clear h1 h2 h3 hC hCs hJ hJ2 hsa hsb hpp
          generalize (scan a.data.toList 0).1 = l at *
          generalize (scan b.data.toList 0).1 = m at *
          simp only at H3
          obtain ⟨k, hk⟩ : ∃ k, l ++ m.map (fun p => (p.1, p.2 + (a.size + 1))) = k := ⟨_, rfl⟩
          have hkn : k.length = l.length + m.length := by rw [← hk]; simp
          rw [hk] at H3
          have HK := Lib.hid hk
          have hlz : ((k.length : Int) != (l.length : Int) + (m.length : Int)) = false := by simp; omega
          have HKN := Lib.hid hkn
          have hkb : k.length ≤ 4000 := by omega
          clear hk hkn
          go_enter Tryz.func7, Tryz.ntmps7
          go_wp2_with (go_at_call 12; refine (H1.out _ HE.out).mono ?_)
          rintro e w1 ⟨a1, c1, rfl, g1, hb1⟩
          have E1 := Lib.hid (HE.out.below hb1)
          go_wp2_with (go_at_call 12; refine (H2.out _ E1.out).mono ?_)
          rintro e w2 ⟨a2, c2, rfl, g2, hb2⟩
          have E2 := Lib.hid (E1.out.below hb2)
          go_wp2_with (go_at_call 12; refine (H3.out _ E2.out).mono ?_)
          rintro e w3 ⟨a3, c3, rfl, g3, hb3⟩
          have E3 := Lib.hid (E2.out.below hb3)
          have G1 := Lib.hid (Gws.kept (n := 0) g1 hb2 hb3)
          have G2 := Lib.hid (Gws.below g2 hb3)
          have G3 : Hid (Gws w3 a3 (k.map gwOf)) := Lib.hid g3
          have HB := Lib.hid ((hb1.trans (hb2.mono hb1.size)).trans (hb3.mono (hb1.trans (hb2.mono hb1.size)).size))
          clear hb1 hb2 hb3 g1 g2 g3 E1 E2 H1 H2 H3
          go_wp2_with (go_at_call 14; refine (num_any _ _).mono ?_; rintro e w' ⟨rfl, rfl⟩)
          go_loopg [14] k.length (fun gk v wr => ∃ j : Nat, gk = k.length - j ∧ v = .int .i64 j ∧ j ≤ k.length ∧ Below w3.heap.size w3 wr)
          case atStart => exact ⟨0, rfl, rfl, by omega, Below.refl _ _⟩
          case round =>
            obtain ⟨j, rfl, rfl, hj, hb⟩ := hrel
            by_cases hlt : j < k.length
            · obtain ⟨gk, b3, o3, hgk, rfl, hat3⟩ := (G3.out.below hb).get (i := j) (by simpa using hlt)
              by_cases hl : j < l.length
              · obtain ⟨gl, b1, o1, hgl, rfl, hat1⟩ := (G1.out.below hb).get (i := j) (by simpa using hl)
                have hE : gl = gk := by
                  rw [← HK.out, List.map_append, List.getElem?_append_left (by simpa using hl), hgl] at hgk
                  exact Option.some.inj hgk
                subst hE
                obtain ⟨x0, x1, x2, x3⟩ := hat1.below (ballocR wr (.cells #[.int .i64 0, .int .i64 0, .string ⟨#[]⟩, .int .u64 0] 33))
                have hB4 : Box4 (wr.alloc (.cells #[.int .i64 0, .int .i64 0, .string ⟨#[]⟩, .int .u64 0] 33)) wr.heap.size 0 0 ⟨#[]⟩ 0 := new_at wr _
                obtain ⟨z0, z1, z2, z3⟩ := hB4.cells
                have zf := hB4.fr
                have hbn := ballocR wr (.cells #[.int .i64 gl.k, .int .i64 gl.p, .string gl.t, .int .u64 gl.n] 33)
                obtain ⟨y0, y1, y2, y3⟩ := hat3.below hbn
                obtain ⟨v0, v1, v2, v3⟩ := (show Box4 (wr.alloc (.cells #[.int .i64 gl.k, .int .i64 gl.p, .string gl.t, .int .u64 gl.n] 33)) wr.heap.size gl.k gl.p gl.t gl.n from new_at wr _).cells
                have HBN := Lib.hid (hb.trans (hbn.mono hb.size))
                have hneq : ∀ w, (binOp .neq 33 (.agg #[.int .i64 gl.k, .int .i64 gl.p, .string gl.t, .int .u64 gl.n]) (.agg #[.int .i64 gl.k, .int .i64 gl.p, .string gl.t, .int .u64 gl.n])).run Tryz.prog w = .ok (.bool false) w := fun w => by
                  rw [word_neq]
                  have := eqB_refl gl
                  rw [this]; rfl
                clear hb hbn hB4 hat1 hat3 hgl hgk
                go_upto_region 20 with (fail)
                clear x0 x1 x2 x3 z0 z1 z2 z3 zf
                generalize wr.alloc (.cells #[.int .i64 gl.k, .int .i64 gl.p, .string gl.t, .int .u64 gl.n] 33) = V at *
                go_quiet (fail)
                go_wp2_with fail
                go_roundg (k.length - (j + 1))
                case measure => omega
                case rel => exact ⟨j + 1, rfl, rfl, hlt, bdrewN HBN.out _⟩
              · obtain ⟨i, rfl⟩ : ∃ i, j = l.length + i := ⟨j - l.length, by omega⟩
                have him : i < m.length := by have := HKN.out; omega
                obtain ⟨gm, b2, o2, hgm, rfl, hat2⟩ := (G2.out.below hb).get (i := i) (by simpa using him)
                have hfit : gk = ⟨gm.k, gm.p + a.size + 1, gm.t, gm.n⟩ ∧ 0 ≤ gm.p ∧ gm.p ≤ 2000 := by
                  rw [← HK.out, List.map_append, List.getElem?_append_right (by simp), List.length_map, Nat.add_sub_cancel_left, List.map_map, List.getElem?_map] at hgk
                  obtain ⟨q, hq, rfl⟩ := Option.map_eq_some_iff.1 hgk
                  rw [List.getElem?_map, hq] at hgm
                  simp only [Option.map_some, Option.some.injEq] at hgm
                  subst hgm
                  have hq2 := HPP.out q (List.mem_of_getElem? hq)
                  refine ⟨?_, by show (0 : Int) ≤ (q.2 : Int); omega, by show (q.2 : Int) ≤ 2000; omega⟩
                  show gwOf (q.1, q.2 + (a.size + 1)) = ⟨q.1.k, (q.2 : Int) + a.size + 1, ⟨q.1.t.toArray⟩, q.1.n⟩
                  unfold gwOf
                  simp only [Gw.mk.injEq, true_and, and_true]
                  omega
                obtain ⟨rfl, hp0, hp1⟩ := hfit
                obtain ⟨mk, mp, mt, mn⟩ := gm
                simp only at hp0 hp1 hat3
                obtain ⟨x0, x1, x2, x3⟩ := hat2.below (ballocR wr (.cells #[.int .i64 0, .int .i64 0, .string ⟨#[]⟩, .int .u64 0] 33))
                simp only at x0 x1 x2 x3
                have hB4 : Box4 (wr.alloc (.cells #[.int .i64 0, .int .i64 0, .string ⟨#[]⟩, .int .u64 0] 33)) wr.heap.size 0 0 ⟨#[]⟩ 0 := new_at wr _
                obtain ⟨z0, z1, z2, z3⟩ := hB4.cells
                have zf := hB4.fr
                have hB5 : Box4 (wr.alloc (.cells #[.int .i64 mk, .int .i64 mp, .string mt, .int .u64 mn] 33)) wr.heap.size mk mp mt mn := new_at wr _
                obtain ⟨r0, r1, r2, r3⟩ := hB5.cells
                have rf := hB5.fr
                have hbn := ballocR wr (.cells #[.int .i64 mk, .int .i64 (mp + a.size + 1), .string mt, .int .u64 mn] 33)
                obtain ⟨y0, y1, y2, y3⟩ := hat3.below hbn
                simp only at y0 y1 y2 y3
                obtain ⟨v0, v1, v2, v3⟩ := (show Box4 (wr.alloc (.cells #[.int .i64 mk, .int .i64 (mp + a.size + 1), .string mt, .int .u64 mn] 33)) wr.heap.size mk (mp + a.size + 1) mt mn from new_at wr _).cells
                have HBN := Lib.hid (hb.trans (hbn.mono hb.size))
                have hneq : ∀ w, (binOp .neq 33 (.agg #[.int .i64 mk, .int .i64 (mp + a.size + 1), .string mt, .int .u64 mn]) (.agg #[.int .i64 mk, .int .i64 (mp + a.size + 1), .string mt, .int .u64 mn])).run Tryz.prog w = .ok (.bool false) w := fun w => by
                  rw [word_neq]
                  have := eqB_refl ⟨mk, mp + a.size + 1, mt, mn⟩
                  rw [this]; rfl
                clear hb hbn hB4 hB5 hat2 hat3 hgm hgk
                have t1 : ¬ ((l.length + i : Nat) : Int) < l.length := by omega
                have t2 : ((l.length + i : Nat) : Int) - l.length = (i : Int) := by omega
                go_upto_region 20 with (fail)
                clear x0 x1 x2 x3 z0 z1 z2 z3 zf r0 r1 r2 r3 rf t1 t2
                generalize wr.alloc (.cells #[.int .i64 mk, .int .i64 (mp + a.size + 1), .string mt, .int .u64 mn] 33) = V at *
                go_quiet (fail)
                go_wp2_with fail
                go_roundg (k.length - (l.length + i + 1))
                case measure => omega
                case rel => exact ⟨l.length + i + 1, rfl, by go_num, hlt, bdrewN HBN.out _⟩
            · obtain rfl : j = k.length := by omega
              have E4 := Lib.hid (E3.out.below hb)
              have hb2 := HB.out.trans (hb.mono HB.out.size)
              go_wp2_with (go_at_call 11; refine (HW.out _ E4.out).mono ?_; rintro e w' ⟨rfl, hb3⟩)
              go_ret
              exact ⟨rfl, hb2.trans (hb3.mono hb2.size)⟩
end Go.Proofs.YtimhhacfjgbomaaGreatDoor
