/-
  THE WALK of WordsBounds.
-/
import Derived.RangeFuncNested
import Derived.Test.YtimhhacfjgbomaaGreatDoorBoundsP
import Derived.Test.YtimhhacfjgbomaaGreatDoorRacc
import Derived.Test.YtimhhacfjgbomaaGreatDoorGoes
namespace Go.Proofs.YtimhhacfjgbomaaGreatDoor
set_option linter.unusedSimpArgs false
set_option linter.unusedVariables false
open Go.RowKit Go.Shelf

/-- A block of N bytes, the first k of which are full stops. -/
def Dotted (g N k : Nat) (W : World) : Prop := ∃ cur : Array Value, W.heap[g]? = some (.cells cur 5 (0, 0)) ∧ cur.size = N ∧ ∀ i, i < k → cur[i]? = some (.int .u8 46)
theorem Dotted.cell {g N k i : Nat} {W : World} (h : Dotted g N k W) (hi : i < N) : ∃ x, W.cell? ⟨g, i, none⟩ = some x := by
  obtain ⟨cur, h1, h2, _⟩ := h
  refine ⟨cur[i]'(by omega), ?_⟩
  rw [Lib.cell_of_heap h1]
  exact Array.getElem?_eq_getElem _
theorem Dotted.fr {g N k : Nat} {W : World} (h : Dotted g N k W) (i : Nat) : W.frozen? ⟨g, i, none⟩ = false := by
  obtain ⟨cur, h1, _⟩ := h
  simp [World.frozen?, h1]
theorem Dotted.set {g N k : Nat} {W : World} (h : Dotted g N k W) (hk : k < N) : Dotted g N (k + 1) (W.setCell ⟨g, k, none⟩ (.int .u8 46)) := by
  obtain ⟨cur, h1, h2, h3⟩ := h
  refine ⟨_, set_at _ h1, by simp [h2], fun i hi => ?_⟩
  rw [Array.getElem?_setIfInBounds]
  by_cases e : k = i
  · rw [if_pos e, if_pos (by omega)]
  · rw [if_neg e]; exact h3 i (by omega)
theorem Dotted.next {g N k : Nat} {W W' : World} (h : Dotted g N k W) (hb : Below W.heap.size W W') : Dotted g N k W' := by
  obtain ⟨cur, h1, h2, h3⟩ := h
  exact ⟨cur, (hb.block g (Array.getElem?_eq_some_iff.1 h1).1).trans h1, h2, h3⟩
theorem Dotted.bytes {g N k m : Nat} {W : World} (h : Dotted g N k W) (hm : m ≤ k) {S : ByteArray} (hS : S.data.toList = List.replicate m 46) : Lib.Bytes W g 0 S := by
  obtain ⟨cur, h1, h2, h3⟩ := h
  intro i hi
  have hl : S.size = m := by rw [← sz, hS]; simp
  rw [Lib.cell_of_heap h1, Nat.zero_add, h3 i (by omega)]
  have : S[i] = 46 := by
    rw [← get_list hi]
    have : S.data.toList[i]? = some 46 := by rw [hS, List.getElem?_replicate, if_pos (by omega)]
    exact Option.some.inj ((List.getElem?_eq_getElem _).symm.trans this)
  rw [this]; rfl
theorem Dotted.conv {g N k m : Nat} {W : World} (h : Dotted g N k W) (hm : m ≤ k) {S : ByteArray} (hS : S.data.toList = List.replicate m 46) (cap : Nat) :
    (convert 43 9 (.slice (some ⟨g, 0, none⟩) m cap)).run Tryz.prog W = .ok (.string S) W := by
  have hl : S.size = m := by rw [← sz, hS]; simp
  have := Lib.run_convert_whole W 43 5 9 Tryz.underlying43 Tryz.underlying5 Tryz.underlying9 g 0 S (h.bytes hm hS) cap
  rw [hl] at this
  exact this

theorem boxed_off {W : World} {b c : Nat} {t : TypeId} {v : Value} (h : Boxed W b t v) (hne : b ≠ c) (o : Nat) (u : Value) : Boxed (W.setCell ⟨c, o, none⟩ u) b t v := (Below.heap_setCell W ⟨c, o, none⟩ u b hne).trans h
theorem boxed_below {U V : World} {b : Nat} {t : TypeId} {v : Value} (h : Boxed U b t v) (hb : Below U.heap.size U V) : Boxed V b t v := (hb.block b (Array.getElem?_eq_some_iff.1 h).1).trans h
theorem make_dots (w : World) (N : Nat) (hN : N = 1048577) : ∃ V, (Instr.makeSlice 43 (.int .i64 1048577) (.int .i64 1048577)).run Tryz.prog w = .ok (.slice (some ⟨w.heap.size, 0, none⟩) N N) V ∧ Dotted w.heap.size N 0 V ∧ Below w.heap.size w V := by
  obtain ⟨i0, hinf, hz0, hz1, hz2⟩ := info_parts info_u8
  obtain ⟨V, h1, h2, h3⟩ := run_make_full (P := Tryz.prog) w w.heap.size 43 5 i0 (.int .u8 0) 1 Tryz.underlying43 hinf hz0 hz1 .i64 .i64 N (by rw [hz2]; omega) (by unfold maxLen; omega) (Nat.le_refl _)
  rw [show (N : Int) = 1048577 by omega] at h1
  refine ⟨V, h1, ?_, h3.os, h3.tape, h3.output, h3.size, fun i hi => h3.block i hi (by simp)⟩
  rcases h2.2 with ⟨e, h0⟩ | ⟨g, cap, cur, e, hb, hh, hnc, hcm, hcs, ht⟩
  · omega
  · injection e with e1 e2 e3
    cases e1
    exact ⟨cur, hh, by omega, fun i hi => by omega⟩
theorem dots_prn {l : List Gw} (h : Dots l) (hl : l.length ≤ 1048577) : Short l ∧ (∀ g ∈ l, g.n < 18446744073709551616) ∧ ((l.map Gw.tell).map fun x => x.length + 1).sum ≤ 549755813888 := by
  refine ⟨fun g hg => ?_, fun g hg => ?_, ?_⟩
  · rw [(h g hg).2.1]; decide
  · rw [(h g hg).2.2]; decide
  · rw [dots_tell h, List.map_replicate, List.sum_replicate_nat]
    show l.length * 2 ≤ _
    omega
theorem Dots.take {l : List Gw} (h : Dots l) (m : Nat) : Dots (l.take m) := fun g hg => h g (List.mem_of_mem_take hg)
theorem Gws.take {w : World} {a : Option Addr} {l : List Gw} (h : Gws w a l) (m : Nat) : Gws w a (l.take m) := by
  rcases h with rfl | ⟨b, o, e, h⟩
  · exact .inl (by simp)
  · exact .inr ⟨b, o, e, fun i g hg => h i g (by
      rw [List.getElem?_take] at hg
      split at hg
      · exact hg
      · cases hg)⟩
/-- Lex, with the room that its answer has. -/
def LexC (r : List (Wd × Nat) × Nat × Nat) (W : World) (e : Ending) (w' : World) : Prop :=
  ∃ a cap, e = .returned (.tuple #[.slice a r.1.length cap, .int .i64 r.2.1, .int .i64 r.2.2]) ∧ r.1.length ≤ cap ∧ Gws w' a (r.1.map gwOf) ∧ Below W.heap.size W w'
theorem lexc_any {n₀ : Nat} (s : ByteArray) (W : World) (hs : s.size ≤ 281474976710656) (hE : Env n₀ W) : Calls Tryz.prog 12 #[.string s] W (LexC (lexL s) W) :=
  (lex_any s W hs hE).mono fun e w' ⟨v, h1, h2, h3⟩ => by
    obtain ⟨a, cap, rfl, hg⟩ := gws_owns h2
    refine ⟨a, cap, h1, ?_, hg, h3⟩
    rcases h2.2 with ⟨e, h0⟩ | ⟨g, cap', cur, e, hb, hh, hnc, hcm, hcs, ht⟩
    · omega
    · injection e with e1 e2 e3
      omega
theorem lexL_dots {S : ByteArray} {M : Nat} (hM : M ≤ 1048576) (hS : S.data.toList = List.replicate M 46) : ∃ k, lexL S = (k, 0, 0) ∧ Dots (k.map gwOf) ∧ k.length = M := by
  have hsz : S.size = M := by rw [← sz, hS]; simp
  obtain ⟨h1, h2⟩ := dots_scan M 0
  rw [← hS] at h1 h2
  obtain ⟨h3, h4⟩ := dots_of h2
  exact ⟨_, lexL_none (by omega) h1, h3, h4⟩
theorem lexL_long {S : ByteArray} (h : 1048576 < S.size) : lexL S = ([], 0, 3) := by
  unfold lexL lexR
  rw [if_pos h]
  rfl

theorem leave_bounds {W U : World} {b D : Nat} {T : Array Value} (hKD : U.heap[D]? = some (.deferred (some []))) (hE : Boxed U b 4 (.bool true)) (hB : Below W.heap.size W U) (hD : W.heap.size ≤ D)
    (hres : ∀ w : World, w.cell? ⟨b, 0, none⟩ = some (.bool true) → (results Tryz.f5 T).run Tryz.prog w = .ok (.bool true) w) :
    bodyPostM Fence.wide 5 Tryz.prog Tryz.f5 (fun e w' => e = .returned (.bool true) ∧ Below W.heap.size W w') .ret { tmps := T, defers := [{ target := .collected D, args := #[] }] } U := by
  have hne : D ≠ b := fun e => by subst e; rw [show U.heap[D]? = _ from hE] at hKD; cases hKD
  have hE2 : Boxed (U.putObj D (.deferred none)) b 4 (.bool true) := hE.kept (grownBy_putObj' U D _) (fun e => hne (by cases e; rfl))
  have hB2 : Below W.heap.size W (U.putObj D (.deferred none)) := hB.grown (grownBy_putObj' U D _) (hB.size) (fun k e => by cases e; exact hD)
  refine ⟨by simp, .inl ⟨_, _, rfl, run_takeDeferred hKD, ?_⟩⟩
  exact ⟨_, hres _ hE2.cell, rfl, hB2⟩

set_option maxHeartbeats 8000000 in
set_option maxRecDepth 100000 in
theorem bounds_walk (W : World) (hL : Laid W) :
    Calls Tryz.prog 5 #[] W fun e W' => e = .returned (.bool true) ∧ Below W.heap.size W W' := by
  obtain ⟨M, hM⟩ : ∃ M : Nat, M = 1048576 := ⟨_, rfl⟩
  obtain ⟨S1, hS1⟩ : ∃ S : ByteArray, S.data.toList = List.replicate M 46 := ⟨⟨(List.replicate M 46).toArray⟩, rfl⟩
  obtain ⟨S2, hS2⟩ : ∃ S : ByteArray, S.data.toList = List.replicate (M + 1) 46 := ⟨⟨(List.replicate (M + 1) 46).toArray⟩, rfl⟩
  obtain ⟨b, hb⟩ : ∃ b, W.heap.size = b := ⟨_, rfl⟩
  obtain ⟨N, hN⟩ : ∃ N : Nat, N = 1048577 := ⟨_, rfl⟩
  have hbx := Boxed.new W 4 (.bool false)
  obtain ⟨V, hmk, hd, hbv⟩ := make_dots (W.alloc (.cells #[.bool false] 4)) N hN
  rw [World.size_alloc, hb] at hmk hd
  rw [hb] at hbx
  have HE := Lib.hid (Env.start hL)
  have HM := Lib.hid (And.intro hM hN)
  have HS1 := Lib.hid hS1
  have HS2 := Lib.hid hS2
  have HB0 := Lib.hid ((ballocR W (.cells #[.bool false] 4)).trans (hbv.mono (by simp)))
  have HD := Lib.hid hd
  have HX := Lib.hid (show Boxed V b 4 (.bool false) from (hbv.block b (by simp; omega)).trans hbx)
  have HBB := Lib.hid hb
  clear hL hM hS1 hS2 hd hbx hbv hN
  refine (callsIn_wide (n := 5)).1 ?_
  have h1 : 1 ≤ 5 := by omega
  refine callsIn_of_wp_marks Tryz.func5 rfl trivial ?_ rfl
  refine wpIn_wide.2 ?_
  simp only [Tryz.ntmps5, List.size_toArray, List.length_cons, List.length_nil, Nat.reduceAdd, Nat.reduceSub, Array.replicate_succ, Array.replicate_zero, List.push_toArray, List.append_toArray, List.nil_append, List.cons_append]
  go_wp2_with fail
  clear hmk hb
  go_loopg [2] N (fun gk v wr => ∃ j : Nat, gk = N - j ∧ v = .int .i64 j ∧ j ≤ N ∧ Dotted (b + 1) N j wr ∧ Boxed wr b 4 (.bool false) ∧ Below W.heap.size W wr)
  case atStart => exact ⟨0, rfl, rfl, by omega, HD.out, HX.out, HB0.out⟩
  case round =>
    obtain ⟨j, rfl, rfl, hj, hd, hbx, hbl⟩ := hrel
    clear HD HX HB0
    have HD := Lib.hid hd
    have HX := Lib.hid hbx
    have HB := Lib.hid hbl
    clear hd hbx hbl
    by_cases hlt : j < N
    · obtain ⟨x, hc⟩ := HD.out.cell hlt
      have hf := HD.out.fr j
      have hn9 : N ≤ 9223372036854775806 := by have := HM.out.2; omega
      go_wp2_with fail
      go_roundg (N - (j + 1))
      case measure => omega
      case rel => exact ⟨j + 1, rfl, rfl, hlt, HD.out.set hlt, boxed_off HX.out (by omega) _ _, HB.out.setCell (p := ⟨b + 1, j, none⟩) (by have := HBB.out; show _ ≤ b + 1; omega) _⟩
    · obtain rfl : j = N := by omega
      have hl0 : Hid (Dotted (b + 1) j j wr) := HD
      have hcv1 := HD.out.conv (m := M) (by have := HM.out; omega) HS1.out j
      rw [HM.out.1] at hcv1
      have hcap : (1048576 : Int) ≤ j := by have := HM.out; omega
      obtain ⟨k1, hk1, hdt, hkl⟩ := lexL_dots (by have := HM.out; omega) HS1.out
      have hz1 : S1.size = M := by rw [← sz, HS1.out]; simp
      have hlx := lexc_any (n₀ := W.heap.size) S1 wr (by have := HM.out; omega) (HE.out.below HB.out)
      rw [hk1] at hlx
      have HLX := Lib.hid hlx
      have HKL := Lib.hid hkl
      have HDT := Lib.hid hdt
      clear hlx hkl hdt hk1 hz1 hlt hj
      go_wp2_with fail
      refine HLX.out.mono ?_
      rintro e w1 ⟨a1, c1, rfl, hc1, g1, hb1⟩
      have HD1 := Lib.hid (HD.out.next hb1)
      have HX1 := Lib.hid (boxed_next HX.out hb1)
      have HB1 := Lib.hid (HB.out.trans (hb1.mono HB.out.size))
      have G1 := Lib.hid (show Gws w1 a1 (k1.map gwOf) from g1)
      have HC1 := Lib.hid (show k1.length ≤ c1 from hc1)
      clear g1 hb1 hc1 hcv1 HD HX HB hl0 HLX hcap
      have hcv2 := HD1.out.conv (m := M + 1) (by have := HM.out; omega) HS2.out j
      rw [show M + 1 = j by have := HM.out; omega] at hcv2
      have hlx := lexc_any (n₀ := W.heap.size) S2 w1 (by rw [← sz, HS2.out]; have := HM.out; simp; omega) (HE.out.below HB1.out)
      rw [lexL_long (by rw [← sz, HS2.out]; have := HM.out; simp; omega)] at hlx
      have HLX := Lib.hid hlx
      clear hlx
      simp only
      go_wp2_with fail
      refine HLX.out.mono ?_
      rintro e w2 ⟨a2, c2, rfl, _, _, hb2⟩
      have HD2 := Lib.hid (HD1.out.next hb2)
      have HX2 := Lib.hid (boxed_next HX1.out hb2)
      have HB2 := Lib.hid (HB1.out.trans (hb2.mono HB1.out.size))
      have G2 := Lib.hid (G1.out.below hb2)
      clear hb2 hcv2 HD1 HX1 HB1 G1 HLX
      simp only [List.length_nil]
      have hkm : (k1.length : Int) = 1048576 := by have := HKL.out; have := HM.out; omega
      have hm1 : min (1048576 : Int) 524288 = 524288 := by decide
      have hm2 : min (1048576 : Int) 524289 = 524289 := by decide
      have hc4 : (524288 : Int) ≤ c1 := by have := HKL.out; have := HM.out; have := HC1.out; omega
      have hc5 : (524289 : Int) ≤ c1 := by have := HKL.out; have := HM.out; have := HC1.out; omega
      have hkg : (k1.map gwOf).length = 1048576 := by rw [List.length_map]; have := HKL.out; have := HM.out; omega
      have hl4 : ((k1.map gwOf).take 524288).length = 524288 := by rw [List.length_take, hkg]; decide
      have hl5 : ((k1.map gwOf).take 524289).length = 524289 := by rw [List.length_take, hkg]; decide
      obtain ⟨T, hT, hTl⟩ := dots_print (HDT.out.take 524288) (by rw [hl4]; decide)
      rw [hl4] at hTl
      have hP1 := print_any (n₀ := W.heap.size) 524288 c1 w2 (G2.out.take 524288) hl4.symm (dots_prn (HDT.out.take _) (by rw [hl4]; decide)).1 (dots_prn (HDT.out.take _) (by rw [hl4]; decide)).2.1 (dots_prn (HDT.out.take _) (by rw [hl4]; decide)).2.2 (by decide) (HE.out.below HB2.out)
      rw [hT] at hP1
      have hP2 : ∀ V, Below w2.heap.size w2 V → Calls Tryz.prog 26 #[.slice a1 524289 c1] V fun e w' => e = .returned (.tuple #[.string ⟨#[]⟩, .int .i64 3]) ∧ Below V.heap.size V w' := fun V h => by
        have := print_any (n₀ := W.heap.size) 524289 c1 V ((G2.out.take 524289).below h) hl5.symm (dots_prn (HDT.out.take _) (by rw [hl5]; decide)).1 (dots_prn (HDT.out.take _) (by rw [hl5]; decide)).2.1 (dots_prn (HDT.out.take _) (by rw [hl5]; decide)).2.2 (by decide) ((HE.out.below HB2.out).below h)
        rw [dots_long (HDT.out.take 524289) (by rw [hl5]; decide)] at this
        exact this
      obtain ⟨TB, hTB⟩ : ∃ TB : ByteArray, (⟨T.toArray⟩ : ByteArray) = TB := ⟨_, rfl⟩
      have hTBs : TB.size = 1048575 := by rw [← hTB]; exact hTl
      have HP1 : Hid (Calls Tryz.prog 26 #[.slice a1 524288 c1] w2 fun e w' => e = .returned (.tuple #[.string TB, .int .i64 0]) ∧ Below w2.heap.size w2 w') := Lib.hid (by rw [← hTB]; exact hP1)
      have HP2 := Lib.hid hP2
      have HTS := Lib.hid hTBs
      clear hP1 hP2 hTl hT hTB hTBs hl4 hl5 hkg
      go_wp2_with fail
      refine HP1.out.mono ?_
      rintro e w3 ⟨rfl, hb3⟩
      have HB3 := Lib.hid hb3
      clear hb3 HP1
      go_wp2_with fail
      refine (HP2.out _ HB3.out).mono ?_
      rintro e w4 ⟨rfl, hb4⟩
      have hb5 := HB3.out.trans (hb4.mono HB3.out.size)
      have HD4 := Lib.hid (HD2.out.next hb5)
      have HX4 := Lib.hid (boxed_next HX2.out hb5)
      have HB4 := Lib.hid (HB2.out.trans (hb5.mono HB2.out.size))
      clear hb4 hb5 HD2 HX2 HB2 HP2 HB3
      have hcv2 := HD4.out.conv (m := M + 1) (by have := HM.out; omega) HS2.out j
      rw [show M + 1 = j by have := HM.out; omega] at hcv2
      have hfn : ∀ (B : Nat) w, (binOp .eql 35 (.func (.func 34) #[] #[.pointer (some ⟨B, 0, none⟩)]) .nilFunc).run Tryz.prog w = .ok (.bool false) w := fun B w => rfl
      clear hm1 hm2 hc4 hc5
      go_wp2_with (go_at_call 16; refine (all_any S2 _).mono ?_; rintro e w5 ⟨rfl, rfl⟩)
      have hb4 := ballocR w4 (.cells #[.string S2] 9)
      have HX5 := Lib.hid (boxed_next HX4.out hb4)
      have HB5 := Lib.hid (HB4.out.trans (hb4.mono HB4.out.size))
      have hS2R : lexR S2 = ([], 0, 3) := by
        unfold lexR
        rw [if_pos (by rw [← sz, HS2.out]; have := HM.out; simp; omega)]
      have hst := alls_stops 4 0 0 w4.heap.size W.heap.size S2 [] 0 3 hS2R (by rw [← sz, HS2.out]; have := HM.out; simp; omega) (by simp) (w4.alloc (.cells #[.string S2] 9)) (Nat.zero_le _) (by simp) (by rw [Lib.cell_of_heap (new_at w4 _)]; rfl) ((HE.out.below HB4.out).below hb4)
      have HST := Lib.hid hst
      have HSZ := Lib.hid (show W.heap.size ≤ (w4.alloc (.cells #[.string S2] 9)).heap.size from HB5.out.size)
      clear hst hS2R hb4 HX4 HB4 HD4 hcv2 hfn
      generalize w4.heap.size = B4 at *
      generalize w4.alloc (.cells #[.string S2] 9) = w5 at *
      refine (wpIn_wide (n := 5)).1 ?_
      refine wpIn_rangeFunc_ownH rfl h1 (gf := 34) (lb := #[.pointer (some ⟨B4, 0, none⟩)]) rfl trivial (enters_of Tryz.func34 (by kernel_rfl) rfl)
        HST.out
        (fun h k => Kb.trans h k) (fun U l o o' h1 h2 h3 h4 => Kb.turn U l o o' (Nat.zero_le _) h2 h3 h4) (Below.refl _ _) (fun _ => rfl)
        (fun pre U => (Boxed U b 4 (.bool false) ∧ Below W.heap.size W U) ∧ True)
        (fun cd pre U => False)
        (OwnFrom.and (OwnFrom.and (Own.from (boxed_own b 4 (fun _ => .bool false)) _) (ownFrom_below (Nat.le_refl _) HSZ.out)) (ownFrom_pure _ _))
        (fun cd => ownFrom_pure _ (fun _ => False))
        ⟨⟨HX5.out, HB5.out⟩, trivial⟩
        (fun _ _ _ => True)
        (fun _ _ => ownFrom_pure _ (fun _ => True))
        ?assign ?body ?done ?stop
      case assign =>
        rintro l pre ⟨i, g⟩ U K hI hK
        gi_wp2
        exact hK _ _ (KeepsFrom.refl _ _) (Kb.refl _ _ _) hI trivial
      case body =>
        rintro l pre x a' U hl hr hI _ hlt
        exact absurd hlt (by simp)
      case stop =>
        rintro D cd pre U hD hsp h hKD
        exact h.elim
      case done =>
        rintro D ys U hD hys ⟨⟨hX, hB⟩, _⟩ hKD
        have HX6 := Lib.hid hX
        have HB6 := Lib.hid hB
        have HKD := Lib.hid hKD
        have HDD : Hid (W.heap.size ≤ D) := Lib.hid (Nat.le_trans HSZ.out hD)
        clear hX hB hKD hys HST HX5 HB5 hD HSZ
        go_wp2_with fail
        go_loopg [14] 63 (fun gk v wr => U = wr ∧ ∃ (i : Nat) (T : ByteArray), gk = 64 - i ∧ v = .string T ∧ 1 ≤ i ∧ i ≤ 64 ∧ T.data.toList = List.replicate i 97)
        case atStart => exact ⟨rfl, 1, ⟨#[97]⟩, rfl, rfl, by omega, by omega, rfl⟩
        case round =>
          obtain ⟨rfl, i, T, rfl, rfl, hi1, hi, hT⟩ := hrel
          have hTs : T.size = i := by rw [← sz, hT]; simp
          have HT := Lib.hid hT
          clear hT
          by_cases hlt : i < 64
          · have HT2 : Hid ((T ++ ⟨#[97]⟩).data.toList = List.replicate (i + 1) 97) := Lib.hid (by
              rw [List.replicate_succ', ← HT.out]
              simp)
            have k1 : ¬ 9223372036854775807 < T.size + 1 := by omega
            go_wp2_with fail
            go_roundg (64 - (i + 1))
            case measure => omega
            case rel => exact ⟨rfl, i + 1, _, rfl, rfl, by omega, hlt, HT2.out⟩
          · obtain rfl : i = 64 := by omega
            obtain rfl : T = nm := ba_ext (by rw [HT.out]; rfl)
            have ns : nm.size = 64 := rfl
            clear HT hTs hlt hi hi1
            have E6 := Lib.hid (HE.out.below HB6.out)
            have L1 : Hid (Calls Tryz.prog 12 #[.string (nm ++ ⟨#[32, 96]⟩ ++ nm ++ ⟨#[96, 32, 57, 50, 50, 51, 51, 55, 50, 48, 51, 54, 56, 53, 52, 55, 55, 53, 56, 48, 56]⟩)] U (LexC ([(⟨1, nm.data.toList, 0⟩, 0), (⟨2, nm.data.toList, 0⟩, 65), (⟨4, [], 9223372036854775808⟩, 132)], 0, 0) U)) := Lib.hid (by
              have := lexc_any (n₀ := W.heap.size) bT1 U (by decide) E6.out
              rw [bT1_lex] at this
              exact this)
            have L2 : Hid (∀ V, Env W.heap.size V → Calls Tryz.prog 12 #[.string (⟨#[46, 32]⟩ ++ nm ++ ⟨#[97]⟩)] V (LexC ([], 2, 130) V)) := Lib.hid fun V h => by
              have := lexc_any (n₀ := W.heap.size) bT2 V (by decide) h
              rw [bT2_lex] at this
              exact this
            have L3 : Hid (∀ V, Env W.heap.size V → Calls Tryz.prog 12 #[.string ⟨#[46, 32, 57, 50, 50, 51, 51, 55, 50, 48, 51, 54, 56, 53, 52, 55, 55, 53, 56, 48, 57]⟩] V (LexC ([], 2, 130) V)) := Lib.hid fun V h => by
              have := lexc_any (n₀ := W.heap.size) bT3 V (by decide) h
              rw [bT3_lex] at this
              exact this
            have L4 : Hid (∀ V, Env W.heap.size V → Calls Tryz.prog 12 #[.string (⟨#[46, 32, 96]⟩ ++ nm ++ ⟨#[97, 96]⟩)] V (LexC ([], 2, 130) V)) := Lib.hid fun V h => by
              have := lexc_any (n₀ := W.heap.size) bT4 V (by decide) h
              rw [bT4_lex] at this
              exact this
            have N1 : Hid (∀ V, Env W.heap.size V → Calls Tryz.prog 18 #[.string nm] V fun e w' => e = .returned (.bool true) ∧ Below V.heap.size V w') := Lib.hid fun V h => by
              have := name_any (n₀ := W.heap.size) nm V (by decide) h
              rw [nm_name] at this
              exact this
            have N2 : Hid (∀ V, Env W.heap.size V → Calls Tryz.prog 18 #[.string (nm ++ ⟨#[97]⟩)] V fun e w' => e = .returned (.bool false) ∧ Below V.heap.size V w') := Lib.hid fun V h => by
              have := name_any (n₀ := W.heap.size) (nm ++ ⟨#[97]⟩) V (by decide) h
              rw [nm_name2] at this
              exact this
            have R1 : Hid (∀ V, Env W.heap.size V → Calls Tryz.prog 20 #[.string ⟨#[100, 101, 115, 99, 101, 110, 100, 105, 110, 103]⟩] V fun e w' => e = .returned (.bool true) ∧ Below V.heap.size V w') := Lib.hid fun V h => by
              have := reserved_any (n₀ := W.heap.size) ⟨#[100, 101, 115, 99, 101, 110, 100, 105, 110, 103]⟩ V (by decide) h
              rw [desc_res] at this
              exact this
            have R2 : Hid (∀ V, Env W.heap.size V → Calls Tryz.prog 20 #[.string ⟨#[65, 115, 99, 101, 110, 100, 105, 110, 103]⟩] V fun e w' => e = .returned (.bool true) ∧ Below V.heap.size V w') := Lib.hid fun V h => by
              have := reserved_any (n₀ := W.heap.size) ⟨#[65, 115, 99, 101, 110, 100, 105, 110, 103]⟩ V (by decide) h
              rw [asc_res] at this
              exact this
            have HW : Hid (∀ V, Env W.heap.size V → Calls Tryz.prog 11 #[] V fun e w' => e = .returned (.bool true) ∧ Below V.heap.size V w') := Lib.hid fun V h => works_any V h
            generalize nm = NM at *
            go_wp2_with fail
            refine L1.out.mono ?_
            rintro e v1 ⟨a6, c6, rfl, hc6, g6, hb6⟩
            have G6 := Lib.hid g6
            have E7 := Lib.hid (E6.out.below hb6)
            have X7 := Lib.hid hb6
            clear g6 hb6 L1 E6 hc6
            simp only [List.length_cons, List.length_nil]
            go_wp2_with fail
            refine (L2.out _ E7.out).mono ?_
            rintro e v2 ⟨a7, c7, rfl, _, _, hb7⟩
            have E8 := Lib.hid (E7.out.below hb7)
            have X8 := Lib.hid (X7.out.trans (hb7.mono X7.out.size))
            have G7 := Lib.hid (G6.out.below hb7)
            clear hb7 L2 E7 X7 G6
            simp only [List.length_nil]
            go_wp2_with fail
            refine (L3.out _ E8.out).mono ?_
            rintro e v3 ⟨a8, c8, rfl, _, _, hb8⟩
            have E9 := Lib.hid (E8.out.below hb8)
            have X9 := Lib.hid (X8.out.trans (hb8.mono X8.out.size))
            have G8 := Lib.hid (G7.out.below hb8)
            clear hb8 L3 E8 X8 G7
            simp only [List.length_nil]
            go_wp2_with fail
            refine (L4.out _ E9.out).mono ?_
            rintro e v4 ⟨a9, c9, rfl, _, _, hb9⟩
            have E10 := Lib.hid (E9.out.below hb9)
            have X10 := Lib.hid (X9.out.trans (hb9.mono X9.out.size))
            have G9 := Lib.hid (G8.out.below hb9)
            clear hb9 L4 E9 X9 G8
            simp only [List.length_nil]
            obtain ⟨x, b6, o6, hx, rfl, hat⟩ := G9.out.get (i := 2) (by simp)
            obtain rfl : gwOf (⟨4, [], 9223372036854775808⟩, 132) = x := Option.some.inj hx
            obtain ⟨d0, d1, d2, d3⟩ := hat
            simp only [gwOf] at d3
            have hts : (TB.size : Int) = 1048575 := by rw [HTS.out]; rfl
            have ht0 : ((⟨#[]⟩ : ByteArray).toList == (⟨#[]⟩ : ByteArray).toList) = true := by simp
            clear d0 d1 d2 hx
            go_wp2_with (first
              | (go_at_call 14; refine (num_any _ _).mono ?_; rintro e w' ⟨rfl, rfl⟩)
              | (go_at_call 18; refine (N1.out _ E10.out).mono ?_))
            rintro e v11 ⟨rfl, hb11⟩
            have E11 := Lib.hid (E10.out.below hb11)
            have X11 := Lib.hid (X10.out.trans (hb11.mono X10.out.size))
            clear hb11 E10 X10
            go_wp2_with (go_at_call 18; refine (N2.out _ E11.out).mono ?_)
            rintro e v12 ⟨rfl, hb12⟩
            have E12 := Lib.hid (E11.out.below hb12)
            have X12 := Lib.hid (X11.out.trans (hb12.mono X11.out.size))
            clear hb12 E11 X11
            go_wp2_with (go_at_call 20; refine (R1.out _ E12.out).mono ?_)
            rintro e v13 ⟨rfl, hb13⟩
            have E13 := Lib.hid (E12.out.below hb13)
            have X13 := Lib.hid (X12.out.trans (hb13.mono X12.out.size))
            clear hb13 E12 X12
            go_wp2_with (go_at_call 20; refine (R2.out _ E13.out).mono ?_)
            rintro e v14 ⟨rfl, hb14⟩
            have E14 := Lib.hid (E13.out.below hb14)
            have X14 := Lib.hid (X13.out.trans (hb14.mono X13.out.size))
            clear hb14 E13 X13
            go_wp2_with (go_at_call 11; refine (HW.out _ E14.out).mono ?_)
            rintro e v15 ⟨rfl, hb15⟩
            have X15 := Lib.hid (X14.out.trans (hb15.mono X14.out.size))
            have HX15 := Lib.hid (boxed_below HX6.out X15.out)
            have HK15 := Lib.hid ((X15.out.block D (Array.getElem?_eq_some_iff.1 HKD.out).1).trans HKD.out)
            have hc := HX15.out.cell
            have hf := HX15.out.frozen
            have HB15 := Lib.hid (HB6.out.trans (X15.out.mono HB6.out.size))
            clear hb15 E14 X14
            go_wp2_with fail
            refine leave_bounds ((KeepsOthers.setCell _ _ _).same D _ HK15.out rfl) (HX15.out.set _) (HB15.out.setCell (p := ⟨b, 0, none⟩) (by have := HBB.out; show _ ≤ b; omega) _) HDD.out (fun w hw => ?_)
            simp [results, Tryz.results5, go_sem, hw]
end Go.Proofs.YtimhhacfjgbomaaGreatDoor
