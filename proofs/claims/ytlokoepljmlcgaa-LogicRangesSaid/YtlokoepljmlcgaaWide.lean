/-
  THE WALKS of the reference's wide numbers: digits, which of two is greater, the sum, the other sign, back to 64 bits.
-/
import Derived.Test.YtlokoepljmlcgaaRows
import Derived.Test.YtlokoepljmlcgaaVal
import Derived.Deep.LoopGhost
import Derived.Deep.DeepCutAuto
import Derived.Deep.DeepFit
import Derived.Deep.Light
namespace Go.Proofs.Ytlokoepljmlcgaa
set_option linter.unusedSimpArgs false
set_option linter.unusedVariables false
open Go.RowKit

theorem digit_any (a : Option Addr) (n cap i : Nat) (ds : List Int) (w : World) (hn : Hid (n = ds.length)) (hr : RowAt w a .i64 ds) :
    Calls Try.prog 45 #[.slice a n cap, .int .i64 i] w fun e w' => e = .returned (.int .i64 (ds.getD i 0)) ∧ w = w' := by
  by_cases h : i < n
  · rcases hr with h0 | ⟨b, o, rfl, hc⟩
    · have := hn.out; subst h0; simp at this; omega
    · have hck := hc i (by have := hn.out; omega)
      clear hc
      generalize ds.getD i 0 = z at *
      go_enter Try.func45, Try.ntmps45
      go_wp2
      go_ret
      exact ⟨rfl, rfl⟩
  · have h0 : ds.getD i 0 = 0 := by simp [List.getElem?_eq_none (show ds.length ≤ i by have := hn.out; omega)]
    rw [h0]
    go_enter Try.func45, Try.ntmps45
    go_wp2
    go_ret
    exact ⟨rfl, rfl⟩

theorem digit_q (a : Option Addr) (n cap i : Nat) (ds : List Int) (w : World) (hn : Hid (n = ds.length)) (hr : RowAt w a .i64 ds) :
    Calls Try.prog 45 #[.slice a n cap, .int .i64 i] w fun e w' => e = .returned (.int .i64 (ds.getD i 0)) ∧ w' = w := (digit_any a n cap i ds w hn hr).mono fun _ _ h => ⟨h.1, h.2.symm⟩

theorem digs_max (a b : List Int) (n m : Nat) (hn : Hid (n = a.length)) (hm : Hid (m = b.length)) : val a - val b = pv a (max n m) - pv b (max n m) := by
  rw [pv_all (by have := hn.out; omega), pv_all (by have := hm.out; omega)]
theorem cmp_of_lt {a b : List Int} (h : val a < val b) : cmpV a b = -1 := by unfold cmpV; rw [if_pos h]
theorem cmp_of_gt {a b : List Int} (h : val b < val a) : cmpV a b = 1 := by unfold cmpV; rw [if_neg (by omega), if_pos h]
theorem cmp_of_eq {a b : List Int} (h : val a = val b) : cmpV a b = 0 := by unfold cmpV; rw [if_neg (by omega), if_neg (by omega)]

set_option maxHeartbeats 1000000 in
theorem rsize_any (a a' : Option Addr) (n cap m cap' : Nat) (ds es : List Int) (w : World) (hn : Hid (n = ds.length)) (hm : Hid (m = es.length)) (hr : RowAt w a .i64 ds) (hr' : RowAt w a' .i64 es) (hD : Dig ds) (hE : Dig es)
    (hl : n ≤ 1000000) (hl' : m ≤ 1000000) :
    Calls Try.prog 46 #[.slice a n cap, .slice a' m cap'] w fun e w' => e = .returned (.int .i64 (cmpV ds es)) ∧ w = w' := by
  have HR := Lib.hid hr; have HR' := Lib.hid hr'; have HD := Lib.hid hD; have HE := Lib.hid hE
  clear hr hr' hD hE
  have hx := digs_max ds es n m hn hm
  obtain ⟨x, hx2⟩ : ∃ x, x = max n m := ⟨_, rfl⟩
  rw [← hx2] at hx
  have hxl : x ≤ 1000000 := by omega
  have HX := Lib.hid hx; clear hx
  have HX2 := Lib.hid hx2; clear hx2
  have hmx : (m = x ∧ n < m) ∨ (n = x ∧ ¬ n < m) := by have := HX2.out; omega
  rcases hmx with ⟨rfl, hnm⟩ | ⟨rfl, hnm⟩
  all_goals
   go_enter Try.func46, Try.ntmps46
   go_wp2
   go_loopg [5] (max n m) (fun gk i wr => wr = w ∧ gk ≤ max n m ∧ i = .int .i64 (↑gk - 1) ∧ val ds - val es = pv ds gk - pv es gk)
   case atStart => exact ⟨rfl, Nat.le_refl _, by first | rw [Nat.max_eq_right (by omega)] | rw [Nat.max_eq_left (by omega)], by rw [← HX2.out]; exact HX.out⟩
   case round =>
     obtain ⟨rfl, hgk, rfl, hv⟩ := hrel
     have HV := Lib.hid hv; clear hv
     cases gk with
     | succ j =>
       rw [show ((j + 1 : Nat) : Int) - 1 = (j : Int) by omega]
       have hA : ∀ w', w' = wr → Calls Try.prog 45 #[.slice a n cap, .int .i64 j] w' fun e w'' => e = .returned (.int .i64 (ds.getD j 0)) ∧ w' = w'' := fun w' h => by subst h; exact digit_any a n cap j ds w' hn HR.out
       have hB : ∀ w', w' = wr → Calls Try.prog 45 #[.slice a' m cap', .int .i64 j] w' fun e w'' => e = .returned (.int .i64 (es.getD j 0)) ∧ w' = w'' := fun w' h => by subst h; exact digit_any a' m cap' j es w' hm HR'.out
       have HLT := Lib.hid (fun h => cmp_of_lt (cmp_lt HD.out HE.out HV.out h))
       have HGT := Lib.hid (fun h => cmp_of_gt (cmp_lt HE.out HD.out (a := es) (b := ds) (k := j) (by have := HV.out; omega) h))
       have HEQ := Lib.hid (fun h => cmp_eq HV.out h)
       have HA := Lib.hid hA; have HB := Lib.hid hB
       clear hA hB
       generalize ds.getD j 0 = d at *
       generalize es.getD j 0 = e' at *
       rcases Int.lt_trichotomy d e' with h | h | h
       · have h' : (d != e') = true := by simp; omega
         go_wp2_with (first | (go_at_call 45; go_fit (HA.out _ rfl); rintro e w' ⟨rfl, rfl⟩) | (go_at_call 45; go_fit (HB.out _ rfl); rintro e w' ⟨rfl, rfl⟩))
         go_ret
         exact ⟨ret1 (HLT.out h).symm, rfl⟩
       · have h' : (d != e') = false := by simp; omega
         have HH := Lib.hid h; clear h
         go_wp2_with (first | (go_at_call 45; go_fit (HA.out _ rfl); rintro e w' ⟨rfl, rfl⟩) | (go_at_call 45; go_fit (HB.out _ rfl); rintro e w' ⟨rfl, rfl⟩))
         go_roundg j
         case measure => omega
         case rel => exact ⟨rfl, by omega, rfl, HEQ.out HH.out⟩
       · have h' : (d != e') = true := by simp; omega
         go_wp2_with (first | (go_at_call 45; go_fit (HA.out _ rfl); rintro e w' ⟨rfl, rfl⟩) | (go_at_call 45; go_fit (HB.out _ rfl); rintro e w' ⟨rfl, rfl⟩))
         go_ret
         exact ⟨ret1 (HGT.out h).symm, rfl⟩
     | zero =>
       have HE' : Hid (cmpV ds es = 0) := cmp_of_eq (by have := HV.out; rw [pv_zero, pv_zero] at this; omega)
       simp only [Int.ofNat_zero, Int.zero_sub]
       go_wp2
       go_ret
       exact ⟨ret1 HE'.out.symm, rfl⟩

theorem Try.info3 : (Try.prog.info? 3).map (fun i => (i.zero, i.size, i.bytes)) = some (some (.int .i64 0), 1, 8) := by kernel_rfl

/-- What is written of a number, digit by digit. -/
def Digging (n : Nat) (ds : List Int) (k : Nat) (u : Int) : Prop := ds.length = k ∧ Dig ds ∧ 0 ≤ u ∧ u < 18446744073709551616 ∧ val ds + pw k * u = n
theorem digging_zero {n : Nat} (h : n < 18446744073709551616) : Digging n [] 0 n := ⟨rfl, dig_nil, by omega, by omega, by simp [val, pw_zero]⟩
theorem digging_succ {n k : Nat} {ds : List Int} {u : Int} (h : Digging n ds k u) : Digging n (ds ++ [u % 65536]) (k + 1) (u / 65536) := by
  obtain ⟨h1, h2, h3, h4, h5⟩ := h
  refine ⟨by simp [h1], h2.snoc (by omega) (by omega), by omega, by omega, ?_⟩
  rw [val_snoc, h1, pw_succ]
  have e : pw k * (u % 65536) + 65536 * pw k * (u / 65536) = pw k * u := by
    conv => rhs; rw [show u = u % 65536 + 65536 * (u / 65536) by omega]
    rw [Int.mul_add, ← Int.mul_assoc, Int.mul_comm (pw k) 65536]
  omega
theorem digging_end {n : Nat} {ds : List Int} {u : Int} (h : Digging n ds 4 u) (hn : n < 18446744073709551616) : val ds = n ∧ Dig ds ∧ ds.length = 4 := by
  obtain ⟨h1, h2, h3, h4, h5⟩ := h
  have hb := val_bd h2
  rw [h1] at hb
  have h4' : pw 4 = 18446744073709551616 := by decide
  rw [h4'] at h5 hb
  exact ⟨by omega, h2, h1⟩

/-- Facts on a world that a draw leaves as they are. -/
theorem Box2.drewN {w : World} {b : Nat} {x y : Value} {t : TypeId} (h : Box2 w b x y t) (n : Nat) : Box2 (w.drewN n) b x y t := h
theorem owns_drewN {w : World} {base : Nat} {e : TypeId} {size : Nat} {v : Value} {n : Nat} {xs : List Value} (h : w.ownsRow base e size v n xs) (k : Nat) : (w.drewN k).ownsRow base e size v n xs := h
theorem RowAt.drewN {w : World} {a : Option Addr} {k : IntKind} {zs : List Int} (h : RowAt w a k zs) (n : Nat) : RowAt (w.drewN n) a k zs := h

set_option maxRecDepth 100000 in
set_option maxHeartbeats 2000000 in
theorem of64_any (n : Int) (w : World) (hn : In64 n) :
    Calls Try.prog 36 #[.int .i64 n] w (RetWide (fun neg ds => neg = decide (n < 0) ∧ val ds = n.natAbs ∧ ds.length = 4) w) := by
  obtain ⟨i0, hi, hz0, hz1, hz2⟩ := info_parts Try.info3
  have hb : n.natAbs < 18446744073709551616 := by unfold In64 at hn; omega
  have HB := Lib.hid hb; clear hb
  have hu : ∃ U : Int, U = (n.natAbs : Int) ∧ (if n < 0 then IntKind.u64.wrap (-IntKind.u64.wrap n) else IntKind.u64.wrap n) = U := by
    refine ⟨_, rfl, ?_⟩
    rw [IntKind.wrap_u64, IntKind.wrap_u64]; unfold In64 at hn; split <;> omega
  obtain ⟨U, hU, hu⟩ := hu
  have HU := Lib.hid hU; clear hU
  obtain ⟨b0, hb0⟩ : ∃ b0, decide (n < 0) = b0 := ⟨_, rfl⟩
  have HB0 := Lib.hid hb0
  cases b0
  all_goals
    have hneg := hb0
    simp at hneg
    clear hb0
    first
      | rw [if_pos hneg] at hu
      | rw [if_neg (Int.not_lt.2 hneg)] at hu
    go_enter Try.func36, Try.ntmps36
    go_wp2
    clear hu
    go_loopg [4, 5] 4 (fun gk u i wr => ∃ (k : Nat) (ds : List Int) (uv : Int) (ov : Value) (bv : Bool), bv = decide (n < 0) ∧ gk = 4 - k ∧ k ≤ 4 ∧ i = .int .i64 k ∧ u = .int .u64 uv ∧ Digging n.natAbs ds k uv ∧ Box2 wr (w.heap.size + 1) (.bool bv) ov 55 ∧
        Box2 wr w.heap.size (.bool false) (.slice none 0 0) 55 ∧ wr.ownsRow (w.heap.size + 2) 3 1 ov k (ds.map (Value.int .i64)) ∧ Below w.heap.size w wr ∧ w.heap.size + 2 ≤ wr.heap.size)
    case atStart =>
      refine ⟨0, [], U, .slice none 0 0, decide (n < 0), rfl, rfl, by omega, rfl, rfl, by rw [HU.out]; exact digging_zero HB.out, ?_, (Box2.new w _ _ _).alloc _, World.ownsRow_nil _ _ _ _, (ballocR _ _).alloc (by simp) _, by simp⟩
      rw [HB0.out]
      exact Box2.second _ _ _ _ _
    case round =>
      obtain ⟨k, ds, uv, ov, bv, hbv, hgk, hk, rfl, rfl, hD, hX, hR, hown, hb, hsz⟩ := hrel
      have HV := Lib.hid hbv; clear hbv
      have HK := Lib.hid hgk; clear hgk
      have HD := Lib.hid hD; clear hD
      have HO := Lib.hid hown; clear hown
      have HX := Lib.hid hX; have HR := Lib.hid hR; clear hX hR
      obtain ⟨av, cv, rfl⟩ := owns_form HO.out
      have c1 := HX.out.c1
      have f1 := HX.out.fr 1
      by_cases hlt : k < 4
      · have u0 := HD.out.2.2.1
        have u1 := HD.out.2.2.2.1
        have HN := Lib.hid (digging_succ HD.out)
        have c3 : k + 1 ≤ maxLen := by unfold maxLen; omega
        have c4 : (k + 1) * 8 ≤ 140737488355328 := by omega
        have C3 := Lib.hid c3; have C4 := Lib.hid c4; clear c3 c4
        have HB2 : Hid (w.heap.size + 2 ≤ (wr.alloc (.cells #[.int .i64 (uv % 65536)] 3)).heap.size) := by show _ ≤ _; simp; omega
        have hw1 : IntKind.u64.wrap (uv.tdiv 65536) = uv / 65536 := by rw [IntKind.wrap_u64, Int.tdiv_eq_ediv_of_nonneg u0]; omega
        have HU1 := Lib.hid u1; clear u1
        go_wp2_with ((at_builtin; refine wpList_append_own _ rfl _ _ 53 rfl (w.heap.size + 2) 3 i0 (.int .i64 0) 1 8 Try.underlying53 hi hz0 hz1 hz2 rfl (by decide) _ _ _ rfl (HO.out.alloc _) ⟨wr.heap.size, 0, none⟩ 1 1 [.int .i64 (uv % 65536)] rfl rfl (one_new _ _ _) one_int C3.out C4.out HB2.out ?_; intro v' w1 hown' hgrow _; obtain ⟨av', cv', rfl⟩ := owns_form hown'; have hbb : Below (w.heap.size + 2) wr w1 := below_append (v := .slice av k cv) (Below.refl _ _) hsz HO.out hgrow; have HX1 := HX.out.below hbb (by omega); have HX1c := HX1.c1; have HX1f := HX1.fr 1))
        have HO' : Hid (w1.ownsRow (w.heap.size + 2) 3 1 (.slice av' (k + 1) cv') (k + 1) ((ds ++ [uv % 65536]).map (Value.int .i64))) := by simpa [Hid] using hown'
        have HX2 := HX1.set1 (.slice av' (k + 1) cv')
        have HR2 := (HR.out.below hbb (by omega)).other ⟨w.heap.size + 1, 1, none⟩ (by simp) (.slice av' (k + 1) cv')
        have hb2 := (hb.trans (hbb.mono (by omega))).setCell (p := ⟨w.heap.size + 1, 1, none⟩) (by simp) (.slice av' (k + 1) cv')
        go_roundg (4 - (k + 1))
        case measure => have := HK.out; omega
        case rel =>
          exact ⟨k + 1, _, _, _, bv, HV.out, rfl, by omega, by go_num, rfl, HN.out, HX2, HR2, ownsRow_setCell_below HO'.out (by simp) _, hb2, by have := hbb.size; simp [World.setCell]; omega⟩
      · obtain rfl : k = 4 := by omega
        have c0 := HX.out.c0
        have r0 := HR.out.c0
        have r1 := HR.out.c1
        have g0 := HR.out.fr 0
        have g1 := HR.out.fr 1
        go_wp2
        have HE := digging_end HD.out HB.out
        have hrow := digitsAt_owns HO.out
        have hbx := HR.out.both (.bool bv) (.slice av 4 cv)
        have hrow2 : DigitsAt ((wr.setCell ⟨w.heap.size, 0, none⟩ (.bool bv)).setCell ⟨w.heap.size, 1, none⟩ (.slice av 4 cv)) (.slice av 4 cv) ds := digitsAt_owns (ownsRow_setCell_below (ownsRow_setCell_below HO.out (by simp) _) (by simp) _)
        have hb2 := (hb.setCell (p := ⟨w.heap.size, 0, none⟩) (Nat.le_refl _) (.bool bv)).setCell (p := ⟨w.heap.size, 1, none⟩) (Nat.le_refl _) (.slice av 4 cv)
        have k0 := hbx.c0; have k1 := hbx.c1
        generalize (wr.setCell ⟨w.heap.size, 0, none⟩ (.bool bv)).setCell ⟨w.heap.size, 1, none⟩ (.slice av 4 cv) = W at *
        exact bodyPost_ret (v := .agg #[.bool bv, .slice av 4 cv]) (by simp [results, Try.results36, go_sem, k0, k1]) rfl ⟨bv, .slice av 4 cv, ds, rfl, hrow2, HE.2.1, ⟨HV.out, HE.1, HE.2.2⟩, hb2⟩
end Go.Proofs.Ytlokoepljmlcgaa
