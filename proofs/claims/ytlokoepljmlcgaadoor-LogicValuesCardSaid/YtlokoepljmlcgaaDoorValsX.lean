/-
  THE WALK of LogicValues: the law.
-/
import Derived.Test.YtlokoepljmlcgaaDoorValsW
import Derived.Deep.LoopGhost
import Derived.Deep.RegionHeld3
namespace Go.Proofs.YtlokoepljmlcgaaDoor
set_option linter.unusedSimpArgs false
set_option linter.unusedVariables false
open Go.RowKit Go.Shelf

theorem info_truth : (Tryd.prog.info? 23).map (fun i => (i.zero, i.size, i.bytes)) = some (some (.int .i64 0), 1, 8) := by kernel_rfl
structure LV (W : World) (x : Nd) (v : Value) (zs : List Int) (w : World) : Prop where
  rm : RM W x w
  own : w.ownsRow (W.heap.size + 1) 23 1 v zs.length (zs.map (Value.int .i64))
theorem LV.next {W : World} {x : Nd} {v : Value} {zs : List Int} {w w' : World} (h : LV W x v zs w) (hb : Below w.heap.size w w') : LV W x v zs w' := ⟨h.rm.next hb, owns_below h.own hb⟩
theorem LV.drew {W : World} {x : Nd} {v : Value} {zs : List Int} {w : World} (h : LV W x v zs w) : LV W x v zs w.drew := h.next (bdrewN (Below.refl _ _) 1)
theorem LV.size {W : World} {x : Nd} {v : Value} {zs : List Int} {w : World} (h : LV W x v zs w) : W.heap.size + 1 ≤ w.heap.size := h.rm.six.lt
theorem LV.push {W : World} {x : Nd} {v v' : Value} {zs : List Int} {z : Int} {wr w1 : World} {o : Obj} (h : LV W x v zs wr) (hg : (wr.alloc o).grownBy w1 v.ownBlock)
    (ho : w1.ownsRow (W.heap.size + 1) 23 1 v' (zs.length + 1) (zs.map (Value.int .i64) ++ [.int .i64 z])) : LV W x v' (zs ++ [z]) w1 := by
  have hs := h.rm.six.next (ballocR wr o)
  refine ⟨⟨(hg.block W.heap.size hs.lt ?_).trans hs, below_append h.rm.bl h.rm.bl.size (h.own.mono (Nat.le_succ _)) hg⟩, by simpa using ho⟩
  intro e
  have := (h.own.lt W.heap.size (by first | exact e | exact e.symm)).1
  omega
theorem take_map_succ {α β : Type} {l : List α} {f : α → β} {i : Nat} {p : α} (h : l[i]? = some p) : (l.take (i + 1)).map f = (l.take i).map f ++ [f p] := by
  rw [List.take_add_one, h]; simp
theorem at_get {n₀ : Nat} {W : World} {a : Option Addr} {F : Fo} (h : F = .nil ∨ ∃ b o, a = some ⟨b, o, none⟩ ∧ F.At n₀ W b o) {i : Nat} (hi : i < F.len) : ∃ p cp b o, F.toL[i]? = some (p, cp) ∧ a = some ⟨b, o, none⟩ ∧ b < n₀ ∧ p.Cells W b (o + i * 6) ∧ p.Keys n₀ W ∧ p.In n₀ W cp := by
  obtain ⟨⟨p, cp⟩, hp⟩ : ∃ p, F.toL[i]? = some p := ⟨_, List.getElem?_eq_getElem (by rw [Fo.len_toL]; exact hi)⟩
  rcases h with rfl | ⟨b, o, ha, hat⟩
  · simp [Fo.len] at hi
  · have g := hat.get hp
    exact ⟨p, cp, b, o, hp, ha, g⟩
theorem keepV {W : World} {x : Nd} {v : Value} {zs : List Int} {wx wy : World} {p0 p1 p2 p3 p4 p5 q0 q1 q2 q3 q4 q5 : Addr} {v0 v1 v2 v3 v4 v5 u0 u1 u2 u3 u4 u5 : Value}
    (h : LV W x v zs wx ∧ wx.cell? p0 = some v0 ∧ wx.cell? p1 = some v1 ∧ wx.cell? p2 = some v2 ∧ wx.cell? p3 = some v3 ∧ wx.cell? p4 = some v4 ∧ wx.cell? p5 = some v5 ∧ wx.cell? q0 = some u0 ∧ wx.cell? q1 = some u1 ∧ wx.cell? q2 = some u2 ∧ wx.cell? q3 = some u3 ∧ wx.cell? q4 = some u4 ∧ wx.cell? q5 = some u5) (hb : Below wx.heap.size wx wy) :
    LV W x v zs wy ∧ wy.cell? p0 = some v0 ∧ wy.cell? p1 = some v1 ∧ wy.cell? p2 = some v2 ∧ wy.cell? p3 = some v3 ∧ wy.cell? p4 = some v4 ∧ wy.cell? p5 = some v5 ∧ wy.cell? q0 = some u0 ∧ wy.cell? q1 = some u1 ∧ wy.cell? q2 = some u2 ∧ wy.cell? q3 = some u3 ∧ wy.cell? q4 = some u4 ∧ wy.cell? q5 = some u5 := by
  obtain ⟨hr, h0, h1, h2, h3, h4, h5, g0, g1, g2, g3, g4, g5⟩ := h
  exact ⟨hr.next hb, cell_below h0 hb, cell_below h1 hb, cell_below h2 hb, cell_below h3 hb, cell_below h4 hb, cell_below h5 hb, cell_below g0 hb, cell_below g1 hb, cell_below g2 hb, cell_below g3 hb, cell_below g4 hb, cell_below g5 hb⟩
/-- What came in. -/
structure ValsIn (W : World) (x : Nd) (c : Fo) (a : Option Addr) (n : Nat) (F : Fo) : Prop where
  in_ : x.In W.heap.size W c
  keys : x.Keys W.heap.size W
  fit : x.Fit
  fitc : c.Fit
  len : n = F.len
  fitF : F.Fit
  at_ : F = .nil ∨ ∃ b o, a = some ⟨b, o, none⟩ ∧ F.At W.heap.size W b o

set_option maxRecDepth 100000 in
set_option maxHeartbeats 4000000 in
theorem values_bad (x : Nd) (c : Fo) (a : Option Addr) (n cap : Nat) (F : Fo) (W : World) (h : ValsIn W x c a n F) (hb : 40 < n ∨ 1000 < smV x c 1000) (hn : n ≤ 140737488351232) :
    Calls Tryd.prog 5 #[x.val, .slice a n cap] W fun e w' => e = .returned (.bool true) ∧ Below W.heap.size W w' := by
  have HS : Hid (∀ w, RM W x w → Calls Tryd.prog 25 #[x.val, .int .i64 1000] w fun e w' => e = .returned (.int .i64 (smV x c 1000)) ∧ RM W x w') := fun w hr => (small_any x c W.heap.size w 1000 (h.in_.keep (Cellsy.of_below hr.bl)) (h.keys.keep (Cellsy.of_below hr.bl)) h.fit h.fitc hr.bl.size (by omega) (by omega)).mono fun e w' h' => ⟨h'.1, hr.next h'.2⟩
  have HR := Lib.hid (RM.new W x)
  clear h
  generalize smV x c 1000 = S at *
  have HW : Hid (∀ w, RM W x w → Calls Tryd.prog 6 #[] w fun e w' => e = .returned (.bool true) ∧ RM W x w') := fun w hr => (works_any w).mono fun e w' h' => ⟨h'.1, hr.next h'.2⟩
  obtain ⟨k, b, n', t, ka, kl, kc, la, ll, lc, ks⟩ := x
  simp only [Nd.val] at *
  have HR0 := HR.out
  obtain ⟨x0, x1, x2, x3, x4, x5⟩ := HR0.six.cells
  clear HR0
  simp only [Nat.zero_add] at x0 x1 x2 x3 x4 x5
  by_cases h1 : 40 < n
  · clear hb
    go_enter Tryd.func5, Tryd.ntmps5
    go_wp2_with (go_at_call 6; refine (HW.out _ HR.out).mono ?_; rintro e w1 ⟨rfl, M⟩)
    go_ret
    exact ⟨rfl, M.bl⟩
  · have h2 : 1000 < S := by omega
    clear hb
    go_enter Tryd.func5, Tryd.ntmps5
    go_wp2_with (first
      | (go_at_call 25; refine (HS.out _ HR.out).mono ?_; rintro e w1 ⟨rfl, M⟩)
      | (go_at_call 6; refine (HW.out _ M).mono ?_; rintro e w1 ⟨rfl, M2⟩))
    go_ret
    exact ⟨rfl, M2.bl⟩

set_option maxRecDepth 100000 in
set_option maxHeartbeats 16000000 in
theorem values_fine (x : Nd) (c : Fo) (a : Option Addr) (n cap : Nat) (F : Fo) (W : World) (h : ValsIn W x c a n F) (h40 : n ≤ 40) (hs : smV x c 1000 ≤ 1000) (hC : checkV x c = 0) (hT : Lib.Utf8Tabs 0 1 W) :
    Calls Tryd.prog 5 #[x.val, .slice a n cap] W fun e w' => e = .returned (.bool true) ∧ Below W.heap.size W w' := by
  obtain ⟨i0, hi0, hz0, hz1, hz2⟩ := info_parts info_truth
  have hgx : Good W.heap.size W x c := ⟨h.in_, h.keys, sized_of_tot (by have := smV_all hs; omega)⟩
  have HS : Hid (∀ w, RM W x w → Calls Tryd.prog 25 #[x.val, .int .i64 1000] w fun e w' => e = .returned (.int .i64 (smV x c 1000)) ∧ RM W x w') := fun w hr => (small_any x c W.heap.size w 1000 (h.in_.keep (Cellsy.of_below hr.bl)) (h.keys.keep (Cellsy.of_below hr.bl)) h.fit h.fitc hr.bl.size (by omega) (by omega)).mono fun e w' h' => ⟨h'.1, hr.next h'.2⟩
  have HCk : Hid (∀ w, RM W x w → Calls Tryd.prog 26 #[x.val] w fun e w' => e = .returned (.int .i64 (checkV x c)) ∧ RM W x w') := fun w hr => (rcheck_any (hgx.below (Nat.le_refl _) hr.bl) hr.bl.size).mono fun e w' h' => ⟨h'.1, hr.next h'.2⟩
  have HOf : Hid (∀ w, RM W x w → Calls Tryd.prog 10 #[x.val] w fun e w' => e = .returned (ofP x c) ∧ Below w.heap.size w w') := fun w hr => of_good x c w (hgx.below (Nat.le_refl _) hr.bl) hr.bl.size (Utf8Tabs_below hT hr.bl)
  have HROf : Hid (∀ w, Calls Tryd.prog 28 #[x.val] w fun e w' => e = .returned (ofV x.k x.b) ∧ Below w.heap.size w w') := fun w => rof_any x w
  have HW : Hid (∀ w, Calls Tryd.prog 6 #[] w fun e w' => e = .returned (.bool true) ∧ Below w.heap.size w w') := fun w => works_any w
  have HIN : Hid ((∀ (j : Nat) (p : Nd × Fo), F.toL[j]? = some p → smV p.1 p.2 1000 ≤ 1000) → ∀ w, RM W x w → Calls Tryd.prog 23 #[x.val, .slice a n cap] w fun e w' => e = .returned (.int .i64 (orL (F.toL.map fun p => eqA x c p.1 p.2))) ∧ Below w.heap.size w w') := fun hall w hr => by
    rw [← in_or (fun y d => eqA x c y d)]
    have hv : Vals W.heap.size w a F := by
      refine ⟨h.at_.imp id (fun ⟨b, o, e, h'⟩ => ⟨b, o, e, h'.keep (Cellsy.of_below hr.bl)⟩), fun p hp => ?_, by have := h.len; omega⟩
      obtain ⟨j, hj⟩ := List.getElem?_of_mem hp
      have h1 := hall j p hj
      exact sized_of_tot (by have := smV_all h1; omega)
    exact in_any x n cap hv h.len hr.bl.size (fun y d => eqA x c y d) fun y d W' _ hy hb => Equal_any x y c d W' ((hgx.below (Nat.le_refl _) hr.bl).below hr.bl.size hb) hy (Nat.le_trans hr.bl.size hb.size) (Utf8Tabs_below (Utf8Tabs_below hT hr.bl) hb)
  have HEL : Hid (∀ i, i < n → ∃ p cp b o, F.toL[i]? = some (p, cp) ∧ a = some ⟨b, o, none⟩ ∧ b < W.heap.size ∧ p.Cells W b (o + i * 6) ∧
      (∀ w, Below W.heap.size W w → Calls Tryd.prog 25 #[p.val, .int .i64 1000] w fun e w' => e = .returned (.int .i64 (smV p cp 1000)) ∧ Below w.heap.size w w') ∧
      (smV p cp 1000 ≤ 1000 → ∀ w, Below W.heap.size W w → Calls Tryd.prog 26 #[p.val] w fun e w' => e = .returned (.int .i64 (checkV p cp)) ∧ Below w.heap.size w w') ∧
      (smV p cp 1000 ≤ 1000 → ∀ w, Below W.heap.size W w → Calls Tryd.prog 27 #[x.val, p.val] w fun e w' => e = .returned (.int .i64 (eqV x c p cp)) ∧ Below w.heap.size w w')) := fun i hi => by
    obtain ⟨p, cp, b, o, hp, ha, hbn, hcs, hpk, hpi⟩ := at_get h.at_ (i := i) (by rw [← h.len]; exact hi)
    have hft := h.fitF.mem _ (List.mem_of_getElem? hp)
    refine ⟨p, cp, b, o, hp, ha, hbn, hcs, fun w hb => ?_, fun hsm w hb => ?_, fun hsm w hb => ?_⟩
    · exact small_any p cp W.heap.size w 1000 (hpi.keep (Cellsy.of_below hb)) (hpk.keep (Cellsy.of_below hb)) hft.1 hft.2 hb.size (by omega) (by omega)
    · exact rcheck_any ((Good.mk hpi hpk (sized_of_tot (by have := smV_all hsm; omega)) : Good W.heap.size W p cp).below (Nat.le_refl _) hb) hb.size
    · exact requal_any x c p cp W.heap.size w (hgx.below (Nat.le_refl _) hb) ((Good.mk hpi hpk (sized_of_tot (by have := smV_all hsm; omega)) : Good W.heap.size W p cp).below (Nat.le_refl _) hb) hb.size
  have HR := Lib.hid (RM.new W x)
  have hlen := h.len
  have HLEN : Hid (n = F.toL.length) := by unfold Hid; rw [Fo.len_toL]; exact hlen
  have HQ : Hid (∀ y d, eqA x c y d = if checkV y d = 0 then eqV x c y d else 1) := fun y d => by unfold eqA; simp [hC]
  have hof : ofP x c = ofV x.k x.b := by unfold ofP; rw [if_pos hC]
  rw [hof] at HOf
  obtain ⟨tt, ok, htt⟩ : ∃ (tt : Int) (ok : Bool), ofV x.k x.b = .tuple #[.int .i64 tt, .bool ok] := by
    unfold ofV
    split
    · exact ⟨_, _, rfl⟩
    · split
      · exact ⟨_, _, rfl⟩
      · exact ⟨_, _, rfl⟩
  rw [htt] at HOf HROf
  clear hof htt hlen hgx hT h
  rw [hC] at HCk
  clear hC
  generalize smV x c 1000 = S at *
  obtain ⟨k, b, n', t, ka, kl, kc, la, ll, lc, ks⟩ := x
  simp only [Nd.val] at *
  obtain ⟨x0, x1, x2, x3, x4, x5⟩ := HR.out.six.cells
  simp only [Nat.zero_add] at x0 x1 x2 x3 x4 x5
  go_enter Tryd.func5, Tryd.ntmps5
  go_wp2_with (first
    | (go_at_call 25; refine (HS.out _ HR.out).mono ?_; rintro e w1 ⟨rfl, M⟩; clear x0 x1 x2 x3 x4 x5; obtain ⟨x0, x1, x2, x3, x4, x5⟩ := M.six.cells; simp only [Nat.zero_add] at x0 x1 x2 x3 x4 x5)
    | (go_at_call 26; refine (HCk.out _ M).mono ?_; rintro e w1 ⟨rfl, M2⟩))
  clear x0 x1 x2 x3 x4 x5
  have HM2 := Lib.hid M2
  clear M2 M
  go_loopg [6, 7] n (fun gk s6 s7 wx => ∃ i : Nat, s7 = .int .i64 i ∧ gk = n - i ∧ i ≤ n ∧ LV W ⟨k, b, n', t, ka, kl, kc, la, ll, lc, ks⟩ s6 ((F.toL.take i).map fun p => eqA ⟨k, b, n', t, ka, kl, kc, la, ll, lc, ks⟩ c p.1 p.2) wx ∧ ∀ (j : Nat) (p : Nd × Fo), j < i → F.toL[j]? = some p → smV p.1 p.2 1000 ≤ 1000)
  case atStart => exact ⟨0, rfl, rfl, Nat.zero_le _, ⟨HM2.out, World.ownsRow_nil _ _ _ _⟩, fun j p hj => absurd hj (Nat.not_lt_zero j)⟩
  case round =>
    obtain ⟨i, rfl, rfl, hi, hL, hall⟩ := hrel
    have HAL := Lib.hid hall
    have HL := Lib.hid hL
    obtain ⟨av, cv, rfl⟩ := owns_form hL.own
    clear hall hL
    obtain ⟨x0, x1, x2, x3, x4, x5⟩ := HL.out.rm.six.cells
    simp only [Nat.zero_add] at x0 x1 x2 x3 x4 x5
    by_cases hlt : i < n
    · obtain ⟨p, cp, bb, oo, hp, ha, hbn, hcs, k1, k2, k3⟩ := HEL.out i hlt
      subst ha
      have hc1 := Nd.Cells.keep (Cellsy.of_below HL.out.rm.bl) hbn hcs
      have K1 : Hid (∀ w, LV W ⟨k, b, n', t, ka, kl, kc, la, ll, lc, ks⟩ (.slice av ((F.toL.take i).map fun p => eqA ⟨k, b, n', t, ka, kl, kc, la, ll, lc, ks⟩ c p.1 p.2).length cv) ((F.toL.take i).map fun p => eqA ⟨k, b, n', t, ka, kl, kc, la, ll, lc, ks⟩ c p.1 p.2) w → Calls Tryd.prog 25 #[p.val, .int .i64 1000] w fun e w' => e = .returned (.int .i64 (smV p cp 1000)) ∧ (LV W ⟨k, b, n', t, ka, kl, kc, la, ll, lc, ks⟩ (.slice av ((F.toL.take i).map fun p => eqA ⟨k, b, n', t, ka, kl, kc, la, ll, lc, ks⟩ c p.1 p.2).length cv) ((F.toL.take i).map fun p => eqA ⟨k, b, n', t, ka, kl, kc, la, ll, lc, ks⟩ c p.1 p.2) w' ∧ p.Cells w' bb (oo + i * 6))) := fun w hl => (k1 w hl.rm.bl).mono fun e w' h' => ⟨h'.1, hl.next h'.2, Nd.Cells.keep (Cellsy.of_below (hl.rm.bl.trans (h'.2.mono hl.rm.bl.size))) hbn hcs⟩
      have hq := HQ.out p cp
      have hts := take_map_succ (f := fun p : Nd × Fo => eqA ⟨k, b, n', t, ka, kl, kc, la, ll, lc, ks⟩ c p.1 p.2) hp
      have hzl : ((F.toL.take i).map fun p : Nd × Fo => eqA ⟨k, b, n', t, ka, kl, kc, la, ll, lc, ks⟩ c p.1 p.2).length = i := by rw [List.length_map, List.length_take, ← HLEN.out]; omega
      have HP := Lib.hid hp
      have HTS := Lib.hid hts
      have HZL := Lib.hid hzl
      have HQE := Lib.hid hq
      simp only at HTS
      clear hp hts hzl hq hcs k1
      generalize eqA ⟨k, b, n', t, ka, kl, kc, la, ll, lc, ks⟩ c p cp = E at *
      by_cases hsm : 1000 < smV p cp 1000
      · clear k2 k3
        obtain ⟨pk, pb, pn, pt, pka, pkl, pkc, pla, pll, plc, pks⟩ := p
        obtain ⟨c0, c1, c2, c3, c4, c5⟩ := hc1
        simp only at c0 c1 c2 c3 c4 c5
        simp only [Nd.val] at *
        generalize smV _ cp 1000 = SS at *
        go_wp2_with (first
          | (go_at_call 25; refine (K1.out _ HL.out).mono ?_; rintro e w1 ⟨rfl, M, _⟩)
          | (go_at_call 6; refine (HW.out _).mono ?_; rintro e w1 ⟨rfl, hbw⟩))
        go_ret
        exact ⟨rfl, (M.rm.next hbw).bl⟩
      · have hsm' : smV p cp 1000 ≤ 1000 := by omega
        have K2 := Lib.hid (k2 hsm')
        have K3 := Lib.hid (k3 hsm')
        have HAL2 : Hid (∀ (j : Nat) (p : Nd × Fo), j < i + 1 → F.toL[j]? = some p → smV p.1 p.2 1000 ≤ 1000) := fun j q hj hq => by
          rcases Nat.lt_or_ge j i with h' | h'
          · exact HAL.out j q h' hq
          · obtain rfl : j = i := by omega
            rw [HP.out] at hq
            cases hq
            exact hsm'
        clear k2 k3 hsm HP
        generalize hzs : ((F.toL.take i).map fun p : Nd × Fo => eqA ⟨k, b, n', t, ka, kl, kc, la, ll, lc, ks⟩ c p.1 p.2) = zs at *
        have HZS := Lib.hid hzs
        clear hzs
        have c3 : zs.length + 1 ≤ maxLen := by unfold maxLen; have := HZL.out; omega
        have c4 : (zs.length + 1) * 8 ≤ 140737488355328 := by have := HZL.out; omega
        have hzl2 : zs.length ≤ 1000 := by have := HZL.out; omega
        have C3 := Lib.hid c3; have C4 := Lib.hid c4; clear c3 c4
        by_cases hP : checkV p cp = 0
        · have HE1 : Hid (E = eqV ⟨k, b, n', t, ka, kl, kc, la, ll, lc, ks⟩ c p cp) := by have := HQE.out; rw [if_pos hP] at this; exact this
          rw [hP] at K2
          clear hP HQE
          generalize eqV ⟨k, b, n', t, ka, kl, kc, la, ll, lc, ks⟩ c p cp = EV at *
          obtain rfl : E = EV := HE1.out
          clear HE1
          obtain ⟨pk, pb, pn, pt, pka, pkl, pkc, pla, pll, plc, pks⟩ := p
          obtain ⟨c0, c1, c2, c3, c4, c5⟩ := hc1
          simp only at c0 c1 c2 c3 c4 c5
          simp only [Nd.val] at *
          generalize smV _ cp 1000 = SS at *
          go_wp2_with (first
            | (go_at_call 25; refine (K1.out _ HL.out).mono ?_; rintro e w1 ⟨rfl, M, ⟨d0, d1, d2, d3, d4, d5⟩⟩; clear c0 c1 c2 c3 c4 c5; simp only at d0 d1 d2 d3 d4 d5)
            | (go_at_call 26; refine (K2.out _ M.rm.bl).mono ?_; rintro e w2 ⟨rfl, hb2⟩))
          have hS : LV W ⟨k, b, n', t, ka, kl, kc, la, ll, lc, ks⟩ (.slice av zs.length cv) zs w2.drew ∧ w2.drew.cell? ⟨W.heap.size, 0, none⟩ = some (.int .i64 k) ∧ w2.drew.cell? ⟨W.heap.size, 1, none⟩ = some (.bool b) ∧ w2.drew.cell? ⟨W.heap.size, 2, none⟩ = some (.int .i64 n') ∧ w2.drew.cell? ⟨W.heap.size, 3, none⟩ = some (.string t) ∧ w2.drew.cell? ⟨W.heap.size, 4, none⟩ = some (.slice ka kl kc) ∧ w2.drew.cell? ⟨W.heap.size, 5, none⟩ = some (.slice la ll lc) ∧ w2.drew.cell? ⟨bb, oo + i * 6, none⟩ = some (.int .i64 pk) ∧ w2.drew.cell? ⟨bb, oo + i * 6 + 1, none⟩ = some (.bool pb) ∧ w2.drew.cell? ⟨bb, oo + i * 6 + 2, none⟩ = some (.int .i64 pn) ∧ w2.drew.cell? ⟨bb, oo + i * 6 + 3, none⟩ = some (.string pt) ∧ w2.drew.cell? ⟨bb, oo + i * 6 + 4, none⟩ = some (.slice pka pkl pkc) ∧ w2.drew.cell? ⟨bb, oo + i * 6 + 5, none⟩ = some (.slice pla pll plc) := by
            obtain ⟨y0, y1, y2, y3, y4, y5⟩ := (M.rm.next hb2).six.cells
            simp only [Nat.zero_add] at y0 y1 y2 y3 y4 y5
            have hbd : Below w1.heap.size w1 w2.drew := bdrewN hb2 1
            exact ⟨(M.next hb2).drew, y0, y1, y2, y3, y4, y5, cell_below d0 hbd, cell_below d1 hbd, cell_below d2 hbd, cell_below d3 hbd, cell_below d4 hbd, cell_below d5 hbd⟩
          clear x0 x1 x2 x3 x4 x5 d0 d1 d2 d3 d4 d5 M hb2
          go_region_held3 (fun w' => LV W ⟨k, b, n', t, ka, kl, kc, la, ll, lc, ks⟩ (.slice av zs.length cv) zs w' ∧ w'.cell? ⟨W.heap.size, 0, none⟩ = some (.int .i64 k) ∧ w'.cell? ⟨W.heap.size, 1, none⟩ = some (.bool b) ∧ w'.cell? ⟨W.heap.size, 2, none⟩ = some (.int .i64 n') ∧ w'.cell? ⟨W.heap.size, 3, none⟩ = some (.string t) ∧ w'.cell? ⟨W.heap.size, 4, none⟩ = some (.slice ka kl kc) ∧ w'.cell? ⟨W.heap.size, 5, none⟩ = some (.slice la ll lc) ∧ w'.cell? ⟨bb, oo + i * 6, none⟩ = some (.int .i64 pk) ∧ w'.cell? ⟨bb, oo + i * 6 + 1, none⟩ = some (.bool pb) ∧ w'.cell? ⟨bb, oo + i * 6 + 2, none⟩ = some (.int .i64 pn) ∧ w'.cell? ⟨bb, oo + i * 6 + 3, none⟩ = some (.string pt) ∧ w'.cell? ⟨bb, oo + i * 6 + 4, none⟩ = some (.slice pka pkl pkc) ∧ w'.cell? ⟨bb, oo + i * 6 + 5, none⟩ = some (.slice pla pll plc))
            (first | assumption | (exact keepV (by assumption) (by assumption)))
            ((go_at_call 27; refine (K3.out _ (LV.rm (And.left (by assumption))).bl).mono ?_; rintro e w3 ⟨rfl, hb3⟩))
          have M3 : LV W ⟨k, b, n', t, ka, kl, kc, la, ll, lc, ks⟩ (.slice av zs.length cv) zs _ := And.left (by assumption)
          go_wp2_with ((at_builtin; refine wpList_append_own _ rfl _ _ 22 rfl (W.heap.size + 1) 23 i0 (.int .i64 0) 1 8 Tryd.underlying22 hi0 hz0 hz1 hz2 rfl (by decide) _ _ _ rfl (M3.own.alloc _) ⟨w3.heap.size, 0, none⟩ 1 1 [.int .i64 E] rfl rfl (one_new _ _ _) one_int C3.out C4.out (Nat.le_trans (LV.size M3) (by simp)) ?_; intro v' w4 hown' hgrow _; obtain ⟨av', cv', rfl⟩ := owns_form hown'; have HL4 := Lib.hid (LV.push M3 hgrow (by simpa using hown')); clear hown' hgrow))
          go_roundg (n - (i + 1))
          case measure => omega
          case rel => exact ⟨i + 1, by go_num, rfl, by omega, by rw [HTS.out]; exact HL4.out, HAL2.out⟩
        · have HE1 : Hid (E = 1) := by have := HQE.out; rw [if_neg hP] at this; exact this
          clear HQE K3
          generalize checkV p cp = PP at *
          have eP : (PP == 0) = false := by simpa using hP
          clear hP
          obtain ⟨pk, pb, pn, pt, pka, pkl, pkc, pla, pll, plc, pks⟩ := p
          obtain ⟨c0, c1, c2, c3, c4, c5⟩ := hc1
          simp only at c0 c1 c2 c3 c4 c5
          simp only [Nd.val] at *
          generalize smV _ cp 1000 = SS at *
          go_wp2_with (first
            | (go_at_call 25; refine (K1.out _ HL.out).mono ?_; rintro e w1 ⟨rfl, M, ⟨d0, d1, d2, d3, d4, d5⟩⟩; clear c0 c1 c2 c3 c4 c5; simp only at d0 d1 d2 d3 d4 d5)
            | (go_at_call 26; refine (K2.out _ M.rm.bl).mono ?_; rintro e w2 ⟨rfl, hb2⟩; have M2 := M.next hb2)
            | (at_builtin; refine wpList_append_own _ rfl _ _ 22 rfl (W.heap.size + 1) 23 i0 (.int .i64 0) 1 8 Tryd.underlying22 hi0 hz0 hz1 hz2 rfl (by decide) _ _ _ rfl (M2.own.alloc _) ⟨w2.heap.size, 0, none⟩ 1 1 [.int .i64 1] rfl rfl (one_new _ _ _) one_int C3.out C4.out (Nat.le_trans (LV.size M2) (by simp)) ?_; intro v' w4 hown' hgrow _; obtain ⟨av', cv', rfl⟩ := owns_form hown'; have HL4 := Lib.hid (LV.push M2 hgrow (by simpa using hown')); clear hown' hgrow))
          go_roundg (n - (i + 1))
          case measure => omega
          case rel => exact ⟨i + 1, by go_num, rfl, by omega, by rw [HTS.out, HE1.out]; exact HL4.out, HAL2.out⟩
    · have hin : i = n := by omega
      subst hin
      have hfull : (F.toL.take i) = F.toL := List.take_of_length_le (by rw [← HLEN.out]; omega)
      rw [hfull] at HL
      have HIN2 := Lib.hid (HIN.out fun j p hj => HAL.out j p (by have := (List.getElem?_eq_some_iff.1 hj).1; have := HLEN.out; omega) hj)
      have hfl : (List.map (fun p : Nd × Fo => eqA ⟨k, b, n', t, ka, kl, kc, la, ll, lc, ks⟩ c p.1 p.2) F.toL).length = i := by rw [List.length_map]; exact HLEN.out.symm
      rw [hfull]
      clear hfull
      generalize (F.toL.map fun p : Nd × Fo => eqA ⟨k, b, n', t, ka, kl, kc, la, ll, lc, ks⟩ c p.1 p.2) = zs at *
      have HZL : Hid (zs.length = i) := hfl
      clear hfl
      have HRO : Hid (∀ w, LV W ⟨k, b, n', t, ka, kl, kc, la, ll, lc, ks⟩ (.slice av zs.length cv) zs w → Calls Tryd.prog 12 #[.slice av zs.length cv] w fun e w' => e = .returned (.int .i64 (orL zs)) ∧ w = w') := fun w hl => by
        obtain ⟨_, a', c', e1, _, hrow⟩ := rowAt_owns hl.own
        cases e1
        exact ror_any _ _ _ zs w rfl hrow (by have := HZL.out; omega)
      generalize orL zs = OR at *
      have M0 := HL.out
      go_wp2_with (first
        | (go_at_call 10; refine (HOf.out _ M0.rm).mono ?_; rintro e w2 ⟨rfl, hb2⟩; have M2 := M0.next hb2; clear x0 x1 x2 x3 x4 x5; obtain ⟨x0, x1, x2, x3, x4, x5⟩ := M2.rm.six.cells; simp only [Nat.zero_add] at x0 x1 x2 x3 x4 x5)
        | (go_at_call 28; refine (HROf.out _).mono ?_; rintro e w3 ⟨rfl, hb3⟩; have M3 := M2.next hb3; clear x0 x1 x2 x3 x4 x5; obtain ⟨x0, x1, x2, x3, x4, x5⟩ := M3.rm.six.cells; simp only [Nat.zero_add] at x0 x1 x2 x3 x4 x5)
        | (go_at_call 23; refine (HIN2.out _ M3.rm).mono ?_; rintro e w4 ⟨rfl, hb4⟩; have M4 := M3.next hb4)
        | (go_at_call 12; refine (HRO.out _ M4).mono ?_; rintro e w5 ⟨rfl, rfl⟩)
        | (go_at_call 6; refine (HW.out _).mono ?_; rintro e w6 ⟨rfl, hb6⟩))
      go_ret
      exact ⟨rfl, (M4.rm.next hb6).bl⟩

set_option maxRecDepth 100000 in
set_option maxHeartbeats 16000000 in
theorem values_not (x : Nd) (c : Fo) (a : Option Addr) (n cap : Nat) (F : Fo) (W : World) (h : ValsIn W x c a n F) (h40 : n ≤ 40) (hs : smV x c 1000 ≤ 1000) (hC : checkV x c ≠ 0) (hT : Lib.Utf8Tabs 0 1 W) :
    Calls Tryd.prog 5 #[x.val, .slice a n cap] W fun e w' => e = .returned (.bool true) ∧ Below W.heap.size W w' := by
  obtain ⟨i0, hi0, hz0, hz1, hz2⟩ := info_parts info_truth
  have hgx : Good W.heap.size W x c := ⟨h.in_, h.keys, sized_of_tot (by have := smV_all hs; omega)⟩
  have HS : Hid (∀ w, RM W x w → Calls Tryd.prog 25 #[x.val, .int .i64 1000] w fun e w' => e = .returned (.int .i64 (smV x c 1000)) ∧ RM W x w') := fun w hr => (small_any x c W.heap.size w 1000 (h.in_.keep (Cellsy.of_below hr.bl)) (h.keys.keep (Cellsy.of_below hr.bl)) h.fit h.fitc hr.bl.size (by omega) (by omega)).mono fun e w' h' => ⟨h'.1, hr.next h'.2⟩
  have HCk : Hid (∀ w, RM W x w → Calls Tryd.prog 26 #[x.val] w fun e w' => e = .returned (.int .i64 (checkV x c)) ∧ RM W x w') := fun w hr => (rcheck_any (hgx.below (Nat.le_refl _) hr.bl) hr.bl.size).mono fun e w' h' => ⟨h'.1, hr.next h'.2⟩
  have HOf : Hid (∀ w, RM W x w → Calls Tryd.prog 10 #[x.val] w fun e w' => e = .returned (ofP x c) ∧ Below w.heap.size w w') := fun w hr => of_good x c w (hgx.below (Nat.le_refl _) hr.bl) hr.bl.size (Utf8Tabs_below hT hr.bl)
  have HROf : Hid (∀ w, Calls Tryd.prog 28 #[x.val] w fun e w' => e = .returned (ofV x.k x.b) ∧ Below w.heap.size w w') := fun w => rof_any x w
  have HW : Hid (∀ w, Calls Tryd.prog 6 #[] w fun e w' => e = .returned (.bool true) ∧ Below w.heap.size w w') := fun w => works_any w
  have HIN : Hid ((∀ (j : Nat) (p : Nd × Fo), F.toL[j]? = some p → smV p.1 p.2 1000 ≤ 1000) → ∀ w, RM W x w → Calls Tryd.prog 23 #[x.val, .slice a n cap] w fun e w' => e = .returned (.int .i64 (orL (F.toL.map fun p => eqA x c p.1 p.2))) ∧ Below w.heap.size w w') := fun hall w hr => by
    rw [← in_or (fun y d => eqA x c y d)]
    have hv : Vals W.heap.size w a F := by
      refine ⟨h.at_.imp id (fun ⟨b, o, e, h'⟩ => ⟨b, o, e, h'.keep (Cellsy.of_below hr.bl)⟩), fun p hp => ?_, by have := h.len; omega⟩
      obtain ⟨j, hj⟩ := List.getElem?_of_mem hp
      have h1 := hall j p hj
      exact sized_of_tot (by have := smV_all h1; omega)
    exact in_any x n cap hv h.len hr.bl.size (fun y d => eqA x c y d) fun y d W' _ hy hb => Equal_any x y c d W' ((hgx.below (Nat.le_refl _) hr.bl).below hr.bl.size hb) hy (Nat.le_trans hr.bl.size hb.size) (Utf8Tabs_below (Utf8Tabs_below hT hr.bl) hb)
  have HEL : Hid (∀ i, i < n → ∃ p cp b o, F.toL[i]? = some (p, cp) ∧ a = some ⟨b, o, none⟩ ∧ b < W.heap.size ∧ p.Cells W b (o + i * 6) ∧
      (∀ w, Below W.heap.size W w → Calls Tryd.prog 25 #[p.val, .int .i64 1000] w fun e w' => e = .returned (.int .i64 (smV p cp 1000)) ∧ Below w.heap.size w w') ∧
      (smV p cp 1000 ≤ 1000 → ∀ w, Below W.heap.size W w → Calls Tryd.prog 26 #[p.val] w fun e w' => e = .returned (.int .i64 (checkV p cp)) ∧ Below w.heap.size w w') ∧
      (smV p cp 1000 ≤ 1000 → ∀ w, Below W.heap.size W w → Calls Tryd.prog 27 #[x.val, p.val] w fun e w' => e = .returned (.int .i64 (eqV x c p cp)) ∧ Below w.heap.size w w')) := fun i hi => by
    obtain ⟨p, cp, b, o, hp, ha, hbn, hcs, hpk, hpi⟩ := at_get h.at_ (i := i) (by rw [← h.len]; exact hi)
    have hft := h.fitF.mem _ (List.mem_of_getElem? hp)
    refine ⟨p, cp, b, o, hp, ha, hbn, hcs, fun w hb => ?_, fun hsm w hb => ?_, fun hsm w hb => ?_⟩
    · exact small_any p cp W.heap.size w 1000 (hpi.keep (Cellsy.of_below hb)) (hpk.keep (Cellsy.of_below hb)) hft.1 hft.2 hb.size (by omega) (by omega)
    · exact rcheck_any ((Good.mk hpi hpk (sized_of_tot (by have := smV_all hsm; omega)) : Good W.heap.size W p cp).below (Nat.le_refl _) hb) hb.size
    · exact requal_any x c p cp W.heap.size w (hgx.below (Nat.le_refl _) hb) ((Good.mk hpi hpk (sized_of_tot (by have := smV_all hsm; omega)) : Good W.heap.size W p cp).below (Nat.le_refl _) hb) hb.size
  have HR := Lib.hid (RM.new W x)
  have hlen := h.len
  have HLEN : Hid (n = F.toL.length) := by unfold Hid; rw [Fo.len_toL]; exact hlen
  have HQ : Hid (∀ y d, eqA x c y d = 1) := fun y d => by unfold eqA; simp [hC]
  have hof : ofP x c = .tuple #[.int .i64 1, .bool false] := by unfold ofP; rw [if_neg hC]
  rw [hof] at HOf
  clear hof hlen hgx hT h HROf
  generalize checkV x c = C at HCk hC
  have eC : (C == 0) = false := by simpa using hC
  clear hC
  generalize smV x c 1000 = S at *
  obtain ⟨k, b, n', t, ka, kl, kc, la, ll, lc, ks⟩ := x
  simp only [Nd.val] at *
  obtain ⟨x0, x1, x2, x3, x4, x5⟩ := HR.out.six.cells
  simp only [Nat.zero_add] at x0 x1 x2 x3 x4 x5
  go_enter Tryd.func5, Tryd.ntmps5
  go_wp2_with (first
    | (go_at_call 25; refine (HS.out _ HR.out).mono ?_; rintro e w1 ⟨rfl, M⟩; clear x0 x1 x2 x3 x4 x5; obtain ⟨x0, x1, x2, x3, x4, x5⟩ := M.six.cells; simp only [Nat.zero_add] at x0 x1 x2 x3 x4 x5)
    | (go_at_call 26; refine (HCk.out _ M).mono ?_; rintro e w1 ⟨rfl, M2⟩))
  clear x0 x1 x2 x3 x4 x5
  have HM2 := Lib.hid M2
  clear M2 M
  go_loopg [6, 7] n (fun gk s6 s7 wx => ∃ i : Nat, s7 = .int .i64 i ∧ gk = n - i ∧ i ≤ n ∧ LV W ⟨k, b, n', t, ka, kl, kc, la, ll, lc, ks⟩ s6 ((F.toL.take i).map fun p => eqA ⟨k, b, n', t, ka, kl, kc, la, ll, lc, ks⟩ c p.1 p.2) wx ∧ ∀ (j : Nat) (p : Nd × Fo), j < i → F.toL[j]? = some p → smV p.1 p.2 1000 ≤ 1000)
  case atStart => exact ⟨0, rfl, rfl, Nat.zero_le _, ⟨HM2.out, World.ownsRow_nil _ _ _ _⟩, fun j p hj => absurd hj (Nat.not_lt_zero j)⟩
  case round =>
    obtain ⟨i, rfl, rfl, hi, hL, hall⟩ := hrel
    have HAL := Lib.hid hall
    have HL := Lib.hid hL
    obtain ⟨av, cv, rfl⟩ := owns_form hL.own
    clear hall hL
    obtain ⟨x0, x1, x2, x3, x4, x5⟩ := HL.out.rm.six.cells
    simp only [Nat.zero_add] at x0 x1 x2 x3 x4 x5
    by_cases hlt : i < n
    · obtain ⟨p, cp, bb, oo, hp, ha, hbn, hcs, k1, k2, k3⟩ := HEL.out i hlt
      subst ha
      have hc1 := Nd.Cells.keep (Cellsy.of_below HL.out.rm.bl) hbn hcs
      have K1 : Hid (∀ w, LV W ⟨k, b, n', t, ka, kl, kc, la, ll, lc, ks⟩ (.slice av ((F.toL.take i).map fun p => eqA ⟨k, b, n', t, ka, kl, kc, la, ll, lc, ks⟩ c p.1 p.2).length cv) ((F.toL.take i).map fun p => eqA ⟨k, b, n', t, ka, kl, kc, la, ll, lc, ks⟩ c p.1 p.2) w → Calls Tryd.prog 25 #[p.val, .int .i64 1000] w fun e w' => e = .returned (.int .i64 (smV p cp 1000)) ∧ (LV W ⟨k, b, n', t, ka, kl, kc, la, ll, lc, ks⟩ (.slice av ((F.toL.take i).map fun p => eqA ⟨k, b, n', t, ka, kl, kc, la, ll, lc, ks⟩ c p.1 p.2).length cv) ((F.toL.take i).map fun p => eqA ⟨k, b, n', t, ka, kl, kc, la, ll, lc, ks⟩ c p.1 p.2) w' ∧ p.Cells w' bb (oo + i * 6))) := fun w hl => (k1 w hl.rm.bl).mono fun e w' h' => ⟨h'.1, hl.next h'.2, Nd.Cells.keep (Cellsy.of_below (hl.rm.bl.trans (h'.2.mono hl.rm.bl.size))) hbn hcs⟩
      have hq := HQ.out p cp
      have hts := take_map_succ (f := fun p : Nd × Fo => eqA ⟨k, b, n', t, ka, kl, kc, la, ll, lc, ks⟩ c p.1 p.2) hp
      have hzl : ((F.toL.take i).map fun p : Nd × Fo => eqA ⟨k, b, n', t, ka, kl, kc, la, ll, lc, ks⟩ c p.1 p.2).length = i := by rw [List.length_map, List.length_take, ← HLEN.out]; omega
      have HP := Lib.hid hp
      have HTS := Lib.hid hts
      have HZL := Lib.hid hzl
      have HQE := Lib.hid hq
      simp only at HTS
      clear hp hts hzl hq hcs k1
      generalize eqA ⟨k, b, n', t, ka, kl, kc, la, ll, lc, ks⟩ c p cp = E at *
      by_cases hsm : 1000 < smV p cp 1000
      · clear k2 k3
        obtain ⟨pk, pb, pn, pt, pka, pkl, pkc, pla, pll, plc, pks⟩ := p
        obtain ⟨c0, c1, c2, c3, c4, c5⟩ := hc1
        simp only at c0 c1 c2 c3 c4 c5
        simp only [Nd.val] at *
        generalize smV _ cp 1000 = SS at *
        go_wp2_with (first
          | (go_at_call 25; refine (K1.out _ HL.out).mono ?_; rintro e w1 ⟨rfl, M, _⟩)
          | (go_at_call 6; refine (HW.out _).mono ?_; rintro e w1 ⟨rfl, hbw⟩))
        go_ret
        exact ⟨rfl, (M.rm.next hbw).bl⟩
      · have hsm' : smV p cp 1000 ≤ 1000 := by omega
        have K2 := Lib.hid (k2 hsm')
        have K3 := Lib.hid (k3 hsm')
        have HAL2 : Hid (∀ (j : Nat) (p : Nd × Fo), j < i + 1 → F.toL[j]? = some p → smV p.1 p.2 1000 ≤ 1000) := fun j q hj hq => by
          rcases Nat.lt_or_ge j i with h' | h'
          · exact HAL.out j q h' hq
          · obtain rfl : j = i := by omega
            rw [HP.out] at hq
            cases hq
            exact hsm'
        clear k2 k3 hsm HP
        generalize hzs : ((F.toL.take i).map fun p : Nd × Fo => eqA ⟨k, b, n', t, ka, kl, kc, la, ll, lc, ks⟩ c p.1 p.2) = zs at *
        have HZS := Lib.hid hzs
        clear hzs
        have c3 : zs.length + 1 ≤ maxLen := by unfold maxLen; have := HZL.out; omega
        have c4 : (zs.length + 1) * 8 ≤ 140737488355328 := by have := HZL.out; omega
        have hzl2 : zs.length ≤ 1000 := by have := HZL.out; omega
        have C3 := Lib.hid c3; have C4 := Lib.hid c4; clear c3 c4
        have HE1 : Hid (E = 1) := HQE.out
        clear HQE K2 K3
        obtain ⟨pk, pb, pn, pt, pka, pkl, pkc, pla, pll, plc, pks⟩ := p
        obtain ⟨c0, c1, c2, c3, c4, c5⟩ := hc1
        simp only at c0 c1 c2 c3 c4 c5
        simp only [Nd.val] at *
        generalize smV _ cp 1000 = SS at *
        go_wp2_with (first
          | (go_at_call 25; refine (K1.out _ HL.out).mono ?_; rintro e w1 ⟨rfl, M, ⟨d0, d1, d2, d3, d4, d5⟩⟩; clear c0 c1 c2 c3 c4 c5; simp only at d0 d1 d2 d3 d4 d5)
          | (at_builtin; refine wpList_append_own _ rfl _ _ 22 rfl (W.heap.size + 1) 23 i0 (.int .i64 0) 1 8 Tryd.underlying22 hi0 hz0 hz1 hz2 rfl (by decide) _ _ _ rfl (M.own.alloc _) ⟨w1.heap.size, 0, none⟩ 1 1 [.int .i64 1] rfl rfl (one_new _ _ _) one_int C3.out C4.out (Nat.le_trans (LV.size M) (by simp)) ?_; intro v' w4 hown' hgrow _; obtain ⟨av', cv', rfl⟩ := owns_form hown'; have HL4 := Lib.hid (LV.push M hgrow (by simpa using hown')); clear hown' hgrow))
        go_roundg (n - (i + 1))
        case measure => omega
        case rel => exact ⟨i + 1, by go_num, rfl, by omega, by rw [HTS.out, HE1.out]; exact HL4.out, HAL2.out⟩
    · have hin : i = n := by omega
      subst hin
      have hfull : (F.toL.take i) = F.toL := List.take_of_length_le (by rw [← HLEN.out]; omega)
      rw [hfull] at HL
      have HIN2 := Lib.hid (HIN.out fun j p hj => HAL.out j p (by have := (List.getElem?_eq_some_iff.1 hj).1; have := HLEN.out; omega) hj)
      have hfl : (List.map (fun p : Nd × Fo => eqA ⟨k, b, n', t, ka, kl, kc, la, ll, lc, ks⟩ c p.1 p.2) F.toL).length = i := by rw [List.length_map]; exact HLEN.out.symm
      rw [hfull]
      clear hfull
      generalize (F.toL.map fun p : Nd × Fo => eqA ⟨k, b, n', t, ka, kl, kc, la, ll, lc, ks⟩ c p.1 p.2) = zs at *
      have HZL : Hid (zs.length = i) := hfl
      clear hfl
      have HRO : Hid (∀ w, LV W ⟨k, b, n', t, ka, kl, kc, la, ll, lc, ks⟩ (.slice av zs.length cv) zs w → Calls Tryd.prog 12 #[.slice av zs.length cv] w fun e w' => e = .returned (.int .i64 (orL zs)) ∧ w = w') := fun w hl => by
        obtain ⟨_, a', c', e1, _, hrow⟩ := rowAt_owns hl.own
        cases e1
        exact ror_any _ _ _ zs w rfl hrow (by have := HZL.out; omega)
      generalize orL zs = OR at *
      have M0 := HL.out
      go_wp2_with (first
        | (go_at_call 10; refine (HOf.out _ M0.rm).mono ?_; rintro e w2 ⟨rfl, hb2⟩; have M2 := M0.next hb2; clear x0 x1 x2 x3 x4 x5; obtain ⟨x0, x1, x2, x3, x4, x5⟩ := M2.rm.six.cells; simp only [Nat.zero_add] at x0 x1 x2 x3 x4 x5)
        | (go_at_call 23; refine (HIN2.out _ M2.rm).mono ?_; rintro e w4 ⟨rfl, hb4⟩; have M4 := M2.next hb4)
        | (go_at_call 12; refine (HRO.out _ M4).mono ?_; rintro e w5 ⟨rfl, rfl⟩)
        | (go_at_call 6; refine (HW.out _).mono ?_; rintro e w6 ⟨rfl, hb6⟩))
      go_ret
      exact ⟨rfl, (M4.rm.next hb6).bl⟩
end Go.Proofs.YtlokoepljmlcgaaDoor
