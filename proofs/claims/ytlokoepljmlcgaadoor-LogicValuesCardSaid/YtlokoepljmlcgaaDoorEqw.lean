/-
  THE WALK of value.equal.
-/
import Derived.Test.YtlokoepljmlcgaaDoorEqP
import Derived.Deep.LoopGhost
import Derived.Deep.RegionHeld3
namespace Go.Proofs.YtlokoepljmlcgaaDoor
set_option linter.unusedSimpArgs false
set_option linter.unusedVariables false
open Go.RowKit Go.Shelf

theorem eqI_in (c d : Fo) (i : Nat) : 0 ≤ eqI c d i ∧ eqI c d i ≤ 2 := by
  unfold eqI
  generalize (c.toL.zip d.toL).take i = l
  induction l with
  | nil => simp
  | cons p r ih =>
    have := eqV_in p.1.1 p.1.2 p.2.1 p.2.2
    simp only [List.foldr_cons]; omega
/-- What is known while two values are held against each other. -/
structure RE (W : World) (x y : Nd) (w : World) : Prop where
  six : Six w W.heap.size x 30
  six2 : Six w (W.heap.size + 1) y 30
  bl : Below W.heap.size W w
theorem RE.next {W : World} {x y : Nd} {w w' : World} (h : RE W x y w) (hb : Below w.heap.size w w') : RE W x y w' := ⟨h.six.next hb, h.six2.next hb, h.bl.trans (hb.mono h.bl.size)⟩
theorem RE.drew {W : World} {x y : Nd} {w : World} (h : RE W x y w) (n : Nat) : RE W x y (w.drewN n) := h.next (bdrewN (Below.refl _ _) n)
theorem RE.new (W : World) (x y : Nd) : RE W x y ((W.alloc (.cells #[.int .i64 x.k, .bool x.b, .int .i64 x.n, .string x.t, .slice x.ka x.kl x.kc, .slice x.la x.ll x.lc] 30)).alloc (.cells #[.int .i64 y.k, .bool y.b, .int .i64 y.n, .string y.t, .slice y.ka y.kl y.kc, .slice y.la y.ll y.lc] 30)) := by
  have h1 := (Six.new W x 30).next (ballocR _ (.cells #[.int .i64 y.k, .bool y.b, .int .i64 y.n, .string y.t, .slice y.ka y.kl y.kc, .slice y.la y.ll y.lc] 30))
  have h2 := Six.new (W.alloc (.cells #[.int .i64 x.k, .bool x.b, .int .i64 x.n, .string x.t, .slice x.ka x.kl x.kc, .slice x.la x.ll x.lc] 30)) y 30
  rw [World.size_alloc] at h2
  exact ⟨h1, h2, (ballocR W _).alloc (by simp) _⟩

/-- What equal answers. -/
def EqWP (x : Nd) (c : Fo) : Prop := ∀ (y : Nd) (d : Fo) (n₀ : Nat) (W : World), Good n₀ W x c → Good n₀ W y d → mayA x c = true → mayA y d = true → n₀ ≤ W.heap.size →
  Calls Tryd.prog 50 #[x.val, y.val] W fun e w' => e = .returned (.int .i64 (eqV x c y d)) ∧ Below W.heap.size W w'

set_option maxRecDepth 100000 in
set_option maxHeartbeats 4000000 in
/-- But of two lists, or two maps. -/
theorem equal_flat (x y : Nd) (c d : Fo) (W : World) (hm : mayB x = true) (hm' : mayB y = true) (h : x.k = 0 ∨ y.k = 0 ∨ x.k ≠ y.k ∨ (x.k ≠ 4 ∧ x.k ≠ 5)) :
    Calls Tryd.prog 50 #[x.val, y.val] W fun e w' => e = .returned (.int .i64 (eqV x c y d)) ∧ Below W.heap.size W w' := by
  have HR := Lib.hid (RE.new W x y).bl
  have HSZ := Lib.hid (RE.new W x y).bl.size
  by_cases h0 : x.k = 0 ∨ y.k = 0
  · rw [eqV_null c d h0]
    clear hm hm'
    obtain ⟨k, b, n, t, ka, kl, kc, la, ll, lc, ks⟩ := x
    obtain ⟨k', b', n', t', ka', kl', kc', la', ll', lc', ks'⟩ := y
    simp only [Nd.val] at *
    by_cases hx : k = 0
    · subst hx
      go_enter Tryd.func50, Tryd.ntmps50
      go_wp2_with fail
      go_ret
      exact ⟨rfl, HR.out⟩
    · have e0 : (k == 0) = false := by simpa using hx
      obtain rfl := h0.resolve_left hx
      go_enter Tryd.func50, Tryd.ntmps50
      go_wp2_with fail
      go_ret
      exact ⟨rfl, HR.out⟩
  · have hx : x.k ≠ 0 := fun e => h0 (.inl e)
    have hy : y.k ≠ 0 := fun e => h0 (.inr e)
    by_cases hk : x.k = y.k
    · have h45 : x.k ≠ 4 ∧ x.k ≠ 5 := by omega
      rw [eqV_one c d hx hk.symm h45.1 h45.2]
      have HC : Hid (∀ w, Calls Tryd.prog 64 #[x.val, y.val] w fun e w' => e = .returned (.int .i64 (cmpV x y)) ∧ Below w.heap.size w w') := fun w =>
        compare_any x y w hk.symm (may_flat hm h45.1 h45.2) (may_flat hm' (by rw [← hk]; exact h45.1) (by rw [← hk]; exact h45.2))
      clear hm hm'
      generalize cmpV x y = C at *
      obtain ⟨k, b, n, t, ka, kl, kc, la, ll, lc, ks⟩ := x
      obtain ⟨k', b', n', t', ka', kl', kc', la', ll', lc', ks'⟩ := y
      simp only [Nd.val] at *
      subst hk
      have e0 : (k == 0) = false := by simpa using hx
      have e4 : (k != 4) = true := by simpa using h45.1
      have e5 : (k != 5) = true := by simpa using h45.2
      by_cases hz : C = 0
      · subst hz
        rw [show (if ((0 : Int) == 0) = true then (2 : Int) else 0) = 2 from rfl]
        go_enter Tryd.func50, Tryd.ntmps50
        go_wp2_with (first
          | (go_at_call 64; refine (HC.out _).mono ?_; rintro e w1 ⟨rfl, hb1⟩)
          | (go_at_call 63; refine (truth_any _ _).mono ?_; rintro e w2 ⟨rfl, rfl⟩))
        go_ret
        exact ⟨rfl, HR.out.trans (hb1.mono HSZ.out)⟩
      · have ez : (C == 0) = false := by simpa using hz
        rw [ez, show (if (false : Bool) = true then (2 : Int) else 0) = 0 from rfl]
        clear hz
        go_enter Tryd.func50, Tryd.ntmps50
        go_wp2_with (first
          | (go_at_call 64; refine (HC.out _).mono ?_; rintro e w1 ⟨rfl, hb1⟩)
          | (go_at_call 63; refine (truth_any _ _).mono ?_; rintro e w2 ⟨rfl, rfl⟩))
        go_ret
        exact ⟨rfl, HR.out.trans (hb1.mono HSZ.out)⟩
    · rw [eqV_kinds c d hx hy hk]
      clear hm hm'
      obtain ⟨k, b, n, t, ka, kl, kc, la, ll, lc, ks⟩ := x
      obtain ⟨k', b', n', t', ka', kl', kc', la', ll', lc', ks'⟩ := y
      simp only [Nd.val] at *
      have e0 : (k == 0) = false := by simpa using hx
      have e1 : (k' == 0) = false := by simpa using hy
      have e2 : (k != k') = true := by simpa using hk
      go_enter Tryd.func50, Tryd.ntmps50
      go_wp2_with fail
      go_ret
      exact ⟨rfl, HR.out⟩

theorem keep13 {W : World} {x y : Nd} {wx wy : World} {p0 p1 p2 p3 p4 p5 q0 q1 q2 q3 q4 q5 r : Addr} {v0 v1 v2 v3 v4 v5 u0 u1 u2 u3 u4 u5 s : Value}
    (h : RE W x y wx ∧ wx.cell? p0 = some v0 ∧ wx.cell? p1 = some v1 ∧ wx.cell? p2 = some v2 ∧ wx.cell? p3 = some v3 ∧ wx.cell? p4 = some v4 ∧ wx.cell? p5 = some v5 ∧ wx.cell? q0 = some u0 ∧ wx.cell? q1 = some u1 ∧ wx.cell? q2 = some u2 ∧ wx.cell? q3 = some u3 ∧ wx.cell? q4 = some u4 ∧ wx.cell? q5 = some u5 ∧ wx.cell? r = some s) (hb : Below wx.heap.size wx wy) :
    RE W x y wy ∧ wy.cell? p0 = some v0 ∧ wy.cell? p1 = some v1 ∧ wy.cell? p2 = some v2 ∧ wy.cell? p3 = some v3 ∧ wy.cell? p4 = some v4 ∧ wy.cell? p5 = some v5 ∧ wy.cell? q0 = some u0 ∧ wy.cell? q1 = some u1 ∧ wy.cell? q2 = some u2 ∧ wy.cell? q3 = some u3 ∧ wy.cell? q4 = some u4 ∧ wy.cell? q5 = some u5 ∧ wy.cell? r = some s := by
  obtain ⟨hr, h0, h1, h2, h3, h4, h5, h6, h7, h8, h9, h10, h11, h12⟩ := h
  exact ⟨hr.next hb, cell_below h0 hb, cell_below h1 hb, cell_below h2 hb, cell_below h3 hb, cell_below h4 hb, cell_below h5 hb, cell_below h6 hb, cell_below h7 hb, cell_below h8 hb, cell_below h9 hb, cell_below h10 hb, cell_below h11 hb, cell_below h12 hb⟩

set_option maxRecDepth 100000 in
set_option maxHeartbeats 8000000 in
theorem equal_step (x : Nd) (c : Fo) (ih : c.Each EqWP) : EqWP x c := by
  intro y d n₀ W hg hg' hm hm' hn
  by_cases h : x.k = 0 ∨ y.k = 0 ∨ x.k ≠ y.k ∨ (x.k ≠ 4 ∧ x.k ≠ 5)
  · exact equal_flat x y c d W (mayA_head hm) (mayA_head hm') h
  · have hk : y.k = x.k := by omega
    have h4 : x.k = 4 ∨ x.k = 5 := by omega
    clear h
    have hll := hg.in_.1
    have hll' := hg'.in_.1
    have hlb : x.ll ≤ 1048576 := by rw [hll]; exact hg.vals.len
    have hlb' : y.ll ≤ 1048576 := by rw [hll']; exact hg'.vals.len
    have hkb : x.kl ≤ 1048576 := (hg.sized.2 (1, x, c) (by simp [Nd.pre])).2
    have hkb' : y.kl ≤ 1048576 := (hg'.sized.2 (1, y, d) (by simp [Nd.pre])).2
    have HS : Hid (∀ w, RE W x y w → Calls Tryd.prog 65 #[.slice x.ka x.kl x.kc, .slice y.ka y.kl y.kc] w fun e w' => e = .returned (.bool (decide (x.ks = y.ks))) ∧ RE W x y w') := fun w hr =>
      (sequal_any (n₀ := n₀) x y (hg.keys.keep (Cellsy.of_below (hr.bl.mono hn))) (hg'.keys.keep (Cellsy.of_below (hr.bl.mono hn))) (by omega) (by omega)).mono fun e w' h' => ⟨h'.1, hr.next h'.2⟩
    have HR := Lib.hid (RE.new W x y)
    have HG := Lib.hid hg
    have HG' := Lib.hid hg'
    have HI := Lib.hid ih
    have HM_ := Lib.hid hm
    have HM_' := Lib.hid hm'
    clear hg hg' ih hm hm'
    have HL := Lib.hid hll
    have HL' := Lib.hid hll'
    clear hll hll'
    have HNO : Hid (x.ll ≠ y.ll ∨ x.ks ≠ y.ks → eqV x c y d = 0) := fun h => eqV_other c d hk h4 h
    have HALL : Hid (x.ll = y.ll → x.ks = y.ks → eqV x c y d = eqF c d) := fun h h' => eqV_all c d hk h4 h h'
    generalize eqV x c y d = ANS at *
    obtain ⟨k, b, n, t, ka, kl, kc, la, ll, lc, ks⟩ := x
    obtain ⟨k', b', n', t', ka', kl', kc', la', ll', lc', ks'⟩ := y
    simp only [Nd.val] at *
    subst hk
    by_cases hl : ll = ll'
    · subst hl
      rcases h4 with rfl | rfl
      · by_cases hks : ks = ks'
        · rw [decide_eq_true hks] at HS
          have HKS := Lib.hid hks
          clear hks
          go_enter Tryd.func50, Tryd.ntmps50
          go_wp2_with (go_at_call 65; refine (HS.out _ HR.out).mono ?_; rintro e w1 ⟨rfl, hM⟩; have HM1 := Lib.hid hM; obtain ⟨x0, x1, x2, x3, x4, x5⟩ := hM.six.cells; clear hM; simp only [Nat.zero_add] at x0 x1 x2 x3 x4 x5)
          go_loopg [56, 5] ll (fun gk s0 s1 wx => ∃ i : Nat, s0 = .int .i64 i ∧ s1 = .int .i64 (eqI c d i) ∧ gk = ll - i ∧ i ≤ ll ∧ eqI c d i ≠ 0 ∧ RE W ⟨4, b, n, t, ka, kl, kc, la, ll, lc, ks⟩ ⟨4, b', n', t', ka', kl', kc', la', ll, lc', ks'⟩ wx)
          case atStart => exact ⟨0, rfl, by rw [eqI_zero], rfl, Nat.zero_le _, by rw [eqI_zero]; decide, HM1.out⟩
          case round =>
            obtain ⟨i, rfl, rfl, rfl, hi, hnz, hM⟩ := hrel
            have HM := Lib.hid hM
            clear hM x0 x1 x2 x3 x4 x5
            obtain ⟨x0, x1, x2, x3, x4, x5⟩ := HM.out.six.cells
            obtain ⟨y0, y1, y2, y3, y4, y5⟩ := HM.out.six2.cells
            simp only [Nat.zero_add] at x0 x1 x2 x3 x4 x5 y0 y1 y2 y3 y4 y5
            by_cases hlt : i < ll
            · obtain ⟨p, cp, bb, oo, hp, ha, hcs, hgp⟩ := HG.out.vals.get (i := i) (by rw [← HL.out]; exact hlt)
              obtain ⟨q, dq, bb', oo', hq, ha', hcs', hgq⟩ := HG'.out.vals.get (i := i) (by rw [← HL'.out]; exact hlt)
              simp only at ha ha'
              subst ha; subst ha'
              have hcw := Nd.Cells.keep (Cellsy.of_below HM.out.bl) (World.block_lt_of_cell? W ⟨bb, _, none⟩ hcs.1) hcs
              have hcw' := Nd.Cells.keep (Cellsy.of_below HM.out.bl) (World.block_lt_of_cell? W ⟨bb', _, none⟩ hcs'.1) hcs'
              have hC : ∀ w', Below W.heap.size W w' → Calls Tryd.prog 50 #[p.val, q.val] w' fun e w'' => e = .returned (.int .i64 (eqV p cp q dq)) ∧ Below w'.heap.size w' w'' := fun w' hb' =>
                (HI.out.mem _ (List.mem_of_getElem? hp)) q dq n₀ w' (hgp.below hn hb') (hgq.below hn hb') (mayA_sub HM_.out (List.mem_of_getElem? hp)) (mayA_sub HM_'.out (List.mem_of_getElem? hq)) (Nat.le_trans hn hb'.size)
              have hbx := ballocR wr (.cells #[.int .i64 p.k, .bool p.b, .int .i64 p.n, .string p.t, .slice p.ka p.kl p.kc, .slice p.la p.ll p.lc] 30)
              have hmx := HM.out.next hbx
              have hsx := (Six.new wr p 30).cells
              have hcq := Nd.Cells.keep (Cellsy.of_below hbx) (World.block_lt_of_cell? wr ⟨bb', _, none⟩ hcw'.1) hcw'
              have hsucc := eqI_succ hp hq
              have hno := eqF_no hp hq
              simp only at hsucc hno
              have hin := eqV_in p cp q dq
              generalize eqV p cp q dq = E at *
              have HP := Lib.hid hp; have HQ := Lib.hid hq; have HC := Lib.hid hC; have HI1 := Lib.hid hnz; have HMX := Lib.hid hmx; have HSX := Lib.hid hsx; have HSU := Lib.hid hsucc; have HNF := Lib.hid hno; have HCQ := Lib.hid hcq; have HIN := Lib.hid hin
              clear hp hq hC hgp hgq hnz hmx hsx hsucc hno hbx hcs hcs' hcw' hcq hin
              obtain ⟨pk, pb, pn, pt, pka, pkl, pkc, pla, pll, plc, pks⟩ := p
              obtain ⟨qk, qb, qn, qt, qka, qkl, qkc, qla, qll, qlc, qks⟩ := q
              obtain ⟨c0, c1, c2, c3, c4, c5⟩ := hcw
              simp only at c0 c1 c2 c3 c4 c5
              simp only [Nd.val] at HC
              go_wp2_with fail
              have hS : RE W ⟨4, b, n, t, ka, kl, kc, some ⟨bb, oo, none⟩, ll, lc, ks⟩ ⟨4, b', n', t', ka', kl', kc', some ⟨bb', oo', none⟩, ll, lc', ks'⟩ (wr.alloc (.cells #[.int .i64 pk, .bool pb, .int .i64 pn, .string pt, .slice pka pkl pkc, .slice pla pll plc] 30)).drew ∧ (wr.alloc (.cells #[.int .i64 pk, .bool pb, .int .i64 pn, .string pt, .slice pka pkl pkc, .slice pla pll plc] 30)).drew.cell? ⟨wr.heap.size, 0, none⟩ = some (.int .i64 pk) ∧ (wr.alloc (.cells #[.int .i64 pk, .bool pb, .int .i64 pn, .string pt, .slice pka pkl pkc, .slice pla pll plc] 30)).drew.cell? ⟨wr.heap.size, 1, none⟩ = some (.bool pb) ∧ (wr.alloc (.cells #[.int .i64 pk, .bool pb, .int .i64 pn, .string pt, .slice pka pkl pkc, .slice pla pll plc] 30)).drew.cell? ⟨wr.heap.size, 2, none⟩ = some (.int .i64 pn) ∧ (wr.alloc (.cells #[.int .i64 pk, .bool pb, .int .i64 pn, .string pt, .slice pka pkl pkc, .slice pla pll plc] 30)).drew.cell? ⟨wr.heap.size, 3, none⟩ = some (.string pt) ∧ (wr.alloc (.cells #[.int .i64 pk, .bool pb, .int .i64 pn, .string pt, .slice pka pkl pkc, .slice pla pll plc] 30)).drew.cell? ⟨wr.heap.size, 4, none⟩ = some (.slice pka pkl pkc) ∧ (wr.alloc (.cells #[.int .i64 pk, .bool pb, .int .i64 pn, .string pt, .slice pka pkl pkc, .slice pla pll plc] 30)).drew.cell? ⟨wr.heap.size, 5, none⟩ = some (.slice pla pll plc) ∧ (wr.alloc (.cells #[.int .i64 pk, .bool pb, .int .i64 pn, .string pt, .slice pka pkl pkc, .slice pla pll plc] 30)).drew.cell? ⟨bb', oo' + i * 6, none⟩ = some (.int .i64 qk) ∧ (wr.alloc (.cells #[.int .i64 pk, .bool pb, .int .i64 pn, .string pt, .slice pka pkl pkc, .slice pla pll plc] 30)).drew.cell? ⟨bb', oo' + i * 6 + 1, none⟩ = some (.bool qb) ∧ (wr.alloc (.cells #[.int .i64 pk, .bool pb, .int .i64 pn, .string pt, .slice pka pkl pkc, .slice pla pll plc] 30)).drew.cell? ⟨bb', oo' + i * 6 + 2, none⟩ = some (.int .i64 qn) ∧ (wr.alloc (.cells #[.int .i64 pk, .bool pb, .int .i64 pn, .string pt, .slice pka pkl pkc, .slice pla pll plc] 30)).drew.cell? ⟨bb', oo' + i * 6 + 3, none⟩ = some (.string qt) ∧ (wr.alloc (.cells #[.int .i64 pk, .bool pb, .int .i64 pn, .string pt, .slice pka pkl pkc, .slice pla pll plc] 30)).drew.cell? ⟨bb', oo' + i * 6 + 4, none⟩ = some (.slice qka qkl qkc) ∧ (wr.alloc (.cells #[.int .i64 pk, .bool pb, .int .i64 pn, .string pt, .slice pka pkl pkc, .slice pla pll plc] 30)).drew.cell? ⟨bb', oo' + i * 6 + 5, none⟩ = some (.slice qla qll qlc) ∧ (wr.alloc (.cells #[.int .i64 pk, .bool pb, .int .i64 pn, .string pt, .slice pka pkl pkc, .slice pla pll plc] 30)).drew.cell? ⟨W.heap.size + 1, 5, none⟩ = some (.slice (some ⟨bb', oo', none⟩) ll lc') := by
                obtain ⟨a0, a1, a2, a3, a4, a5⟩ := HSX.out
                obtain ⟨d0, d1, d2, d3, d4, d5⟩ := HCQ.out
                have e5 := HMX.out.six2.cells.2.2.2.2.2
                simp only [Nat.zero_add] at a0 a1 a2 a3 a4 a5 e5
                exact ⟨HMX.out.drew 1, a0, a1, a2, a3, a4, a5, d0, d1, d2, d3, d4, d5, e5⟩
              generalize World.alloc _ _ = V at hS ⊢
              clear x0 x1 x2 x3 x4 x5 y0 y1 y2 y3 y4 y5 c0 c1 c2 c3 c4 c5 HSX HCQ HMX
              go_region_held3 (fun w' => RE W ⟨4, b, n, t, ka, kl, kc, some ⟨bb, oo, none⟩, ll, lc, ks⟩ ⟨4, b', n', t', ka', kl', kc', some ⟨bb', oo', none⟩, ll, lc', ks'⟩ w' ∧ w'.cell? ⟨wr.heap.size, 0, none⟩ = some (.int .i64 pk) ∧ w'.cell? ⟨wr.heap.size, 1, none⟩ = some (.bool pb) ∧ w'.cell? ⟨wr.heap.size, 2, none⟩ = some (.int .i64 pn) ∧ w'.cell? ⟨wr.heap.size, 3, none⟩ = some (.string pt) ∧ w'.cell? ⟨wr.heap.size, 4, none⟩ = some (.slice pka pkl pkc) ∧ w'.cell? ⟨wr.heap.size, 5, none⟩ = some (.slice pla pll plc) ∧ w'.cell? ⟨bb', oo' + i * 6, none⟩ = some (.int .i64 qk) ∧ w'.cell? ⟨bb', oo' + i * 6 + 1, none⟩ = some (.bool qb) ∧ w'.cell? ⟨bb', oo' + i * 6 + 2, none⟩ = some (.int .i64 qn) ∧ w'.cell? ⟨bb', oo' + i * 6 + 3, none⟩ = some (.string qt) ∧ w'.cell? ⟨bb', oo' + i * 6 + 4, none⟩ = some (.slice qka qkl qkc) ∧ w'.cell? ⟨bb', oo' + i * 6 + 5, none⟩ = some (.slice qla qll qlc) ∧ w'.cell? ⟨W.heap.size + 1, 5, none⟩ = some (.slice (some ⟨bb', oo', none⟩) ll lc'))
                (first | assumption | (exact keep13 (by assumption) (by assumption)))
                ((go_at_call 50; refine (HC.out _ (RE.bl (And.left (by assumption)))).mono ?_; rintro e w2 ⟨rfl, hb2⟩))
              rcases (show E = 0 ∨ E = 1 ∨ E = 2 by have := HIN.out; omega) with rfl | rfl | rfl
              · go_wp2
                go_ret
                exact ⟨ret1 (by rw [HALL.out (by trivial) HKS.out, HNF.out (by trivial)]), RE.bl (And.left (by assumption))⟩
              · have hz1 : min (eqI c d i) 1 = 1 := by have := HI1.out; have := eqI_in c d i; omega
                have HZ1 := Lib.hid hz1
                clear hz1
                go_wp2
                go_roundg (ll - (i + 1))
                case measure => omega
                case rel => exact ⟨i + 1, by go_num, by rw [HSU.out, HZ1.out], rfl, by omega, by rw [HSU.out, HZ1.out]; decide, And.left (by assumption)⟩
              · have hz1 : min (eqI c d i) 2 = eqI c d i := by have := eqI_in c d i; omega
                have HZ1 := Lib.hid hz1
                clear hz1
                go_wp2
                go_roundg (ll - (i + 1))
                case measure => omega
                case rel => exact ⟨i + 1, by go_num, by rw [HSU.out, HZ1.out], rfl, by omega, by rw [HSU.out, HZ1.out]; exact HI1.out, And.left (by assumption)⟩
            · have hin : i = ll := by omega
              subst hin
              go_wp2
              go_ret
              exact ⟨ret1 (by rw [HALL.out (by trivial) HKS.out, eqI_all HL.out.symm HL'.out.symm]), HM.out.bl⟩
        · rw [decide_eq_false hks] at HS
          go_enter Tryd.func50, Tryd.ntmps50
          go_wp2_with (go_at_call 65; refine (HS.out _ HR.out).mono ?_; rintro e w1 ⟨rfl, hM⟩; have HM1 := Lib.hid hM; obtain ⟨x0, x1, x2, x3, x4, x5⟩ := hM.six.cells; clear hM; simp only [Nat.zero_add] at x0 x1 x2 x3 x4 x5)
          go_ret
          exact ⟨ret1 (HNO.out (.inr hks)).symm, HM1.out.bl⟩
      · by_cases hks : ks = ks'
        · rw [decide_eq_true hks] at HS
          have HKS := Lib.hid hks
          clear hks
          go_enter Tryd.func50, Tryd.ntmps50
          go_wp2_with (go_at_call 65; refine (HS.out _ HR.out).mono ?_; rintro e w1 ⟨rfl, hM⟩; have HM1 := Lib.hid hM; obtain ⟨x0, x1, x2, x3, x4, x5⟩ := hM.six.cells; clear hM; simp only [Nat.zero_add] at x0 x1 x2 x3 x4 x5)
          go_loopg [56, 5] ll (fun gk s0 s1 wx => ∃ i : Nat, s0 = .int .i64 i ∧ s1 = .int .i64 (eqI c d i) ∧ gk = ll - i ∧ i ≤ ll ∧ eqI c d i ≠ 0 ∧ RE W ⟨5, b, n, t, ka, kl, kc, la, ll, lc, ks⟩ ⟨5, b', n', t', ka', kl', kc', la', ll, lc', ks'⟩ wx)
          case atStart => exact ⟨0, rfl, by rw [eqI_zero], rfl, Nat.zero_le _, by rw [eqI_zero]; decide, HM1.out⟩
          case round =>
            obtain ⟨i, rfl, rfl, rfl, hi, hnz, hM⟩ := hrel
            have HM := Lib.hid hM
            clear hM x0 x1 x2 x3 x4 x5
            obtain ⟨x0, x1, x2, x3, x4, x5⟩ := HM.out.six.cells
            obtain ⟨y0, y1, y2, y3, y4, y5⟩ := HM.out.six2.cells
            simp only [Nat.zero_add] at x0 x1 x2 x3 x4 x5 y0 y1 y2 y3 y4 y5
            by_cases hlt : i < ll
            · obtain ⟨p, cp, bb, oo, hp, ha, hcs, hgp⟩ := HG.out.vals.get (i := i) (by rw [← HL.out]; exact hlt)
              obtain ⟨q, dq, bb', oo', hq, ha', hcs', hgq⟩ := HG'.out.vals.get (i := i) (by rw [← HL'.out]; exact hlt)
              simp only at ha ha'
              subst ha; subst ha'
              have hcw := Nd.Cells.keep (Cellsy.of_below HM.out.bl) (World.block_lt_of_cell? W ⟨bb, _, none⟩ hcs.1) hcs
              have hcw' := Nd.Cells.keep (Cellsy.of_below HM.out.bl) (World.block_lt_of_cell? W ⟨bb', _, none⟩ hcs'.1) hcs'
              have hC : ∀ w', Below W.heap.size W w' → Calls Tryd.prog 50 #[p.val, q.val] w' fun e w'' => e = .returned (.int .i64 (eqV p cp q dq)) ∧ Below w'.heap.size w' w'' := fun w' hb' =>
                (HI.out.mem _ (List.mem_of_getElem? hp)) q dq n₀ w' (hgp.below hn hb') (hgq.below hn hb') (mayA_sub HM_.out (List.mem_of_getElem? hp)) (mayA_sub HM_'.out (List.mem_of_getElem? hq)) (Nat.le_trans hn hb'.size)
              have hbx := ballocR wr (.cells #[.int .i64 p.k, .bool p.b, .int .i64 p.n, .string p.t, .slice p.ka p.kl p.kc, .slice p.la p.ll p.lc] 30)
              have hmx := HM.out.next hbx
              have hsx := (Six.new wr p 30).cells
              have hcq := Nd.Cells.keep (Cellsy.of_below hbx) (World.block_lt_of_cell? wr ⟨bb', _, none⟩ hcw'.1) hcw'
              have hsucc := eqI_succ hp hq
              have hno := eqF_no hp hq
              simp only at hsucc hno
              have hin := eqV_in p cp q dq
              generalize eqV p cp q dq = E at *
              have HP := Lib.hid hp; have HQ := Lib.hid hq; have HC := Lib.hid hC; have HI1 := Lib.hid hnz; have HMX := Lib.hid hmx; have HSX := Lib.hid hsx; have HSU := Lib.hid hsucc; have HNF := Lib.hid hno; have HCQ := Lib.hid hcq; have HIN := Lib.hid hin
              clear hp hq hC hgp hgq hnz hmx hsx hsucc hno hbx hcs hcs' hcw' hcq hin
              obtain ⟨pk, pb, pn, pt, pka, pkl, pkc, pla, pll, plc, pks⟩ := p
              obtain ⟨qk, qb, qn, qt, qka, qkl, qkc, qla, qll, qlc, qks⟩ := q
              obtain ⟨c0, c1, c2, c3, c4, c5⟩ := hcw
              simp only at c0 c1 c2 c3 c4 c5
              simp only [Nd.val] at HC
              go_wp2_with fail
              have hS : RE W ⟨5, b, n, t, ka, kl, kc, some ⟨bb, oo, none⟩, ll, lc, ks⟩ ⟨5, b', n', t', ka', kl', kc', some ⟨bb', oo', none⟩, ll, lc', ks'⟩ (wr.alloc (.cells #[.int .i64 pk, .bool pb, .int .i64 pn, .string pt, .slice pka pkl pkc, .slice pla pll plc] 30)).drew ∧ (wr.alloc (.cells #[.int .i64 pk, .bool pb, .int .i64 pn, .string pt, .slice pka pkl pkc, .slice pla pll plc] 30)).drew.cell? ⟨wr.heap.size, 0, none⟩ = some (.int .i64 pk) ∧ (wr.alloc (.cells #[.int .i64 pk, .bool pb, .int .i64 pn, .string pt, .slice pka pkl pkc, .slice pla pll plc] 30)).drew.cell? ⟨wr.heap.size, 1, none⟩ = some (.bool pb) ∧ (wr.alloc (.cells #[.int .i64 pk, .bool pb, .int .i64 pn, .string pt, .slice pka pkl pkc, .slice pla pll plc] 30)).drew.cell? ⟨wr.heap.size, 2, none⟩ = some (.int .i64 pn) ∧ (wr.alloc (.cells #[.int .i64 pk, .bool pb, .int .i64 pn, .string pt, .slice pka pkl pkc, .slice pla pll plc] 30)).drew.cell? ⟨wr.heap.size, 3, none⟩ = some (.string pt) ∧ (wr.alloc (.cells #[.int .i64 pk, .bool pb, .int .i64 pn, .string pt, .slice pka pkl pkc, .slice pla pll plc] 30)).drew.cell? ⟨wr.heap.size, 4, none⟩ = some (.slice pka pkl pkc) ∧ (wr.alloc (.cells #[.int .i64 pk, .bool pb, .int .i64 pn, .string pt, .slice pka pkl pkc, .slice pla pll plc] 30)).drew.cell? ⟨wr.heap.size, 5, none⟩ = some (.slice pla pll plc) ∧ (wr.alloc (.cells #[.int .i64 pk, .bool pb, .int .i64 pn, .string pt, .slice pka pkl pkc, .slice pla pll plc] 30)).drew.cell? ⟨bb', oo' + i * 6, none⟩ = some (.int .i64 qk) ∧ (wr.alloc (.cells #[.int .i64 pk, .bool pb, .int .i64 pn, .string pt, .slice pka pkl pkc, .slice pla pll plc] 30)).drew.cell? ⟨bb', oo' + i * 6 + 1, none⟩ = some (.bool qb) ∧ (wr.alloc (.cells #[.int .i64 pk, .bool pb, .int .i64 pn, .string pt, .slice pka pkl pkc, .slice pla pll plc] 30)).drew.cell? ⟨bb', oo' + i * 6 + 2, none⟩ = some (.int .i64 qn) ∧ (wr.alloc (.cells #[.int .i64 pk, .bool pb, .int .i64 pn, .string pt, .slice pka pkl pkc, .slice pla pll plc] 30)).drew.cell? ⟨bb', oo' + i * 6 + 3, none⟩ = some (.string qt) ∧ (wr.alloc (.cells #[.int .i64 pk, .bool pb, .int .i64 pn, .string pt, .slice pka pkl pkc, .slice pla pll plc] 30)).drew.cell? ⟨bb', oo' + i * 6 + 4, none⟩ = some (.slice qka qkl qkc) ∧ (wr.alloc (.cells #[.int .i64 pk, .bool pb, .int .i64 pn, .string pt, .slice pka pkl pkc, .slice pla pll plc] 30)).drew.cell? ⟨bb', oo' + i * 6 + 5, none⟩ = some (.slice qla qll qlc) ∧ (wr.alloc (.cells #[.int .i64 pk, .bool pb, .int .i64 pn, .string pt, .slice pka pkl pkc, .slice pla pll plc] 30)).drew.cell? ⟨W.heap.size + 1, 5, none⟩ = some (.slice (some ⟨bb', oo', none⟩) ll lc') := by
                obtain ⟨a0, a1, a2, a3, a4, a5⟩ := HSX.out
                obtain ⟨d0, d1, d2, d3, d4, d5⟩ := HCQ.out
                have e5 := HMX.out.six2.cells.2.2.2.2.2
                simp only [Nat.zero_add] at a0 a1 a2 a3 a4 a5 e5
                exact ⟨HMX.out.drew 1, a0, a1, a2, a3, a4, a5, d0, d1, d2, d3, d4, d5, e5⟩
              generalize World.alloc _ _ = V at hS ⊢
              clear x0 x1 x2 x3 x4 x5 y0 y1 y2 y3 y4 y5 c0 c1 c2 c3 c4 c5 HSX HCQ HMX
              go_region_held3 (fun w' => RE W ⟨5, b, n, t, ka, kl, kc, some ⟨bb, oo, none⟩, ll, lc, ks⟩ ⟨5, b', n', t', ka', kl', kc', some ⟨bb', oo', none⟩, ll, lc', ks'⟩ w' ∧ w'.cell? ⟨wr.heap.size, 0, none⟩ = some (.int .i64 pk) ∧ w'.cell? ⟨wr.heap.size, 1, none⟩ = some (.bool pb) ∧ w'.cell? ⟨wr.heap.size, 2, none⟩ = some (.int .i64 pn) ∧ w'.cell? ⟨wr.heap.size, 3, none⟩ = some (.string pt) ∧ w'.cell? ⟨wr.heap.size, 4, none⟩ = some (.slice pka pkl pkc) ∧ w'.cell? ⟨wr.heap.size, 5, none⟩ = some (.slice pla pll plc) ∧ w'.cell? ⟨bb', oo' + i * 6, none⟩ = some (.int .i64 qk) ∧ w'.cell? ⟨bb', oo' + i * 6 + 1, none⟩ = some (.bool qb) ∧ w'.cell? ⟨bb', oo' + i * 6 + 2, none⟩ = some (.int .i64 qn) ∧ w'.cell? ⟨bb', oo' + i * 6 + 3, none⟩ = some (.string qt) ∧ w'.cell? ⟨bb', oo' + i * 6 + 4, none⟩ = some (.slice qka qkl qkc) ∧ w'.cell? ⟨bb', oo' + i * 6 + 5, none⟩ = some (.slice qla qll qlc) ∧ w'.cell? ⟨W.heap.size + 1, 5, none⟩ = some (.slice (some ⟨bb', oo', none⟩) ll lc'))
                (first | assumption | (exact keep13 (by assumption) (by assumption)))
                ((go_at_call 50; refine (HC.out _ (RE.bl (And.left (by assumption)))).mono ?_; rintro e w2 ⟨rfl, hb2⟩))
              rcases (show E = 0 ∨ E = 1 ∨ E = 2 by have := HIN.out; omega) with rfl | rfl | rfl
              · go_wp2
                go_ret
                exact ⟨ret1 (by rw [HALL.out (by trivial) HKS.out, HNF.out (by trivial)]), RE.bl (And.left (by assumption))⟩
              · have hz1 : min (eqI c d i) 1 = 1 := by have := HI1.out; have := eqI_in c d i; omega
                have HZ1 := Lib.hid hz1
                clear hz1
                go_wp2
                go_roundg (ll - (i + 1))
                case measure => omega
                case rel => exact ⟨i + 1, by go_num, by rw [HSU.out, HZ1.out], rfl, by omega, by rw [HSU.out, HZ1.out]; decide, And.left (by assumption)⟩
              · have hz1 : min (eqI c d i) 2 = eqI c d i := by have := eqI_in c d i; omega
                have HZ1 := Lib.hid hz1
                clear hz1
                go_wp2
                go_roundg (ll - (i + 1))
                case measure => omega
                case rel => exact ⟨i + 1, by go_num, by rw [HSU.out, HZ1.out], rfl, by omega, by rw [HSU.out, HZ1.out]; exact HI1.out, And.left (by assumption)⟩
            · have hin : i = ll := by omega
              subst hin
              go_wp2
              go_ret
              exact ⟨ret1 (by rw [HALL.out (by trivial) HKS.out, eqI_all HL.out.symm HL'.out.symm]), HM.out.bl⟩
        · rw [decide_eq_false hks] at HS
          go_enter Tryd.func50, Tryd.ntmps50
          go_wp2_with (go_at_call 65; refine (HS.out _ HR.out).mono ?_; rintro e w1 ⟨rfl, hM⟩; have HM1 := Lib.hid hM; obtain ⟨x0, x1, x2, x3, x4, x5⟩ := hM.six.cells; clear hM; simp only [Nat.zero_add] at x0 x1 x2 x3 x4 x5)
          go_ret
          exact ⟨ret1 (HNO.out (.inr hks)).symm, HM1.out.bl⟩
    · have e3 : ((ll : Int) != (ll' : Int)) = true := by simp; omega
      rcases h4 with rfl | rfl
      all_goals
        go_enter Tryd.func50, Tryd.ntmps50
        go_wp2_with fail
        go_ret
        exact ⟨ret1 (HNO.out (.inl hl)).symm, HR.out.bl⟩
theorem equal_any (x : Nd) (c : Fo) : EqWP x c := Nd.ind equal_step x c
end Go.Proofs.YtlokoepljmlcgaaDoor

