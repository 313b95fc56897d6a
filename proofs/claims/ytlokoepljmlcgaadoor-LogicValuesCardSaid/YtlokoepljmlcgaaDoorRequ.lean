/-
  THE WALK of the document's Equal.
-/
import Derived.Test.YtlokoepljmlcgaaDoorEqw
import Derived.Test.YtlokoepljmlcgaaDoorRcmp
import Derived.Deep.RegionHeld3
import Derived.Laws.Strings
namespace Go.Proofs.YtlokoepljmlcgaaDoor
set_option linter.unusedSimpArgs false
set_option linter.unusedVariables false
open Go.RowKit Go.Shelf

/-- What the document's Equal answers. -/
def EqRP (x : Nd) (c : Fo) : Prop := ∀ (y : Nd) (d : Fo) (n₀ : Nat) (W : World), Good n₀ W x c → Good n₀ W y d → n₀ ≤ W.heap.size →
  Calls Tryd.prog 27 #[x.val, y.val] W fun e w' => e = .returned (.int .i64 (eqV x c y d)) ∧ Below W.heap.size W w'

set_option maxRecDepth 100000 in
set_option maxHeartbeats 4000000 in
/-- But of two lists, or two maps. -/
theorem requal_flat (x y : Nd) (c d : Fo) (W : World) (ht : x.t.size ≤ 1099511627776) (ht' : y.t.size ≤ 1099511627776) (h : x.k = 0 ∨ y.k = 0 ∨ x.k ≠ y.k ∨ (x.k ≠ 4 ∧ x.k ≠ 5)) :
    Calls Tryd.prog 27 #[x.val, y.val] W fun e w' => e = .returned (.int .i64 (eqV x c y d)) ∧ Below W.heap.size W w' := by
  have HR := Lib.hid (RE.new W x y).bl
  have HSZ := Lib.hid (RE.new W x y).bl.size
  by_cases h0 : x.k = 0 ∨ y.k = 0
  · rw [eqV_null c d h0]
    clear ht ht'
    obtain ⟨k, b, n, t, ka, kl, kc, la, ll, lc, ks⟩ := x
    obtain ⟨k', b', n', t', ka', kl', kc', la', ll', lc', ks'⟩ := y
    simp only [Nd.val] at *
    by_cases hx : k = 0
    · subst hx
      go_enter Tryd.func27, Tryd.ntmps27
      go_wp2_with fail
      go_ret
      exact ⟨rfl, HR.out⟩
    · have e0 : (k == 0) = false := by simpa using hx
      obtain rfl := h0.resolve_left hx
      go_enter Tryd.func27, Tryd.ntmps27
      go_wp2_with fail
      go_ret
      exact ⟨rfl, HR.out⟩
  · have hx : x.k ≠ 0 := fun e => h0 (.inl e)
    have hy : y.k ≠ 0 := fun e => h0 (.inr e)
    by_cases hk : x.k = y.k
    · have h45 : x.k ≠ 4 ∧ x.k ≠ 5 := by omega
      rw [eqV_one c d hx hk.symm h45.1 h45.2]
      have HC : Hid (∀ w, Calls Tryd.prog 40 #[x.val, y.val] w fun e w' => e = .returned (.int .i64 (cmpV x y)) ∧ Below w.heap.size w w') := fun w =>
        rcompare_any x y w hk.symm h45.1 h45.2 ht ht'
      clear ht ht'
      generalize cmpV x y = C at *
      obtain ⟨k, b, n, t, ka, kl, kc, la, ll, lc, ks⟩ := x
      obtain ⟨k', b', n', t', ka', kl', kc', la', ll', lc', ks'⟩ := y
      simp only [Nd.val] at *
      subst hk
      have e0 : (k == 0) = false := by simpa using hx
      have e4 : (k != 4) = true := by simpa using h45.1
      have e5 : (k != 5) = true := by simpa using h45.2
      by_cases hz : C = 0
      · subst hz
        rw [show (if ((0 : Int) == 0) = true then (2 : Int) else 0) = 2 from rfl]
        go_enter Tryd.func27, Tryd.ntmps27
        go_wp2_with (first
          | (go_at_call 40; refine (HC.out _).mono ?_; rintro e w1 ⟨rfl, hb1⟩)
          | (go_at_call 39; refine (rtruth_any _ _).mono ?_; rintro e w2 ⟨rfl, rfl⟩))
        go_ret
        exact ⟨rfl, HR.out.trans (hb1.mono HSZ.out)⟩
      · have ez : (C == 0) = false := by simpa using hz
        rw [ez, show (if (false : Bool) = true then (2 : Int) else 0) = 0 from rfl]
        clear hz
        go_enter Tryd.func27, Tryd.ntmps27
        go_wp2_with (first
          | (go_at_call 40; refine (HC.out _).mono ?_; rintro e w1 ⟨rfl, hb1⟩)
          | (go_at_call 39; refine (rtruth_any _ _).mono ?_; rintro e w2 ⟨rfl, rfl⟩))
        go_ret
        exact ⟨rfl, HR.out.trans (hb1.mono HSZ.out)⟩
    · rw [eqV_kinds c d hx hy hk]
      clear ht ht'
      obtain ⟨k, b, n, t, ka, kl, kc, la, ll, lc, ks⟩ := x
      obtain ⟨k', b', n', t', ka', kl', kc', la', ll', lc', ks'⟩ := y
      simp only [Nd.val] at *
      have e0 : (k == 0) = false := by simpa using hx
      have e1 : (k' == 0) = false := by simpa using hy
      have e2 : (k != k') = true := by simpa using hk
      go_enter Tryd.func27, Tryd.ntmps27
      go_wp2_with fail
      go_ret
      exact ⟨rfl, HR.out⟩

theorem keep14 {W : World} {x y : Nd} {wx wy : World} {p0 p1 p2 p3 p4 p5 q0 q1 q2 q3 q4 q5 r r' : Addr} {v0 v1 v2 v3 v4 v5 u0 u1 u2 u3 u4 u5 s s' : Value}
    (h : RE W x y wx ∧ wx.cell? p0 = some v0 ∧ wx.cell? p1 = some v1 ∧ wx.cell? p2 = some v2 ∧ wx.cell? p3 = some v3 ∧ wx.cell? p4 = some v4 ∧ wx.cell? p5 = some v5 ∧ wx.cell? q0 = some u0 ∧ wx.cell? q1 = some u1 ∧ wx.cell? q2 = some u2 ∧ wx.cell? q3 = some u3 ∧ wx.cell? q4 = some u4 ∧ wx.cell? q5 = some u5 ∧ wx.cell? r = some s ∧ wx.cell? r' = some s') (hb : Below wx.heap.size wx wy) :
    RE W x y wy ∧ wy.cell? p0 = some v0 ∧ wy.cell? p1 = some v1 ∧ wy.cell? p2 = some v2 ∧ wy.cell? p3 = some v3 ∧ wy.cell? p4 = some v4 ∧ wy.cell? p5 = some v5 ∧ wy.cell? q0 = some u0 ∧ wy.cell? q1 = some u1 ∧ wy.cell? q2 = some u2 ∧ wy.cell? q3 = some u3 ∧ wy.cell? q4 = some u4 ∧ wy.cell? q5 = some u5 ∧ wy.cell? r = some s ∧ wy.cell? r' = some s' := by
  obtain ⟨hr, h0, h1, h2, h3, h4, h5, h6, h7, h8, h9, h10, h11, h12, h13⟩ := h
  exact ⟨hr.next hb, cell_below h0 hb, cell_below h1 hb, cell_below h2 hb, cell_below h3 hb, cell_below h4 hb, cell_below h5 hb, cell_below h6 hb, cell_below h7 hb, cell_below h8 hb, cell_below h9 hb, cell_below h10 hb, cell_below h11 hb, cell_below h12 hb, cell_below h13 hb⟩
theorem bytes_ne {a b : ByteArray} (h : ¬ a = b) : (!a.toList == b.toList) = true := by
  rw [ByteArray.toList_eq, ByteArray.toList_eq]
  have h1 : ¬ a.data = b.data := fun e => h (by
    obtain ⟨x⟩ := a
    obtain ⟨y⟩ := b
    simp only at e
    rw [e])
  simp [h1]
theorem text_le {n₀ : Nat} {W : World} {x : Nd} {c : Fo} (hg : Good n₀ W x c) : x.t.size ≤ 1099511627776 := by
  have h1 := (hg.sized.2 (1, x, c) (by simp [Nd.pre])).1
  simp only [bytesE] at h1; omega

set_option maxRecDepth 100000 in
set_option maxHeartbeats 8000000 in
theorem requal_step (x : Nd) (c : Fo) (ih : c.Each EqRP) : EqRP x c := by
  intro y d n₀ W hg hg' hn
  by_cases h : x.k = 0 ∨ y.k = 0 ∨ x.k ≠ y.k ∨ (x.k ≠ 4 ∧ x.k ≠ 5)
  · exact requal_flat x y c d W (text_le hg) (text_le hg') h
  · have hk : y.k = x.k := by omega
    have h4 : x.k = 4 ∨ x.k = 5 := by omega
    clear h
    have hll := hg.in_.1
    have hll' := hg'.in_.1
    have hlb : x.ll ≤ 1048576 := by rw [hll]; exact hg.vals.len
    have hlb' : y.ll ≤ 1048576 := by rw [hll']; exact hg'.vals.len
    have hkb : x.kl ≤ 1048576 := (hg.sized.2 (1, x, c) (by simp [Nd.pre])).2
    have hkb' : y.kl ≤ 1048576 := (hg'.sized.2 (1, y, d) (by simp [Nd.pre])).2
    have HKL := Lib.hid hg.keys.1
    have HKL' := Lib.hid hg'.keys.1
    have HR := Lib.hid (RE.new W x y)
    have HG := Lib.hid hg
    have HG' := Lib.hid hg'
    have HI := Lib.hid ih
    clear hg hg' ih
    have HL := Lib.hid hll
    have HL' := Lib.hid hll'
    clear hll hll'
    have HNO : Hid (x.ll ≠ y.ll ∨ x.ks ≠ y.ks → eqV x c y d = 0) := fun h => eqV_other c d hk h4 h
    have HALL : Hid (x.ll = y.ll → x.ks = y.ks → eqV x c y d = eqF c d) := fun h h' => eqV_all c d hk h4 h h'
    generalize eqV x c y d = ANS at *
    obtain ⟨k, b, n, t, ka, kl, kc, la, ll, lc, ks⟩ := x
    obtain ⟨k', b', n', t', ka', kl', kc', la', ll', lc', ks'⟩ := y
    simp only [Nd.val] at *
    subst hk
    by_cases hkk : kl = kl'
    · subst hkk
      by_cases hl : ll = ll'
      · subst hl
        rcases h4 with rfl | rfl
        · go_enter Tryd.func27, Tryd.ntmps27
          go_wp2_with fail
          go_loopg [5] kl (fun gk s0 wx => ∃ i : Nat, s0 = .int .i64 i ∧ gk = kl - i ∧ i ≤ kl ∧ RE W ⟨4, b, n, t, ka, kl, kc, la, ll, lc, ks⟩ ⟨4, b', n', t', ka', kl, kc', la', ll, lc', ks'⟩ wx ∧ ∀ j, j < i → ks[j]? = ks'[j]?)
          case atStart => exact ⟨0, rfl, rfl, Nat.zero_le _, HR.out, fun j h => absurd h (Nat.not_lt_zero j)⟩
          case round =>
            obtain ⟨i, rfl, rfl, hi, hM, hok⟩ := hrel
            have HO := Lib.hid hok
            have HM := Lib.hid hM
            clear hok hM
            obtain ⟨x0, x1, x2, x3, x4, x5⟩ := HM.out.six.cells
            obtain ⟨y0, y1, y2, y3, y4, y5⟩ := HM.out.six2.cells
            simp only [Nat.zero_add] at x0 x1 x2 x3 x4 x5 y0 y1 y2 y3 y4 y5
            by_cases hlt : i < kl
            · have hKE := HG.out.keys.keep (Cellsy.of_below (HM.out.bl.mono hn))
              have hKE' := HG'.out.keys.keep (Cellsy.of_below (HM.out.bl.mono hn))
              obtain ⟨s, hs⟩ : ∃ s, ks[i]? = some s := ⟨ks[i]'(by have := HKL.out; omega), List.getElem?_eq_getElem (by have := HKL.out; omega)⟩
              obtain ⟨s', hs'⟩ : ∃ s, ks'[i]? = some s := ⟨ks'[i]'(by have := HKL'.out; omega), List.getElem?_eq_getElem (by have := HKL'.out; omega)⟩
              obtain ⟨bb, oo, rfl, hb', hcs⟩ := hKE.2.resolve_left (by intro h; simp only at h; subst h; simp at hs)
              obtain ⟨bb', oo', rfl, hb'', hcs'⟩ := hKE'.2.resolve_left (by intro h; simp only at h; subst h; simp at hs')
              have hci := hcs i s hs
              have hci' := hcs' i s' hs'
              have HS := Lib.hid hs
              have HS' := Lib.hid hs'
              clear hs hs' hcs hcs' hKE hKE'
              by_cases hse : s = s'
              · subst hse
                go_wp2_with fail
                go_quiet (fail)
                go_wp2_with fail
                go_roundg (kl - (i + 1))
                case measure => omega
                case rel => exact ⟨i + 1, by go_num, rfl, by omega, HM.out.drew nq, fun j hj => by
                  rcases Nat.lt_or_ge j i with h | h
                  · exact HO.out j h
                  · obtain rfl : j = i := by omega
                    rw [HS.out, HS'.out]⟩
              · have e7 : (!s.toList == s'.toList) = true := bytes_ne hse
                go_wp2_with fail
                go_quiet (fail)
                go_wp2_with fail
                go_ret
                exact ⟨ret1 (HNO.out (.inr (by intro h; apply hse; have h1 := HS.out; have h2 := HS'.out; rw [h, h2] at h1; exact (Option.some.inj h1).symm))).symm, (HM.out.drew nq).bl⟩
            · have hik : i = kl := by omega
              subst hik
              have HKE : Hid (ks = ks') := by
                apply List.ext_getElem?
                intro j
                rcases Nat.lt_or_ge j i with h | h
                · exact HO.out j h
                · rw [List.getElem?_eq_none (by have := HKL.out; omega), List.getElem?_eq_none (by have := HKL'.out; omega)]
              clear HO
              go_wp2_with fail
              go_loopg [7, 6] ll (fun gk s0 s1 wx => ∃ m : Nat, s0 = .int .i64 m ∧ s1 = .bool (eqI c d m == 1) ∧ gk = ll - m ∧ m ≤ ll ∧ eqI c d m ≠ 0 ∧ RE W ⟨4, b, n, t, ka, i, kc, la, ll, lc, ks⟩ ⟨4, b', n', t', ka', i, kc', la', ll, lc', ks'⟩ wx)
              case atStart => exact ⟨0, rfl, by rw [eqI_zero]; rfl, rfl, Nat.zero_le _, by rw [eqI_zero]; decide, HM.out⟩
              case round =>
                obtain ⟨m, rfl, hs1, rfl, hm, hnz, hM⟩ := hrel
                clear x0 x1 x2 x3 x4 x5 y0 y1 y2 y3 y4 y5 HM
                have HM := Lib.hid hM
                clear hM
                obtain ⟨x0, x1, x2, x3, x4, x5⟩ := HM.out.six.cells
                obtain ⟨y0, y1, y2, y3, y4, y5⟩ := HM.out.six2.cells
                simp only [Nat.zero_add] at x0 x1 x2 x3 x4 x5 y0 y1 y2 y3 y4 y5
                by_cases hlm : m < ll
                · obtain ⟨p, cp, bb, oo, hp, ha, hcs, hgp⟩ := HG.out.vals.get (i := m) (by rw [← HL.out]; exact hlm)
                  obtain ⟨q, dq, bb', oo', hq, ha', hcs', hgq⟩ := HG'.out.vals.get (i := m) (by rw [← HL'.out]; exact hlm)
                  simp only at ha ha'
                  subst ha; subst ha'
                  have hcw := Nd.Cells.keep (Cellsy.of_below HM.out.bl) (World.block_lt_of_cell? W ⟨bb, _, none⟩ hcs.1) hcs
                  have hcw' := Nd.Cells.keep (Cellsy.of_below HM.out.bl) (World.block_lt_of_cell? W ⟨bb', _, none⟩ hcs'.1) hcs'
                  have hC : ∀ w', Below W.heap.size W w' → Calls Tryd.prog 27 #[p.val, q.val] w' fun e w'' => e = .returned (.int .i64 (eqV p cp q dq)) ∧ Below w'.heap.size w' w'' := fun w' hb' =>
                    (HI.out.mem _ (List.mem_of_getElem? hp)) q dq n₀ w' (hgp.below hn hb') (hgq.below hn hb') (Nat.le_trans hn hb'.size)
                  have hsucc := eqI_succ hp hq
                  have hno := eqF_no hp hq
                  simp only at hsucc hno
                  have hin := eqV_in p cp q dq
                  generalize eqV p cp q dq = E at *
                  have hS : RE W ⟨4, b, n, t, ka, i, kc, some ⟨bb, oo, none⟩, ll, lc, ks⟩ ⟨4, b', n', t', ka', i, kc', some ⟨bb', oo', none⟩, ll, lc', ks'⟩ wr.drew ∧ wr.drew.cell? ⟨bb, oo + m * 6, none⟩ = some (.int .i64 p.k) ∧ wr.drew.cell? ⟨bb, oo + m * 6 + 1, none⟩ = some (.bool p.b) ∧ wr.drew.cell? ⟨bb, oo + m * 6 + 2, none⟩ = some (.int .i64 p.n) ∧ wr.drew.cell? ⟨bb, oo + m * 6 + 3, none⟩ = some (.string p.t) ∧ wr.drew.cell? ⟨bb, oo + m * 6 + 4, none⟩ = some (.slice p.ka p.kl p.kc) ∧ wr.drew.cell? ⟨bb, oo + m * 6 + 5, none⟩ = some (.slice p.la p.ll p.lc) ∧ wr.drew.cell? ⟨bb', oo' + m * 6, none⟩ = some (.int .i64 q.k) ∧ wr.drew.cell? ⟨bb', oo' + m * 6 + 1, none⟩ = some (.bool q.b) ∧ wr.drew.cell? ⟨bb', oo' + m * 6 + 2, none⟩ = some (.int .i64 q.n) ∧ wr.drew.cell? ⟨bb', oo' + m * 6 + 3, none⟩ = some (.string q.t) ∧ wr.drew.cell? ⟨bb', oo' + m * 6 + 4, none⟩ = some (.slice q.ka q.kl q.kc) ∧ wr.drew.cell? ⟨bb', oo' + m * 6 + 5, none⟩ = some (.slice q.la q.ll q.lc) ∧ wr.drew.cell? ⟨W.heap.size, 5, none⟩ = some (.slice (some ⟨bb, oo, none⟩) ll lc) ∧ wr.drew.cell? ⟨W.heap.size + 1, 5, none⟩ = some (.slice (some ⟨bb', oo', none⟩) ll lc') := ⟨HM.out.drew 1, hcw.1, hcw.2.1, hcw.2.2.1, hcw.2.2.2.1, hcw.2.2.2.2.1, hcw.2.2.2.2.2, hcw'.1, hcw'.2.1, hcw'.2.2.1, hcw'.2.2.2.1, hcw'.2.2.2.2.1, hcw'.2.2.2.2.2, x5, y5⟩
                  have HC := Lib.hid hC; have HI1 := Lib.hid hnz; have HSU := Lib.hid hsucc; have HNF := Lib.hid hno; have HIN := Lib.hid hin; have HS1 := Lib.hid hs1; have HEI := Lib.hid (eqI_in c d m)
                  clear hp hq hC hgp hgq hnz hsucc hno hcs hcs' hcw hcw' hin
                  obtain ⟨pk, pb, pn, pt, pka, pkl, pkc, pla, pll, plc, pks⟩ := p
                  obtain ⟨qk, qb, qn, qt, qka, qkl, qkc, qla, qll, qlc, qks⟩ := q
                  simp only [Nd.val] at HC
                  simp only at hS
                  cases hq1 : (eqI c d m == 1)
                  all_goals
                    rw [hq1] at hs1
                    subst hs1
                    have HQ1 := Lib.hid hq1
                    clear hq1
                    go_wp2_with fail
                    clear x0 x1 x2 x3 x4 x5 y0 y1 y2 y3 y4 y5
                    go_region_held3 (fun w' => RE W ⟨4, b, n, t, ka, i, kc, some ⟨bb, oo, none⟩, ll, lc, ks⟩ ⟨4, b', n', t', ka', i, kc', some ⟨bb', oo', none⟩, ll, lc', ks'⟩ w' ∧ w'.cell? ⟨bb, oo + m * 6, none⟩ = some (.int .i64 pk) ∧ w'.cell? ⟨bb, oo + m * 6 + 1, none⟩ = some (.bool pb) ∧ w'.cell? ⟨bb, oo + m * 6 + 2, none⟩ = some (.int .i64 pn) ∧ w'.cell? ⟨bb, oo + m * 6 + 3, none⟩ = some (.string pt) ∧ w'.cell? ⟨bb, oo + m * 6 + 4, none⟩ = some (.slice pka pkl pkc) ∧ w'.cell? ⟨bb, oo + m * 6 + 5, none⟩ = some (.slice pla pll plc) ∧ w'.cell? ⟨bb', oo' + m * 6, none⟩ = some (.int .i64 qk) ∧ w'.cell? ⟨bb', oo' + m * 6 + 1, none⟩ = some (.bool qb) ∧ w'.cell? ⟨bb', oo' + m * 6 + 2, none⟩ = some (.int .i64 qn) ∧ w'.cell? ⟨bb', oo' + m * 6 + 3, none⟩ = some (.string qt) ∧ w'.cell? ⟨bb', oo' + m * 6 + 4, none⟩ = some (.slice qka qkl qkc) ∧ w'.cell? ⟨bb', oo' + m * 6 + 5, none⟩ = some (.slice qla qll qlc) ∧ w'.cell? ⟨W.heap.size, 5, none⟩ = some (.slice (some ⟨bb, oo, none⟩) ll lc) ∧ w'.cell? ⟨W.heap.size + 1, 5, none⟩ = some (.slice (some ⟨bb', oo', none⟩) ll lc'))
                      (first | assumption | (exact keep14 (by assumption) (by assumption)))
                      ((go_at_call 27; refine (HC.out _ (RE.bl (And.left (by assumption)))).mono ?_; rintro e w2 ⟨rfl, hb2⟩))
                    rcases (show E = 0 ∨ E = 1 ∨ E = 2 by have := HIN.out; omega) with rfl | rfl | rfl
                    · go_wp2
                      go_ret
                      exact ⟨ret1 (by rw [HALL.out (by trivial) HKE.out, HNF.out (by trivial)]), RE.bl (And.left (by assumption))⟩
                    · have hz1 : min (eqI c d m) 1 = 1 := by have := HI1.out; have := HEI.out; omega
                      have HZ1 := Lib.hid hz1
                      clear hz1
                      go_wp2
                      go_roundg (ll - (m + 1))
                      case measure => omega
                      case rel => exact ⟨m + 1, by go_num, by rw [HSU.out, HZ1.out]; rfl, rfl, by omega, by rw [HSU.out, HZ1.out]; decide, And.left (by assumption)⟩
                    · have hz1 : min (eqI c d m) 2 = eqI c d m := by have := HEI.out; omega
                      have HZ1 := Lib.hid hz1
                      clear hz1
                      go_wp2
                      go_roundg (ll - (m + 1))
                      case measure => omega
                      case rel => exact ⟨m + 1, by go_num, by rw [HSU.out, HZ1.out, HQ1.out], rfl, by omega, by rw [HSU.out, HZ1.out]; exact HI1.out, And.left (by assumption)⟩
                · have hml : m = ll := by omega
                  subst hml
                  have HEF : Hid (ANS = eqI c d m) := by
                    unfold Hid
                    rw [HALL.out (by trivial) HKE.out, eqI_all HL.out.symm HL'.out.symm]
                  have hei := eqI_in c d m
                  generalize eqI c d m = E at *
                  rcases (show E = 1 ∨ E = 2 by omega) with rfl | rfl
                  · have e1 := hs1; simp only [show ((1 : Int) == 1) = true from rfl, show ((2 : Int) == 1) = false from rfl] at e1; subst e1
                    go_wp2
                    go_ret
                    exact ⟨ret1 HEF.out.symm, HM.out.bl⟩
                  · have e1 := hs1; simp only [show ((1 : Int) == 1) = true from rfl, show ((2 : Int) == 1) = false from rfl] at e1; subst e1
                    go_wp2
                    go_ret
                    exact ⟨ret1 HEF.out.symm, HM.out.bl⟩
        · go_enter Tryd.func27, Tryd.ntmps27
          go_wp2_with fail
          go_loopg [5] kl (fun gk s0 wx => ∃ i : Nat, s0 = .int .i64 i ∧ gk = kl - i ∧ i ≤ kl ∧ RE W ⟨5, b, n, t, ka, kl, kc, la, ll, lc, ks⟩ ⟨5, b', n', t', ka', kl, kc', la', ll, lc', ks'⟩ wx ∧ ∀ j, j < i → ks[j]? = ks'[j]?)
          case atStart => exact ⟨0, rfl, rfl, Nat.zero_le _, HR.out, fun j h => absurd h (Nat.not_lt_zero j)⟩
          case round =>
            obtain ⟨i, rfl, rfl, hi, hM, hok⟩ := hrel
            have HO := Lib.hid hok
            have HM := Lib.hid hM
            clear hok hM
            obtain ⟨x0, x1, x2, x3, x4, x5⟩ := HM.out.six.cells
            obtain ⟨y0, y1, y2, y3, y4, y5⟩ := HM.out.six2.cells
            simp only [Nat.zero_add] at x0 x1 x2 x3 x4 x5 y0 y1 y2 y3 y4 y5
            by_cases hlt : i < kl
            · have hKE := HG.out.keys.keep (Cellsy.of_below (HM.out.bl.mono hn))
              have hKE' := HG'.out.keys.keep (Cellsy.of_below (HM.out.bl.mono hn))
              obtain ⟨s, hs⟩ : ∃ s, ks[i]? = some s := ⟨ks[i]'(by have := HKL.out; omega), List.getElem?_eq_getElem (by have := HKL.out; omega)⟩
              obtain ⟨s', hs'⟩ : ∃ s, ks'[i]? = some s := ⟨ks'[i]'(by have := HKL'.out; omega), List.getElem?_eq_getElem (by have := HKL'.out; omega)⟩
              obtain ⟨bb, oo, rfl, hb', hcs⟩ := hKE.2.resolve_left (by intro h; simp only at h; subst h; simp at hs)
              obtain ⟨bb', oo', rfl, hb'', hcs'⟩ := hKE'.2.resolve_left (by intro h; simp only at h; subst h; simp at hs')
              have hci := hcs i s hs
              have hci' := hcs' i s' hs'
              have HS := Lib.hid hs
              have HS' := Lib.hid hs'
              clear hs hs' hcs hcs' hKE hKE'
              by_cases hse : s = s'
              · subst hse
                go_wp2_with fail
                go_quiet (fail)
                go_wp2_with fail
                go_roundg (kl - (i + 1))
                case measure => omega
                case rel => exact ⟨i + 1, by go_num, rfl, by omega, HM.out.drew nq, fun j hj => by
                  rcases Nat.lt_or_ge j i with h | h
                  · exact HO.out j h
                  · obtain rfl : j = i := by omega
                    rw [HS.out, HS'.out]⟩
              · have e7 : (!s.toList == s'.toList) = true := bytes_ne hse
                go_wp2_with fail
                go_quiet (fail)
                go_wp2_with fail
                go_ret
                exact ⟨ret1 (HNO.out (.inr (by intro h; apply hse; have h1 := HS.out; have h2 := HS'.out; rw [h, h2] at h1; exact (Option.some.inj h1).symm))).symm, (HM.out.drew nq).bl⟩
            · have hik : i = kl := by omega
              subst hik
              have HKE : Hid (ks = ks') := by
                apply List.ext_getElem?
                intro j
                rcases Nat.lt_or_ge j i with h | h
                · exact HO.out j h
                · rw [List.getElem?_eq_none (by have := HKL.out; omega), List.getElem?_eq_none (by have := HKL'.out; omega)]
              clear HO
              go_wp2_with fail
              go_loopg [7, 6] ll (fun gk s0 s1 wx => ∃ m : Nat, s0 = .int .i64 m ∧ s1 = .bool (eqI c d m == 1) ∧ gk = ll - m ∧ m ≤ ll ∧ eqI c d m ≠ 0 ∧ RE W ⟨5, b, n, t, ka, i, kc, la, ll, lc, ks⟩ ⟨5, b', n', t', ka', i, kc', la', ll, lc', ks'⟩ wx)
              case atStart => exact ⟨0, rfl, by rw [eqI_zero]; rfl, rfl, Nat.zero_le _, by rw [eqI_zero]; decide, HM.out⟩
              case round =>
                obtain ⟨m, rfl, hs1, rfl, hm, hnz, hM⟩ := hrel
                clear x0 x1 x2 x3 x4 x5 y0 y1 y2 y3 y4 y5 HM
                have HM := Lib.hid hM
                clear hM
                obtain ⟨x0, x1, x2, x3, x4, x5⟩ := HM.out.six.cells
                obtain ⟨y0, y1, y2, y3, y4, y5⟩ := HM.out.six2.cells
                simp only [Nat.zero_add] at x0 x1 x2 x3 x4 x5 y0 y1 y2 y3 y4 y5
                by_cases hlm : m < ll
                · obtain ⟨p, cp, bb, oo, hp, ha, hcs, hgp⟩ := HG.out.vals.get (i := m) (by rw [← HL.out]; exact hlm)
                  obtain ⟨q, dq, bb', oo', hq, ha', hcs', hgq⟩ := HG'.out.vals.get (i := m) (by rw [← HL'.out]; exact hlm)
                  simp only at ha ha'
                  subst ha; subst ha'
                  have hcw := Nd.Cells.keep (Cellsy.of_below HM.out.bl) (World.block_lt_of_cell? W ⟨bb, _, none⟩ hcs.1) hcs
                  have hcw' := Nd.Cells.keep (Cellsy.of_below HM.out.bl) (World.block_lt_of_cell? W ⟨bb', _, none⟩ hcs'.1) hcs'
                  have hC : ∀ w', Below W.heap.size W w' → Calls Tryd.prog 27 #[p.val, q.val] w' fun e w'' => e = .returned (.int .i64 (eqV p cp q dq)) ∧ Below w'.heap.size w' w'' := fun w' hb' =>
                    (HI.out.mem _ (List.mem_of_getElem? hp)) q dq n₀ w' (hgp.below hn hb') (hgq.below hn hb') (Nat.le_trans hn hb'.size)
                  have hsucc := eqI_succ hp hq
                  have hno := eqF_no hp hq
                  simp only at hsucc hno
                  have hin := eqV_in p cp q dq
                  generalize eqV p cp q dq = E at *
                  have hS : RE W ⟨5, b, n, t, ka, i, kc, some ⟨bb, oo, none⟩, ll, lc, ks⟩ ⟨5, b', n', t', ka', i, kc', some ⟨bb', oo', none⟩, ll, lc', ks'⟩ wr.drew ∧ wr.drew.cell? ⟨bb, oo + m * 6, none⟩ = some (.int .i64 p.k) ∧ wr.drew.cell? ⟨bb, oo + m * 6 + 1, none⟩ = some (.bool p.b) ∧ wr.drew.cell? ⟨bb, oo + m * 6 + 2, none⟩ = some (.int .i64 p.n) ∧ wr.drew.cell? ⟨bb, oo + m * 6 + 3, none⟩ = some (.string p.t) ∧ wr.drew.cell? ⟨bb, oo + m * 6 + 4, none⟩ = some (.slice p.ka p.kl p.kc) ∧ wr.drew.cell? ⟨bb, oo + m * 6 + 5, none⟩ = some (.slice p.la p.ll p.lc) ∧ wr.drew.cell? ⟨bb', oo' + m * 6, none⟩ = some (.int .i64 q.k) ∧ wr.drew.cell? ⟨bb', oo' + m * 6 + 1, none⟩ = some (.bool q.b) ∧ wr.drew.cell? ⟨bb', oo' + m * 6 + 2, none⟩ = some (.int .i64 q.n) ∧ wr.drew.cell? ⟨bb', oo' + m * 6 + 3, none⟩ = some (.string q.t) ∧ wr.drew.cell? ⟨bb', oo' + m * 6 + 4, none⟩ = some (.slice q.ka q.kl q.kc) ∧ wr.drew.cell? ⟨bb', oo' + m * 6 + 5, none⟩ = some (.slice q.la q.ll q.lc) ∧ wr.drew.cell? ⟨W.heap.size, 5, none⟩ = some (.slice (some ⟨bb, oo, none⟩) ll lc) ∧ wr.drew.cell? ⟨W.heap.size + 1, 5, none⟩ = some (.slice (some ⟨bb', oo', none⟩) ll lc') := ⟨HM.out.drew 1, hcw.1, hcw.2.1, hcw.2.2.1, hcw.2.2.2.1, hcw.2.2.2.2.1, hcw.2.2.2.2.2, hcw'.1, hcw'.2.1, hcw'.2.2.1, hcw'.2.2.2.1, hcw'.2.2.2.2.1, hcw'.2.2.2.2.2, x5, y5⟩
                  have HC := Lib.hid hC; have HI1 := Lib.hid hnz; have HSU := Lib.hid hsucc; have HNF := Lib.hid hno; have HIN := Lib.hid hin; have HS1 := Lib.hid hs1; have HEI := Lib.hid (eqI_in c d m)
                  clear hp hq hC hgp hgq hnz hsucc hno hcs hcs' hcw hcw' hin
                  obtain ⟨pk, pb, pn, pt, pka, pkl, pkc, pla, pll, plc, pks⟩ := p
                  obtain ⟨qk, qb, qn, qt, qka, qkl, qkc, qla, qll, qlc, qks⟩ := q
                  simp only [Nd.val] at HC
                  simp only at hS
                  cases hq1 : (eqI c d m == 1)
                  all_goals
                    rw [hq1] at hs1
                    subst hs1
                    have HQ1 := Lib.hid hq1
                    clear hq1
                    go_wp2_with fail
                    clear x0 x1 x2 x3 x4 x5 y0 y1 y2 y3 y4 y5
                    go_region_held3 (fun w' => RE W ⟨5, b, n, t, ka, i, kc, some ⟨bb, oo, none⟩, ll, lc, ks⟩ ⟨5, b', n', t', ka', i, kc', some ⟨bb', oo', none⟩, ll, lc', ks'⟩ w' ∧ w'.cell? ⟨bb, oo + m * 6, none⟩ = some (.int .i64 pk) ∧ w'.cell? ⟨bb, oo + m * 6 + 1, none⟩ = some (.bool pb) ∧ w'.cell? ⟨bb, oo + m * 6 + 2, none⟩ = some (.int .i64 pn) ∧ w'.cell? ⟨bb, oo + m * 6 + 3, none⟩ = some (.string pt) ∧ w'.cell? ⟨bb, oo + m * 6 + 4, none⟩ = some (.slice pka pkl pkc) ∧ w'.cell? ⟨bb, oo + m * 6 + 5, none⟩ = some (.slice pla pll plc) ∧ w'.cell? ⟨bb', oo' + m * 6, none⟩ = some (.int .i64 qk) ∧ w'.cell? ⟨bb', oo' + m * 6 + 1, none⟩ = some (.bool qb) ∧ w'.cell? ⟨bb', oo' + m * 6 + 2, none⟩ = some (.int .i64 qn) ∧ w'.cell? ⟨bb', oo' + m * 6 + 3, none⟩ = some (.string qt) ∧ w'.cell? ⟨bb', oo' + m * 6 + 4, none⟩ = some (.slice qka qkl qkc) ∧ w'.cell? ⟨bb', oo' + m * 6 + 5, none⟩ = some (.slice qla qll qlc) ∧ w'.cell? ⟨W.heap.size, 5, none⟩ = some (.slice (some ⟨bb, oo, none⟩) ll lc) ∧ w'.cell? ⟨W.heap.size + 1, 5, none⟩ = some (.slice (some ⟨bb', oo', none⟩) ll lc'))
                      (first | assumption | (exact keep14 (by assumption) (by assumption)))
                      ((go_at_call 27; refine (HC.out _ (RE.bl (And.left (by assumption)))).mono ?_; rintro e w2 ⟨rfl, hb2⟩))
                    rcases (show E = 0 ∨ E = 1 ∨ E = 2 by have := HIN.out; omega) with rfl | rfl | rfl
                    · go_wp2
                      go_ret
                      exact ⟨ret1 (by rw [HALL.out (by trivial) HKE.out, HNF.out (by trivial)]), RE.bl (And.left (by assumption))⟩
                    · have hz1 : min (eqI c d m) 1 = 1 := by have := HI1.out; have := HEI.out; omega
                      have HZ1 := Lib.hid hz1
                      clear hz1
                      go_wp2
                      go_roundg (ll - (m + 1))
                      case measure => omega
                      case rel => exact ⟨m + 1, by go_num, by rw [HSU.out, HZ1.out]; rfl, rfl, by omega, by rw [HSU.out, HZ1.out]; decide, And.left (by assumption)⟩
                    · have hz1 : min (eqI c d m) 2 = eqI c d m := by have := HEI.out; omega
                      have HZ1 := Lib.hid hz1
                      clear hz1
                      go_wp2
                      go_roundg (ll - (m + 1))
                      case measure => omega
                      case rel => exact ⟨m + 1, by go_num, by rw [HSU.out, HZ1.out, HQ1.out], rfl, by omega, by rw [HSU.out, HZ1.out]; exact HI1.out, And.left (by assumption)⟩
                · have hml : m = ll := by omega
                  subst hml
                  have HEF : Hid (ANS = eqI c d m) := by
                    unfold Hid
                    rw [HALL.out (by trivial) HKE.out, eqI_all HL.out.symm HL'.out.symm]
                  have hei := eqI_in c d m
                  generalize eqI c d m = E at *
                  rcases (show E = 1 ∨ E = 2 by omega) with rfl | rfl
                  · have e1 := hs1; simp only [show ((1 : Int) == 1) = true from rfl, show ((2 : Int) == 1) = false from rfl] at e1; subst e1
                    go_wp2
                    go_ret
                    exact ⟨ret1 HEF.out.symm, HM.out.bl⟩
                  · have e1 := hs1; simp only [show ((1 : Int) == 1) = true from rfl, show ((2 : Int) == 1) = false from rfl] at e1; subst e1
                    go_wp2
                    go_ret
                    exact ⟨ret1 HEF.out.symm, HM.out.bl⟩
      · have e3 : ((ll : Int) != (ll' : Int)) = true := by simp; omega
        rcases h4 with rfl | rfl
        all_goals
          go_enter Tryd.func27, Tryd.ntmps27
          go_wp2_with fail
          go_ret
          exact ⟨ret1 (HNO.out (.inl hl)).symm, HR.out.bl⟩
    · have e3 : ((kl : Int) != (kl' : Int)) = true := by simp; omega
      rcases h4 with rfl | rfl
      all_goals
        go_enter Tryd.func27, Tryd.ntmps27
        go_wp2_with fail
        go_ret
        exact ⟨ret1 (HNO.out (.inr (by intro h; apply hkk; rw [HKL.out, HKL'.out, h]))).symm, HR.out.bl⟩
theorem requal_any (x : Nd) (c : Fo) : EqRP x c := Nd.ind requal_step x c
end Go.Proofs.YtlokoepljmlcgaaDoor
