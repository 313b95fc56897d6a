/-
  THE WALK of may: may a word be?
  THE WALKS of Print's closure, of slices.IndexFunc and slices.ContainsFunc over it: may all words be?
  THE WALK of Print: words, told.
-/
import Derived.Test.YtimhhacfjgbomaaGreatDoorReads
import Derived.Test.YtimhhacfjgbomaaGreatDoorNames2
import Derived.Deep.LoopGhost
import Derived.Test.YtimhhacfjgbomaaGreatDoorTells
namespace Go.Proofs.YtimhhacfjgbomaaGreatDoor
set_option linter.unusedSimpArgs false
set_option linter.unusedVariables false
open Go.RowKit Go.Shelf

set_option maxHeartbeats 4000000 in
set_option maxRecDepth 100000 in
theorem may_any {n₀ : Nat} (g : Gw) (w : World) (ht : g.t.size ≤ 1048576) (hE : Env n₀ w) :
    Calls Tryz.prog 48 #[.agg #[.int .i64 g.k, .int .i64 g.p, .string g.t, .int .u64 g.n]] w fun e w' => e = .returned (.bool g.may) ∧ Below w.heap.size w w' := by
  obtain ⟨k, p, t, n⟩ := g
  simp only at ht ⊢
  obtain ⟨c0, c1, c2, c3⟩ := Box4.cells (k := k) (p := p) (t := t) (n := n) (new_at w (.cells #[.int .i64 k, .int .i64 p, .string t, .int .u64 n] 33))
  have hb0 := ballocR w (.cells #[.int .i64 k, .int .i64 p, .string t, .int .u64 n] 33)
  have hE0 := hE.below hb0
  have hbx : Box4 (w.alloc (.cells #[.int .i64 k, .int .i64 p, .string t, .int .u64 n] 33)) w.heap.size k p t n := new_at w _
  have hA : Gw.may ⟨k, p, t, n⟩ = mayB k t.data.toList n := rfl
  unfold mayB at hA
  generalize Gw.may ⟨k, p, t, n⟩ = ANS at *
  have hn : ((n : Int) == 0) = decide (n = 0) := by rw [Bool.eq_iff_iff]; simp
  by_cases h1 : k = 1
  · subst h1
    rw [if_pos rfl] at hA
    have H := Lib.hid (plain_any t _ ht hE0)
    clear hE hE0
    have HA := Lib.hid hA
    clear hA hbx
    by_cases h0 : n = 0
    · have hz : ((n : Int) == 0) = true := by rw [hn]; simp [h0]
      have HZ := Lib.hid h0
      clear hn h0
      go_enter Tryz.func48, Tryz.ntmps48
      go_wp2_with (go_at_call 38; refine H.out.mono ?_; rintro e w' ⟨rfl, hb⟩)
      go_ret
      exact ⟨retB (by have h0 := HZ.out; rw [HA.out]; simp [h0]), hb0.trans (hb.mono hb0.size)⟩
    · have hz : ((n : Int) == 0) = false := by rw [hn]; simp [h0]
      have HZ := Lib.hid h0
      clear hn h0
      go_enter Tryz.func48, Tryz.ntmps48
      go_wp2_with fail
      go_ret
      exact ⟨retB (by have h0 := HZ.out; rw [HA.out]; simp [h0]), hb0⟩
  · rw [if_neg h1] at hA
    have t1 : (k == 1) = false := by simpa using h1
    by_cases h2 : k = 2
    · subst h2
      rw [if_pos rfl] at hA
      have H := Lib.hid (name_any t _ (by omega) hE0)
      clear hE hE0
      have HA := Lib.hid hA
      clear hA hbx
      by_cases h0 : n = 0
      · have hz : ((n : Int) == 0) = true := by rw [hn]; simp [h0]
        have HZ := Lib.hid h0
        clear hn h0
        go_enter Tryz.func48, Tryz.ntmps48
        go_wp2_with (go_at_call 18; refine H.out.mono ?_; rintro e w' ⟨rfl, hb⟩)
        go_ret
        exact ⟨retB (by have h0 := HZ.out; rw [HA.out]; simp [h0]), hb0.trans (hb.mono hb0.size)⟩
      · have hz : ((n : Int) == 0) = false := by rw [hn]; simp [h0]
        have HZ := Lib.hid h0
        clear hn h0
        go_enter Tryz.func48, Tryz.ntmps48
        go_wp2_with fail
        go_ret
        exact ⟨retB (by have h0 := HZ.out; rw [HA.out]; simp [h0]), hb0⟩
    · rw [if_neg h2] at hA
      have t2 : (k == 2) = false := by simpa using h2
      by_cases h3 : k = 3
      · subst h3
        rw [if_pos rfl] at hA
        have H := Lib.hid (valid_any t _ (by omega) hE0)
        clear hE hE0
        have HA := Lib.hid hA
        clear hA hbx
        by_cases h0 : n = 0
        · have hz : ((n : Int) == 0) = true := by rw [hn]; simp [h0]
          have HZ := Lib.hid h0
          clear hn h0
          go_enter Tryz.func48, Tryz.ntmps48
          go_wp2_with (go_at_call 35; refine H.out.mono ?_; rintro e w' ⟨rfl, hb⟩)
          go_ret
          exact ⟨retB (by have h0 := HZ.out; rw [HA.out]; simp [h0]), hb0.trans (hb.mono hb0.size)⟩
        · have hz : ((n : Int) == 0) = false := by rw [hn]; simp [h0]
          have HZ := Lib.hid h0
          clear hn h0
          go_enter Tryz.func48, Tryz.ntmps48
          go_wp2_with fail
          go_ret
          exact ⟨retB (by have h0 := HZ.out; rw [HA.out]; simp [h0]), hb0⟩
      · rw [if_neg h3] at hA
        have t3 : (k == 3) = false := by simpa using h3
        by_cases h4 : k = 4
        · subst h4
          rw [if_pos rfl] at hA
          clear hE hE0 hbx hn
          have hmt := empty_tests t
          by_cases h0 : t.size = 0
          · obtain ⟨e1, e2⟩ := hmt.1 h0
            have HA : Hid (ANS = decide (n ≤ 9223372036854775808)) := Lib.hid (by
              have e : t.data.toList = [] := List.eq_nil_of_length_eq_zero (by rw [sz]; exact h0)
              rw [hA, e]; simp)
            clear hA hmt
            go_enter Tryz.func48, Tryz.ntmps48
            go_wp2_with fail
            go_ret
            exact ⟨retB (by rw [HA.out]; apply decide_eq_decide.2; omega), hb0⟩
          · obtain ⟨e1, e2⟩ := hmt.2 h0
            have HA : Hid (ANS = false) := Lib.hid (by
              rw [hA, decide_eq_false (p := t.data.toList = []) (fun e => h0 (by rw [← sz, e]; rfl))]; rfl)
            clear hA hmt
            go_enter Tryz.func48, Tryz.ntmps48
            go_wp2_with fail
            go_ret
            exact ⟨retB (by rw [HA.out]), hb0⟩
        · rw [if_neg h4] at hA
          have t4 : (k == 4) = false := by simpa using h4
          by_cases h5 : k = 5
          · subst h5
            rw [if_pos rfl] at hA
            have H := some_any t _ (by omega) hE0
            have hR : lexR t = match (scan t.data.toList 0).2 with | none => ((scan t.data.toList 0).1, 0, 0) | some n => ((scan t.data.toList 0).1, n, 130) := by unfold lexR; rw [if_neg (by omega)]; rfl
            have hS := sign_scan t.data.toList
            generalize scan t.data.toList 0 = SC at *
            obtain ⟨l, o⟩ := SC
            cases o with
            | some m =>
              simp only at hR
              rw [hR] at H
              have HH := Lib.hid H
              have HA : Hid (false = ANS) := Lib.hid (by rw [hA, hS]; rfl)
              have HB := Lib.hid hbx
              clear hA hS hR H hE hE0 hn hbx
              go_enter Tryz.func48, Tryz.ntmps48
              go_wp2_with (go_at_call 31; refine HH.out.mono ?_; rintro e w' ⟨v, rfl, ho, hb⟩; obtain ⟨av, cv, rfl⟩ := owns_form ho; obtain ⟨d0, d1, d2, d3⟩ := (HB.out.next hb).cells)
              go_quiet (fail)
              go_wp2_with fail
              go_ret
              exact ⟨retB HA.out, (hb0.trans (hb.mono hb0.size)).trans (bdrewN (Below.refl _ _) _)⟩
            | none =>
              simp only at hR
              rw [hR] at H
              simp only [decide_true, Bool.true_and] at hS
              have HH := Lib.hid H
              have HB := Lib.hid hbx
              by_cases hl1 : l.length = 1
              · obtain ⟨q, rfl⟩ := List.length_eq_one_iff.1 hl1
                have hte : (⟨q.1.t.toArray⟩ : ByteArray) = t ↔ q.1.t = t.data.toList := ⟨fun e => by rw [← e], fun e => ba_ext (by rw [← e])⟩
                have HA : Hid (ANS = (decide (q = (⟨5, t.data.toList, 0⟩, 0)) && decide (n = 0))) := Lib.hid (by rw [hA, hS]; simp)
                have HT := Lib.hid hte
                have HN := Lib.hid hn
                clear hA hS hR H hE hE0 hn hbx hl1 hte
                go_enter Tryz.func48, Tryz.ntmps48
                go_wp2_with (go_at_call 31; refine HH.out.mono ?_; rintro e w' ⟨v, rfl, ho, hb⟩; obtain ⟨av, cv, rfl, hG⟩ := gws_owns ho)
                obtain ⟨gg, bb, oo, hgg, rfl, hat⟩ := hG.get (i := 0) Nat.one_pos
                obtain rfl : gwOf q = gg := Option.some.inj hgg
                obtain ⟨d0, d1, d2, d3⟩ := (HB.out.next hb).cells
                obtain ⟨g0, g1, g2, g3⟩ := hat
                have HBB := Lib.hid hb
                clear hG ho hgg hb
                obtain ⟨⟨qk, qt, qn⟩, qp⟩ := q
                simp only [gwOf, Nat.zero_mul, Nat.add_zero] at g0 g1 g2 g3
                obtain ⟨X, hX⟩ : ∃ X : ByteArray, (⟨qt.toArray⟩ : ByteArray) = X := ⟨_, rfl⟩
                rw [hX] at g2
                have heq : ∀ w, (binOp .eql 33 (.agg #[.int .i64 qk, .int .i64 qp, .string X, .int .u64 qn]) (.agg #[.int .i64 5, .int .i64 0, .string t, .int .u64 0])).run Tryz.prog w = .ok (.bool (Gw.eqB ⟨qk, qp, X, qn⟩ ⟨5, 0, t, 0⟩)) w := word_eq qk qp X qn 5 0 t 0
                have HQ : Hid (Gw.eqB ⟨qk, qp, X, qn⟩ ⟨5, 0, t, 0⟩ = decide ((⟨⟨qk, qt, qn⟩, qp⟩ : Wd × Nat) = (⟨5, t.data.toList, 0⟩, 0))) := Lib.hid (by
                  have e := HT.out
                  simp only at e
                  rw [hX] at e
                  unfold Gw.eqB
                  simp only [Prod.mk.injEq, Wd.mk.injEq, ← e]
                  rw [Bool.eq_iff_iff]
                  simp only [Bool.and_eq_true, decide_eq_true_eq]
                  constructor
                  · rintro ⟨a, b, c, d⟩; exact ⟨⟨by omega, c, d⟩, by omega⟩
                  · rintro ⟨⟨a, c, d⟩, b⟩; exact ⟨by omega, by omega, c, d⟩)
                generalize Gw.eqB ⟨qk, qp, X, qn⟩ ⟨5, 0, t, 0⟩ = Q at *
                cases Q with
                | false =>
                  have HA2 : Hid (false = ANS) := Lib.hid (by rw [HA.out, ← HQ.out]; rfl)
                  go_quiet (fail)
                  go_wp2_with fail
                  go_ret
                  exact ⟨retB HA2.out, (hb0.trans (HBB.out.mono hb0.size)).trans (bdrewN (Below.refl _ _) _)⟩
                | true =>
                  have HA2 : Hid (((n : Int) == 0) = ANS) := Lib.hid (by rw [HA.out, ← HQ.out, HN.out]; rfl)
                  cases hz : ((n : Int) == 0) with
                  | false =>
                    rw [hz] at HA2
                    go_quiet (fail)
                    go_wp2_with fail
                    go_ret
                    exact ⟨retB HA2.out, (hb0.trans (HBB.out.mono hb0.size)).trans (bdrewN (Below.refl _ _) _)⟩
                  | true =>
                    rw [hz] at HA2
                    go_quiet (fail)
                    go_wp2_with fail
                    go_ret
                    exact ⟨retB HA2.out, (hb0.trans (HBB.out.mono hb0.size)).trans (bdrewN (Below.refl _ _) _)⟩
              · have HA : Hid (false = ANS) := Lib.hid (by
                  rw [hA, hS, decide_eq_false (fun e => hl1 (by rw [e]; rfl))]; rfl)
                have hlz : ((l.length : Int) == 1) = false := by simp; omega
                clear hA hS hR H hE hE0 hn hbx hl1
                go_enter Tryz.func48, Tryz.ntmps48
                go_wp2_with (go_at_call 31; refine HH.out.mono ?_; rintro e w' ⟨v, rfl, ho, hb⟩; obtain ⟨av, cv, rfl⟩ := owns_form ho; obtain ⟨d0, d1, d2, d3⟩ := (HB.out.next hb).cells)
                go_quiet (fail)
                go_wp2_with fail
                go_ret
                exact ⟨retB HA.out, (hb0.trans (hb.mono hb0.size)).trans (bdrewN (Below.refl _ _) _)⟩
          · rw [if_neg h5] at hA
            have t5 : (k == 5) = false := by simpa using h5
            have HA := Lib.hid hA
            clear hE hE0 hbx hn hA
            go_enter Tryz.func48, Tryz.ntmps48
            go_wp2_with fail
            go_ret
            exact ⟨retB (by rw [HA.out]), hb0⟩
end Go.Proofs.YtimhhacfjgbomaaGreatDoor
namespace Go.Proofs.YtimhhacfjgbomaaGreatDoor
set_option linter.unusedSimpArgs false
set_option linter.unusedVariables false
open Go.RowKit Go.Shelf

/-- No word's text is too long to be looked at. -/
def Short (l : List Gw) : Prop := ∀ g ∈ l, g.t.size ≤ 1048576
set_option maxHeartbeats 2000000 in
set_option maxRecDepth 100000 in
theorem printc_any {n₀ : Nat} (g : Gw) (w : World) (ht : g.t.size ≤ 1048576) (hE : Env n₀ w) :
    Calls Tryz.prog 47 #[.agg #[.int .i64 g.k, .int .i64 g.p, .string g.t, .int .u64 g.n]] w fun e w' => e = .returned (.bool (!g.may)) ∧ Below w.heap.size w w' := by
  have hb0 := ballocR w (.cells #[.int .i64 g.k, .int .i64 g.p, .string g.t, .int .u64 g.n] 33)
  have H := Lib.hid (may_any g _ ht (hE.below hb0))
  obtain ⟨c0, c1, c2, c3⟩ := Box4.cells (k := g.k) (p := g.p) (t := g.t) (n := g.n) (new_at w (.cells #[.int .i64 g.k, .int .i64 g.p, .string g.t, .int .u64 g.n] 33))
  clear hE
  generalize g.may = M at *
  go_enter Tryz.func47, Tryz.ntmps47
  go_wp2_with (go_at_call 48; refine H.out.mono ?_; rintro e w' ⟨rfl, hb⟩)
  go_ret
  exact ⟨rfl, hb0.trans (hb.mono hb0.size)⟩

set_option maxHeartbeats 4000000 in
set_option maxRecDepth 100000 in
theorem index_any {n₀ : Nat} {a : Option Addr} {l : List Gw} (n cap : Nat) (w : World) (h : Gws w a l) (hn : n = l.length) (hs : Short l) (hm : n ≤ 1099511627776) (hE : Env n₀ w) :
    Calls Tryz.prog 78 #[.slice a n cap, .func (.func 47) #[] #[]] w fun e w' => (∃ x : Int, e = .returned (.int .i64 x) ∧ decide (0 ≤ x) = l.any (fun g => !g.may)) ∧ Below w.heap.size w w' := by
  have HG := Lib.hid h
  have HL := Lib.hid hn
  have HS := Lib.hid hs
  have HE := Lib.hid hE
  clear h hn hs hE
  go_enter Tryz.func78, Tryz.ntmps78
  go_wp2_with fail
  go_loopg [8] n (fun gk v wr => ∃ j : Nat, gk = n - j ∧ v = .int .i64 j ∧ j ≤ n ∧ (l.take j).any (fun g => !g.may) = false ∧ Below w.heap.size w wr)
  case atStart => exact ⟨0, rfl, rfl, by omega, by simp, Below.refl _ _⟩
  case round =>
    obtain ⟨j, rfl, rfl, hj, hq, hb⟩ := hrel
    have HQ := Lib.hid hq
    clear hq
    rcases Nat.lt_or_ge j n with hlt | hge
    · obtain ⟨g, b, o, hg, rfl, hat⟩ := (HG.out.below hb).get (i := j) (by rw [← HL.out]; exact hlt)
      have hP := printc_any g wr (HS.out g (List.mem_of_getElem? hg)) (HE.out.below hb)
      have HT : Hid ((l.take (j + 1)).any (fun g => !g.may) = !g.may) := by
        unfold Hid
        rw [List.take_add_one, hg, List.any_append, HQ.out]
        simp
      obtain ⟨c0, c1, c2, c3⟩ := hat
      have HM : Hid (g ∈ l) := Lib.hid (List.mem_of_getElem? hg)
      have HP := Lib.hid hP
      clear hP hg
      cases hmay : g.may with
      | true =>
        rw [hmay] at HP HT
        clear hmay
        go_wp2_with (go_at_call 47; refine HP.out.mono ?_; rintro e w1 ⟨rfl, hb1⟩)
        go_roundg (n - (j + 1))
        case measure => omega
        case rel => exact ⟨j + 1, rfl, rfl, hlt, HT.out, hb.trans (hb1.mono hb.size)⟩
      | false =>
        rw [hmay] at HP HT
        have HA : Hid (l.any (fun g => !g.may) = true) := Lib.hid (List.any_eq_true.2 ⟨g, HM.out, by rw [hmay]; rfl⟩)
        clear hmay
        go_wp2_with (go_at_call 47; refine HP.out.mono ?_; rintro e w1 ⟨rfl, hb1⟩)
        go_ret
        exact ⟨⟨_, rfl, by rw [HA.out]; simp⟩, hb.trans (hb1.mono hb.size)⟩
    · have HA : Hid (l.any (fun g => !g.may) = false) := Lib.hid (by
        have := HQ.out
        rw [List.take_of_length_le (by rw [← HL.out]; exact hge)] at this
        exact this)
      clear HQ
      go_wp2_with fail
      go_ret
      exact ⟨⟨_, rfl, by rw [HA.out]; decide⟩, hb⟩
set_option maxHeartbeats 2000000 in
set_option maxRecDepth 100000 in
theorem some_not {n₀ : Nat} {a : Option Addr} {l : List Gw} (n cap : Nat) (w : World) (h : Gws w a l) (hn : n = l.length) (hs : Short l) (hm : n ≤ 1099511627776) (hE : Env n₀ w) :
    Calls Tryz.prog 46 #[.slice a n cap, .func (.func 47) #[] #[]] w fun e w' => e = .returned (.bool (l.any (fun g => !g.may))) ∧ Below w.heap.size w w' := by
  have H := Lib.hid (index_any n cap w h hn hs hm hE)
  clear h hn hs hE
  go_enter Tryz.func46, Tryz.ntmps46
  go_wp2_with (go_at_call 78; refine H.out.mono ?_; rintro e w' ⟨⟨x, rfl, hx⟩, hb⟩; have HX := Lib.hid hx; clear hx)
  go_ret
  exact ⟨retB (by rw [← HX.out]), hb⟩

end Go.Proofs.YtimhhacfjgbomaaGreatDoor
namespace Go.Proofs.YtimhhacfjgbomaaGreatDoor
set_option linter.unusedSimpArgs false
set_option linter.unusedVariables false
open Go.RowKit Go.Shelf

theorem take_sum : ∀ (l : List Nat) (j : Nat), (l.take j).sum ≤ l.sum
  | [], j => by simp
  | a :: l, 0 => by simp
  | a :: l, j + 1 => by
    have := take_sum l j
    simp only [List.take_succ_cons, List.sum_cons]; omega
theorem join_take (l : List Gw) (j : Nat) : (joinL ((l.take j).map Gw.tell)).length ≤ ((l.map Gw.tell).map fun x => x.length + 1).sum := by
  refine Nat.le_trans (join_len _) ?_
  rw [List.map_take, List.map_take]
  exact take_sum _ _
theorem join_next {l : List Gw} {j : Nat} {g : Gw} (h : l[j]? = some g) : joinL ((l.take (j + 1)).map Gw.tell) = joinL ((l.take j).map Gw.tell) ++ ((if j = 0 then [] else [32]) ++ g.tell) := by
  have hlt := (List.getElem?_eq_some_iff.1 h).1
  rw [List.take_add_one, h, List.map_append]
  simp only [Option.toList_some, List.map_cons, List.map_nil]
  rw [joinL_snoc]
  congr 2
  by_cases h0 : j = 0
  · subst h0; simp
  · rw [if_neg h0, if_neg]
    intro e
    have := congrArg List.length e
    rw [List.length_map, List.length_take, List.length_nil] at this
    omega
set_option maxHeartbeats 4000000 in
set_option maxRecDepth 100000 in
theorem print_any {n₀ : Nat} {a : Option Addr} {l : List Gw} (n cap : Nat) (w : World) (h : Gws w a l) (hn : n = l.length) (hs : Short l) (hN : ∀ g ∈ l, g.n < 18446744073709551616) (hlen : ((l.map Gw.tell).map fun x => x.length + 1).sum ≤ 549755813888) (hm : n ≤ 1099511627776) (hE : Env n₀ w) :
    Calls Tryz.prog 26 #[.slice a n cap] w fun e w' => e = .returned (.tuple #[.string ⟨(printL l).1.toArray⟩, .int .i64 (printL l).2]) ∧ Below w.heap.size w w' := by
  have H := some_not n cap w h hn hs hm hE
  have hA : printL l = if l.any (fun g => !g.may) then ([], 2) else if 1048576 < (joinL (l.map Gw.tell)).length then ([], 3) else (joinL (l.map Gw.tell), 0) := rfl
  have HG := Lib.hid h
  have HL := Lib.hid hn
  have HS := Lib.hid hs
  have HE := Lib.hid hE
  have HNN := Lib.hid hN
  have HLE := Lib.hid hlen
  clear h hn hs hE hN hlen
  generalize printL l = ANS at *
  cases hq : l.any (fun g => !g.may) with
  | true =>
    rw [hq] at H hA
    rw [if_pos rfl] at hA
    subst hA
    have HH := Lib.hid H
    clear H hq
    go_enter Tryz.func26, Tryz.ntmps26
    go_wp2_with (go_at_call 46; refine HH.out.mono ?_; rintro e w1 ⟨rfl, hb⟩)
    exact bodyPost_ret (v := .tuple #[.string ⟨#[]⟩, .int .i64 2]) (by simp [results, Tryz.results26, go_sem]) rfl ⟨rfl, hb⟩
  | false =>
    rw [hq] at H hA
    rw [if_neg (by decide)] at hA
    have HH := Lib.hid H
    have HA := Lib.hid hA
    clear H hq hA
    go_enter Tryz.func26, Tryz.ntmps26
    go_wp2_with (go_at_call 46; refine HH.out.mono ?_; rintro e w1 ⟨rfl, hb⟩)
    have hB := Bld.new w1
    have hb1 := hb.trans ((ballocR w1 (.cells #[.pointer none, .slice none 0 0] 66)).mono hb.size)
    have hwb : w.heap.size ≤ w1.heap.size := hb.size
    have HB := Lib.hid hB
    have HB1 := Lib.hid hb1
    clear hB hb1 hb HH
    generalize w1.alloc (.cells #[.pointer none, .slice none 0 0] 66) = V at *
    generalize w1.heap.size = b at *
    go_loopg [11] n (fun gk v wr => ∃ j : Nat, gk = n - j ∧ v = .int .i64 j ∧ j ≤ n ∧ Bld wr b (joinL ((l.take j).map Gw.tell)) ∧ Below w.heap.size w wr)
    case atStart => exact ⟨0, rfl, rfl, by omega, HB.out, HB1.out⟩
    case round =>
      obtain ⟨j, rfl, rfl, hj, hB, hb⟩ := hrel
      have HBB := Lib.hid hB
      clear hB HB HB1
      have hjl := join_take l j
      rcases Nat.lt_or_ge j n with hlt | hge
      · obtain ⟨g, p, o, hg, rfl, hat⟩ := (HG.out.below hb).get (i := j) (by rw [← HL.out]; exact hlt)
        have HJ := Lib.hid (join_next hg)
        have HGM : Hid (g ∈ l) := Lib.hid (List.mem_of_getElem? hg)
        have hjl2 := join_take l (j + 1)
        obtain ⟨c0, c1, c2, c3⟩ := hat
        have HLT : Hid ((joinL ((l.take j).map Gw.tell)).length ≤ 549755813888) := Lib.hid (Nat.le_trans hjl HLE.out)
        have HLT2 : Hid ((joinL ((l.take (j + 1)).map Gw.tell)).length ≤ 549755813888) := Lib.hid (Nat.le_trans hjl2 HLE.out)
        clear hg hjl hjl2
        go_upto_region 7 with (fail)
        have hBG := BldG.new HBB.out (ballocR wr (.cells #[.int .i64 g.k, .int .i64 g.p, .string g.t, .int .u64 g.n] 33)) (by simp)
        have hbx : Box4 (wr.alloc (.cells #[.int .i64 g.k, .int .i64 g.p, .string g.t, .int .u64 g.n] 33)) wr.heap.size g.k g.p g.t g.n := new_at wr _
        have hb2 := hb.trans ((ballocR wr (.cells #[.int .i64 g.k, .int .i64 g.p, .string g.t, .int .u64 g.n] 33)).mono hb.size)
        generalize wr.alloc (.cells #[.int .i64 g.k, .int .i64 g.p, .string g.t, .int .u64 g.n] 33) = V2 at *
        obtain ⟨G, hG⟩ : ∃ G, wr.heap.size = G := ⟨_, rfl⟩
        rw [hG] at hBG hbx ⊢
        clear hG c0 c1 c2 c3 HBB hb
        have hend : ∀ W, Bld W b (joinL ((l.take (j + 1)).map Gw.tell)) → Below w.heap.size w W → ∃ j' : Nat, n - (j + 1) = n - j' ∧ Value.int .i64 ((j : Int) + 1) = .int .i64 (j' : Int) ∧ j' ≤ n ∧ Bld W b (joinL ((l.take j').map Gw.tell)) ∧ Below w.heap.size w W :=
          fun W h1 h2 => ⟨j + 1, rfl, rfl, hlt, h1, h2⟩
        have HEND := Lib.hid hend
        have HX := Lib.hid hbx
        have HB2 := Lib.hid hb2
        have HGS : Hid (g.t.size ≤ 1048576 ∧ g.n < 18446744073709551616) := Lib.hid ⟨HS.out g HGM.out, HNN.out g HGM.out⟩
        have HBG := Lib.hid hBG
        clear hend hbx hb2 hBG
        have HW2 : Hid (∀ W acc, Bld W b acc → acc ++ g.tell = joinL ((l.take (j + 1)).map Gw.tell) → Below w.heap.size w W → Calls Tryz.prog 51 #[.agg #[.int .i64 g.k, .int .i64 g.p, .string g.t, .int .u64 g.n]] W fun e w' => e = .returned (.string ⟨g.tell.toArray⟩) ∧ Bld w' b acc ∧ Below w.heap.size w w') := Lib.hid fun W acc h1 h2 h3 =>
          (tell_any g W HGS.out.1 HGS.out.2 (HE.out.below h3)).mono fun e w' h => ⟨h.1, h1.next h.2, h3.trans (h.2.mono h3.size)⟩
        have HW3 : Hid (∀ W acc, Bld W b acc → acc ++ g.tell = joinL ((l.take (j + 1)).map Gw.tell) → Below w.heap.size w W → Calls Tryz.prog 50 #[.pointer (some ⟨b, 0, none⟩), .string ⟨g.tell.toArray⟩] W fun e w' => (∃ z : Int, e = .returned (.tuple #[.int .i64 z, .nilIface])) ∧ Bld w' b (joinL ((l.take (j + 1)).map Gw.tell)) ∧ Below w.heap.size w w') := Lib.hid fun W acc h1 h2 h3 => by
          have hl : acc.length + (⟨g.tell.toArray⟩ : ByteArray).size ≤ 1099511627776 := by
            have := congrArg List.length h2
            rw [List.length_append] at this
            have h4 := HLT2.out
            show acc.length + g.tell.length ≤ _
            omega
          exact (wstring_any b acc ⟨g.tell.toArray⟩ W h1 hl).mono fun e w' h => ⟨⟨_, h.1⟩, by
            have := h.2.1
            have e : (⟨g.tell.toArray⟩ : ByteArray).data.toList = g.tell := rfl
            rw [e, h2] at this
            exact this, h3.trans (h.2.2.mono hwb)⟩
        by_cases h0 : j = 0
        · have HJ0 : Hid (joinL ((l.take j).map Gw.tell) ++ g.tell = joinL ((l.take (j + 1)).map Gw.tell)) := Lib.hid (by rw [HJ.out, if_pos h0, List.nil_append])
          have hz : ¬ ((j : Int) > 0) := by omega
          clear h0
          obtain ⟨d0, d1, d2, d3⟩ := HX.out.cells
          go_wp2_with (first
            | (go_at_call 51; refine (HW2.out _ _ HBG.out.bld HJ0.out HB2.out).mono ?_; rintro e w3 ⟨rfl, h1, h2⟩)
            | (go_at_call 50; refine (HW3.out _ _ h1 HJ0.out h2).mono ?_; rintro e w4 ⟨⟨z, rfl⟩, h3, h4⟩))
          go_roundg (n - (j + 1))
          case measure => omega
          case rel => exact HEND.out _ h3 h4
        · have HJ0 : Hid ((joinL ((l.take j).map Gw.tell) ++ [32]) ++ g.tell = joinL ((l.take (j + 1)).map Gw.tell)) := Lib.hid (by rw [HJ.out, if_neg h0, List.append_assoc])
          have hz : (j : Int) > 0 := by omega
          clear h0
          go_wp2_with (first
            | (go_at_call 49; refine (wbyteG_any b G _ 32 V2 HBG.out (Nat.le_trans HLT.out (by decide))).mono ?_; rintro e w2 ⟨rfl, k1, k2, k3⟩; obtain ⟨d0, d1, d2, d3⟩ := Box4.cells (w := w2) (k3.trans HX.out); have K1 := Lib.hid k1.bld; have K2 := Lib.hid (HB2.out.trans (k2.mono hwb)); clear k1 k2 k3)
            | (go_at_call 51; refine (HW2.out _ _ K1.out HJ0.out K2.out).mono ?_; rintro e w3 ⟨rfl, h1, h2⟩)
            | (go_at_call 50; refine (HW3.out _ _ h1 HJ0.out h2).mono ?_; rintro e w4 ⟨⟨z, rfl⟩, h3, h4⟩))
          go_roundg (n - (j + 1))
          case measure => omega
          case rel => exact HEND.out _ h3 h4
      · obtain rfl : j = n := by omega
        have hB := HBB.out
        rw [List.take_of_length_le (by rw [← HL.out]; exact Nat.le_refl _)] at hB hjl
        have HB := Lib.hid hB
        clear hB HBB hjl
        generalize joinL (l.map Gw.tell) = T at *
        have HLen := Lib.hid (blen_any b T wr HB.out)
        have HStr := Lib.hid (bstring_any b T wr HB.out)
        by_cases hlong : 1048576 < T.length
        · have hA := HA.out
          rw [if_pos hlong] at hA
          have hz : (T.length : Int) > 1048576 := by omega
          subst hA
          clear hlong HA
          go_wp2_with (go_at_call 52; refine HLen.out.mono ?_; rintro e w2 ⟨rfl, rfl⟩)
          exact bodyPost_ret (v := .tuple #[.string ⟨#[]⟩, .int .i64 3]) (by simp [results, Tryz.results26, go_sem]) rfl ⟨rfl, hb⟩
        · have hA := HA.out
          rw [if_neg hlong] at hA
          have hz : ¬ (T.length : Int) > 1048576 := by omega
          subst hA
          clear hlong HA
          go_wp2_with (first
            | (go_at_call 52; refine HLen.out.mono ?_; rintro e w2 ⟨rfl, rfl⟩)
            | (go_at_call 53; refine HStr.out.mono ?_; rintro e w3 ⟨rfl, h3⟩))
          exact bodyPost_ret (v := .tuple #[.string ⟨T.toArray⟩, .int .i64 0]) (by simp [results, Tryz.results26, go_sem]) rfl ⟨rfl, hb.trans (h3.mono hwb)⟩
end Go.Proofs.YtimhhacfjgbomaaGreatDoor
