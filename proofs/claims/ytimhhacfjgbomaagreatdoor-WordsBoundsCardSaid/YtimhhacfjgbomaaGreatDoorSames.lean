/-
  THE WALKS of Same: words that are the same but for their places.
  THE WALKS of slices.EqualFunc over Same's closure, and of Same.
-/
import Derived.Test.YtimhhacfjgbomaaGreatDoorReads
import Derived.Deep.LoopGhost
namespace Go.Proofs.YtimhhacfjgbomaaGreatDoor
set_option linter.unusedSimpArgs false
set_option linter.unusedVariables false
open Go.RowKit Go.Shelf

set_option maxHeartbeats 4000000 in
set_option maxRecDepth 100000 in
theorem same1_any (a b : Gw) (w : World) :
    Calls Tryz.prog 56 #[a.val, b.val] w fun e w' => e = .returned (.bool (a.same b)) ∧ Below w.heap.size w w' := by
  obtain ⟨k, p, t, n⟩ := a
  obtain ⟨k', p', t', n'⟩ := b
  simp only [Gw.val]
  have hb0 := ballocR w (.cells #[.int .i64 k, .int .i64 p, .string t, .int .u64 n] 33)
  have hb1 := ballocR (w.alloc (.cells #[.int .i64 k, .int .i64 p, .string t, .int .u64 n] 33)) (.cells #[.int .i64 k', .int .i64 p', .string t', .int .u64 n'] 33)
  have hx := Box4.next (k := k) (p := p) (t := t) (n := n) (new_at w _) hb1
  have hy : Box4 _ _ k' p' t' n' := new_at (w.alloc (.cells #[.int .i64 k, .int .i64 p, .string t, .int .u64 n] 33)) (.cells #[.int .i64 k', .int .i64 p', .string t', .int .u64 n'] 33)
  rw [World.size_alloc] at hy
  have hbl := hb0.trans (hb1.mono hb0.size)
  clear hb0 hb1
  go_enter Tryz.func56, Tryz.ntmps56
  go_upto_region 1 with (fail)
  generalize (w.alloc (.cells #[.int .i64 k, .int .i64 p, .string t, .int .u64 n] 33)).alloc (.cells #[.int .i64 k', .int .i64 p', .string t', .int .u64 n'] 33) = V at *
  obtain ⟨b, hb⟩ : ∃ b, w.heap.size = b := ⟨_, rfl⟩
  rw [hb] at hx hy hbl ⊢
  have HBE := Lib.hid hb
  have hx1 := hx.set1 0
  have hy1 := hy.other (o := 1) (c := b) (by omega) (.int .i64 0)
  have hx2 := hx1.other (o := 1) (c := b + 1) (by omega) (.int .i64 0)
  have hy2 := hy1.set1 0
  have hbl2 := (hbl.setCell (p := ⟨b, 1, none⟩) (Nat.le_refl _) (.int .i64 0)).setCell (p := ⟨b + 1, 1, none⟩) (Nat.le_succ _) (.int .i64 0)
  obtain ⟨_, a1, _, _⟩ := hx.cells
  have af := hx.fr 1
  obtain ⟨_, b1, _, _⟩ := hy1.cells
  have bf := hy1.fr 1
  obtain ⟨d0, d1, d2, d3⟩ := hx2.cells
  obtain ⟨e0, e1, e2, e3⟩ := hy2.cells
  have HB := Lib.hid hbl2
  clear hx hy hx1 hy1 hx2 hy2 hbl hbl2 hb
  go_wp2_with fail
  all_goals
    go_ret
    refine ⟨retB ?_, by rw [HBE.out]; exact HB.out⟩
    have hte : decide (t = t') = decide (t.toList = t'.toList) := decide_eq_decide.2 ⟨fun e => by rw [e], fun e => by rw [ByteArray.toList_eq, ByteArray.toList_eq] at e; exact ba_ext e⟩
    have hne : decide (n = n') = decide ((n : Int) = n') := decide_eq_decide.2 (by omega)
    unfold Gw.same
    simp only
    rw [hte, hne]
    clear a1 af b1 bf d0 d1 d2 d3 e0 e1 e2 e3
    simp_all
end Go.Proofs.YtimhhacfjgbomaaGreatDoor
namespace Go.Proofs.YtimhhacfjgbomaaGreatDoor
set_option linter.unusedSimpArgs false
set_option linter.unusedVariables false
open Go.RowKit Go.Shelf

theorem sameL_take : ∀ (l k : List Gw) (j : Nat), sameL (l.take j) (k.take j) = true → ∀ a b, l[j]? = some a → k[j]? = some b → sameL (l.take (j + 1)) (k.take (j + 1)) = a.same b
  | [], _, j, _, a, b, ha, _ => by simp at ha
  | _ :: _, [], j, _, a, b, _, hb => by simp at hb
  | x :: l, y :: k, 0, _, a, b, ha, hb => by
    simp at ha hb; subst ha; subst hb; simp [sameL]
  | x :: l, y :: k, j + 1, h, a, b, ha, hb => by
    simp only [List.take_succ_cons, sameL, Bool.and_eq_true] at h
    have := sameL_take l k j h.2 a b (by simpa using ha) (by simpa using hb)
    rw [List.take_succ_cons, List.take_succ_cons]
    simp only [sameL]
    rw [this, h.1, Bool.true_and]
theorem sameL_break : ∀ (l k : List Gw) (j : Nat), l.length = k.length → ∀ a b, l[j]? = some a → k[j]? = some b → a.same b = false → sameL l k = false
  | [], _, j, _, a, b, ha, _, _ => by simp at ha
  | _ :: _, [], j, _, a, b, _, hb, _ => by simp at hb
  | x :: l, y :: k, 0, _, a, b, ha, hb, h => by
    simp at ha hb; subst ha; subst hb; simp [sameL, h]
  | x :: l, y :: k, j + 1, h0, a, b, ha, hb, h => by
    simp only [sameL]
    rw [sameL_break l k j (by simpa using h0) a b (by simpa using ha) (by simpa using hb) h, Bool.and_false]
theorem sameL_ne : ∀ {l k : List Gw}, l.length ≠ k.length → sameL l k = false := fun {l k} h => by
  cases hs : sameL l k with
  | false => rfl
  | true => exact absurd (sameL_len hs) h

set_option maxHeartbeats 4000000 in
set_option maxRecDepth 100000 in
theorem equal_any {a b : Option Addr} {l k : List Gw} (n cap n' cap' : Nat) (w : World) (h : Gws w a l) (h' : Gws w b k) (hn : n = l.length) (hn' : n' = k.length) (hm : n ≤ 1099511627776) :
    Calls Tryz.prog 55 #[.slice a n cap, .slice b n' cap', .func (.func 56) #[] #[]] w fun e w' => e = .returned (.bool (sameL l k)) ∧ Below w.heap.size w w' := by
  by_cases hne : n = n'
  · subst hne
    have HG := Lib.hid h
    have HK := Lib.hid h'
    have HL := Lib.hid hn
    have HL' := Lib.hid hn'
    clear h h' hn hn'
    go_enter Tryz.func55, Tryz.ntmps55
    go_wp2_with fail
    go_loopg [17] n (fun gk v wr => ∃ j : Nat, gk = n - j ∧ v = .int .i64 j ∧ j ≤ n ∧ sameL (l.take j) (k.take j) = true ∧ Below w.heap.size w wr)
    case atStart => exact ⟨0, rfl, rfl, by omega, by simp [sameL], Below.refl _ _⟩
    case round =>
      obtain ⟨j, rfl, rfl, hj, hq, hb⟩ := hrel
      have HQ := Lib.hid hq
      clear hq
      rcases Nat.lt_or_ge j n with hlt | hge
      · obtain ⟨x, p, o, hx, rfl, hat⟩ := (HG.out.below hb).get (i := j) (by rw [← HL.out]; exact hlt)
        obtain ⟨y, p', o', hy, rfl, hat'⟩ := (HK.out.below hb).get (i := j) (by rw [← HL'.out]; exact hlt)
        have HT := Lib.hid (sameL_take l k j HQ.out x y hx hy)
        have HBR := Lib.hid (sameL_break l k j (by rw [← HL.out, ← HL'.out]) x y hx hy)
        obtain ⟨c0, c1, c2, c3⟩ := hat
        have hb0 := ballocR wr (.cells #[.int .i64 x.k, .int .i64 x.p, .string x.t, .int .u64 x.n] 33)
        have hb1 := ballocR (wr.alloc (.cells #[.int .i64 x.k, .int .i64 x.p, .string x.t, .int .u64 x.n] 33)) (.cells #[.int .i64 y.k, .int .i64 y.p, .string y.t, .int .u64 y.n] 33)
        obtain ⟨e0, e1, e2, e3⟩ := hat'.below hb0
        have hbb := hb0.trans (hb1.mono hb0.size)
        have hxx : Box4 _ wr.heap.size x.k x.p x.t x.n := Box4.next (new_at wr _) hb1
        have hyy : Box4 _ (wr.alloc (.cells #[.int .i64 x.k, .int .i64 x.p, .string x.t, .int .u64 x.n] 33)).heap.size y.k y.p y.t y.n := new_at (wr.alloc (.cells #[.int .i64 x.k, .int .i64 x.p, .string x.t, .int .u64 x.n] 33)) (.cells #[.int .i64 y.k, .int .i64 y.p, .string y.t, .int .u64 y.n] 33)
        rw [World.size_alloc] at hyy
        obtain ⟨x0, x1, x2, x3⟩ := hxx.cells
        obtain ⟨y0, y1, y2, y3⟩ := hyy.cells
        have HS := Lib.hid (same1_any x y ((wr.alloc (.cells #[.int .i64 x.k, .int .i64 x.p, .string x.t, .int .u64 x.n] 33)).alloc (.cells #[.int .i64 y.k, .int .i64 y.p, .string y.t, .int .u64 y.n] 33)))
        have HBB := Lib.hid (hb.trans (hbb.mono hb.size))
        clear hx hy hxx hyy hb0 hb1 hbb hat'
        go_upto_region 7 with (fail)
        generalize (wr.alloc (.cells #[.int .i64 x.k, .int .i64 x.p, .string x.t, .int .u64 x.n] 33)).alloc (.cells #[.int .i64 y.k, .int .i64 y.p, .string y.t, .int .u64 y.n] 33) = V at *
        simp only [Gw.val] at HS
        cases hs : x.same y with
        | true =>
          rw [hs] at HS HT
          clear hs HBR
          go_wp2_with (go_at_call 56; refine HS.out.mono ?_; rintro e w1 ⟨rfl, hb1⟩)
          go_roundg (n - (j + 1))
          case measure => omega
          case rel => exact ⟨j + 1, rfl, rfl, hlt, HT.out, HBB.out.trans (hb1.mono HBB.out.size)⟩
        | false =>
          rw [hs] at HS
          have HA := Lib.hid (HBR.out hs)
          clear hs HBR
          go_wp2_with (go_at_call 56; refine HS.out.mono ?_; rintro e w1 ⟨rfl, hb1⟩)
          go_ret
          exact ⟨retB HA.out.symm, HBB.out.trans (hb1.mono HBB.out.size)⟩
      · have HA : Hid (sameL l k = true) := Lib.hid (by
          have := HQ.out
          rw [List.take_of_length_le (by rw [← HL.out]; exact hge), List.take_of_length_le (by rw [← HL'.out]; exact hge)] at this
          exact this)
        clear HQ
        go_wp2_with fail
        go_ret
        exact ⟨retB HA.out.symm, hb⟩
  · have HA : Hid (sameL l k = false) := Lib.hid (sameL_ne (by rw [← hn, ← hn']; exact hne))
    have hz : ((n : Int) != (n' : Int)) = true := by simp; omega
    clear h h' hn hn' hne
    go_enter Tryz.func55, Tryz.ntmps55
    go_wp2_with fail
    go_ret
    exact ⟨retB HA.out.symm, Below.refl _ _⟩
set_option maxHeartbeats 2000000 in
set_option maxRecDepth 100000 in
theorem same_any {a b : Option Addr} {l k : List Gw} (n cap n' cap' : Nat) (w : World) (h : Gws w a l) (h' : Gws w b k) (hn : n = l.length) (hn' : n' = k.length) (hm : n ≤ 1099511627776) :
    Calls Tryz.prog 29 #[.slice a n cap, .slice b n' cap'] w fun e w' => e = .returned (.bool (sameL l k)) ∧ Below w.heap.size w w' := by
  have H := Lib.hid (equal_any n cap n' cap' w h h' hn hn' hm)
  clear h h' hn hn'
  go_enter Tryz.func29, Tryz.ntmps29
  go_wp2_with (go_at_call 55; refine H.out.mono ?_; rintro e w' ⟨rfl, hb⟩)
  go_ret
  exact ⟨rfl, hb⟩
end Go.Proofs.YtimhhacfjgbomaaGreatDoor
