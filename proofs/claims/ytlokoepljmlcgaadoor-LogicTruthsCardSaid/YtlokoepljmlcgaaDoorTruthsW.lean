/-
  THE LAW LogicTruths: the walk.
-/
import Derived.Test.YtlokoepljmlcgaaDoorTrv
import Derived.Test.YtlokoepljmlcgaaDoorCopied
import Derived.Laws.AppendOwnNone
import Derived.Deep.RegionHeld3
namespace Go.Proofs.YtlokoepljmlcgaaDoor
set_option linter.unusedSimpArgs false
set_option linter.unusedVariables false
open Go.RowKit Go.Shelf

theorem Tryd.info23 : (Tryd.prog.info? 23).map (fun i => (i.zero, i.size, i.bytes)) = some (some (.int .i64 0), 1, 8) := by kernel_rfl

theorem rowAt_drewN {w : World} {a : Option Addr} {k : IntKind} {zs : List Int} (h : RowAt w a k zs) (m : Nat) : RowAt (w.drewN m) a k zs := h
/-- What stays while the last statement goes. -/
structure TR (w : World) (a : Option Addr) (zs : List Int) (tb : Nat) (x y : Int) (wx : World) : Prop where
  rl : RowAt wx a .i64 zs
  rt : RowAt wx (some ⟨tb, 0, none⟩) .i64 [x, y]
  bel : Below w.heap.size w wx
theorem TR.next {w : World} {a : Option Addr} {zs : List Int} {tb : Nat} {x y : Int} {wx wy : World} (h : TR w a zs tb x y wx) (hb : Below wx.heap.size wx wy) : TR w a zs tb x y wy :=
  ⟨h.rl.below hb, h.rt.below hb, h.bel.trans (hb.mono h.bel.size)⟩
theorem keep8 {w : World} {a : Option Addr} {zs : List Int} {tb : Nat} {x y : Int} {wx wy : World} {p0 p1 p2 p3 p4 p5 p6 : Addr} {v0 v1 v2 v3 v4 v5 v6 : Value}
    (h : TR w a zs tb x y wx ∧ wx.cell? p0 = some v0 ∧ wx.cell? p1 = some v1 ∧ wx.cell? p2 = some v2 ∧ wx.cell? p3 = some v3 ∧ wx.cell? p4 = some v4 ∧ wx.cell? p5 = some v5 ∧ wx.cell? p6 = some v6) (hb : Below wx.heap.size wx wy) :
    TR w a zs tb x y wy ∧ wy.cell? p0 = some v0 ∧ wy.cell? p1 = some v1 ∧ wy.cell? p2 = some v2 ∧ wy.cell? p3 = some v3 ∧ wy.cell? p4 = some v4 ∧ wy.cell? p5 = some v5 ∧ wy.cell? p6 = some v6 :=
  ⟨h.1.next hb, cell_below h.2.1 hb, cell_below h.2.2.1 hb, cell_below h.2.2.2.1 hb, cell_below h.2.2.2.2.1 hb, cell_below h.2.2.2.2.2.1 hb, cell_below h.2.2.2.2.2.2.1 hb, cell_below h.2.2.2.2.2.2.2 hb⟩

theorem and2g (x y : Int) (b : Nat) (w : World) (h : RowAt w (some ⟨b, 0, none⟩) .i64 [x, y]) : Calls Tryd.prog 7 #[.slice (some ⟨b, 0, none⟩) 2 2] w fun e w' => e = .returned (.int .i64 (mn (mn 2 (pl x)) (pl y))) ∧ w = w' :=
  and_any _ 2 2 [x, y] w rfl h (by decide)
theorem or2g (x y : Int) (b : Nat) (w : World) (h : RowAt w (some ⟨b, 0, none⟩) .i64 [x, y]) : Calls Tryd.prog 8 #[.slice (some ⟨b, 0, none⟩) 2 2] w fun e w' => e = .returned (.int .i64 (mx (mx 0 (pl x)) (pl y))) ∧ w = w' :=
  or_any _ 2 2 [x, y] w rfl h (by decide)
theorem row2d (w : World) (a b : Int) (t : TypeId) : RowAt (w.alloc (.cells #[.int .i64 a, .int .i64 b] t)).drew (some ⟨w.heap.size, 0, none⟩) .i64 [a, b] := row2 w a b t
theorem row2e (w : World) (o : Obj) (a b : Int) (t : TypeId) : RowAt ((w.alloc o).alloc (.cells #[.int .i64 a, .int .i64 b] t)).drew (some ⟨w.heap.size + 1, 0, none⟩) .i64 [a, b] := by
  have h := row2 (w.alloc o) a b t
  rw [World.size_alloc] at h
  exact h
theorem rand2 (x y : Int) (tb : Nat) (w : World) (h : RowAt w (some ⟨tb, 0, none⟩) .i64 [x, y]) : Calls Tryd.prog 11 #[.slice (some ⟨tb, 0, none⟩) 2 2] w fun e w' => e = .returned (.int .i64 (mn (mn 2 (pl x)) (pl y))) ∧ w = w' :=
  rand_any _ 2 2 [x, y] w rfl h (by decide)
theorem ror2 (x y : Int) (tb : Nat) (w : World) (h : RowAt w (some ⟨tb, 0, none⟩) .i64 [x, y]) : Calls Tryd.prog 12 #[.slice (some ⟨tb, 0, none⟩) 2 2] w fun e w' => e = .returned (.int .i64 (mx (mx 0 (pl x)) (pl y))) ∧ w = w' :=
  ror_any _ 2 2 [x, y] w rfl h (by decide)
theorem rand1 (x : Int) (b : Nat) (w : World) (hb : b = w.heap.size) : Calls Tryd.prog 11 #[.slice (some ⟨b, 0, none⟩) 1 1] (w.alloc (.cells #[.int .i64 x] 23)) fun e w' => e = .returned (.int .i64 (pl x)) ∧ (w.alloc (.cells #[.int .i64 x] 23)) = w' := by
  subst hb
  have h : RowAt (w.alloc (.cells #[.int .i64 x] 23)) (some ⟨w.heap.size, 0, none⟩) .i64 [x] := .inr ⟨_, 0, rfl, fun i hi => by
    match i, hi with
    | 0, _ => simp⟩
  refine (rand_any _ 1 1 [x] _ rfl h (by decide)).mono fun e w' h' => ⟨h'.1.trans (ret1 ?_), h'.2⟩
  rcases pl_cases x with e | e | e <;> simp [andL, mn, e]

set_option maxRecDepth 100000 in
set_option maxHeartbeats 8000000 in
theorem truths_walk (a : Option Addr) (n cap : Nat) (zs : List Int) (x y : Int) (w : World) (hn : Hid (n = zs.length)) (hr : RowAt w a .i64 zs) (hm : n ≤ 1000) (hnil : Hid (a = none → n = 0 ∧ cap = 0)) (hT : Lib.Utf8Tabs 0 1 w) :
    Calls Tryd.prog 3 #[.slice a n cap, .int .i64 x, .int .i64 y] w fun e w' => e = .returned (.bool true) ∧ Below w.heap.size w w' := by
  obtain ⟨i0, hi, hz0, hz1, hz2⟩ := info_parts Tryd.info23
  have HR := Lib.hid hr; clear hr
  have HT := Lib.hid hT; clear hT
  have hOwn := Lib.hid (World.ownsRow_made (base := w.heap.size) (e := 23) (size := 1) w #[] 0 (Nat.le_refl _) (by decide) (by decide))
  go_enter Tryd.func3, Tryd.ntmps3
  go_upto_region 3 with (fail)
  go_cut [7] (fun v wx => Copied w wx n zs .i64 77 v)
  case first =>
    have c3 : n + 1 ≤ maxLen := by unfold maxLen; omega
    have c4 : (n + 1) * 8 ≤ 140737488355328 := by omega
    have c5 : 0 + n ≤ maxLen := by unfold maxLen; omega
    have c6 : (0 + n) * 8 ≤ 140737488355328 := by omega
    have C3 := Lib.hid c3; have C4 := Lib.hid c4; have C5 := Lib.hid c5; have C6 := Lib.hid c6; clear c3 c4 c5 c6
    cases a with
    | none =>
      obtain ⟨rfl, rfl⟩ := hnil.out rfl
      obtain rfl : zs = [] := List.eq_nil_of_length_eq_zero hn.out.symm
      have hnw := one_new (w.alloc (.cells #[] 23)) (.int .i64 77) 23
      rw [World.size_alloc] at hnw
      have HNW := Lib.hid hnw; clear hnw
      have HB := Lib.hid (ballocR w (.cells #[] 23))
      go_wp2_with (first
        | (at_builtin; refine wpList_append_own_none rfl (.tmp 19) (.tmp 20) 22 rfl w.heap.size 23 i0 1 Tryd.underlying22 hi _ _ _ rfl hOwn.out rfl ?_)
        | (at_builtin; refine wpList_append_own _ rfl (.tmp 21) (.tmp 22) 22 rfl w.heap.size 23 i0 (.int .i64 0) 1 8 Tryd.underlying22 hi hz0 hz1 hz2 rfl (by decide) _ _ _ rfl (hOwn.out.alloc _) ⟨w.heap.size + 1, 0, none⟩ 1 1 [.int .i64 77] rfl rfl HNW.out one_int C3.out C4.out (by simp; omega) ?_; intro v' w1 hown' hgrow _; obtain ⟨av', cv', rfl⟩ := owns_form hown'; have HC := Lib.hid (copied_of (w := w) (q := 77) (zs := []) (n := 0) hown' rfl (below_append HB.out HB.out.size hOwn.out hgrow)); obtain ⟨⟨g, rfl⟩, hle, _⟩ := HC.out))
      go_meet
      case rel => exact HC.out.2.2
    | some p =>
      have hrw := (HR.out.below (ballocR w (.cells #[] 23))).news
      have HRW := Lib.hid hrw; clear hrw
      have hl : (zs.map (Value.int .i64)).length = n * 1 := by simp [hn.out]
      have HL := Lib.hid hl; clear hl
      go_wp2_with (first
        | (at_builtin; refine wpList_append_own _ rfl (.tmp 19) (.tmp 20) 22 rfl w.heap.size 23 i0 (.int .i64 0) 1 8 Tryd.underlying22 hi hz0 hz1 hz2 rfl (by decide) _ _ _ rfl hOwn.out p n cap (zs.map (Value.int .i64)) rfl HL.out HRW.out ints_oneCell C5.out C6.out (by simp) ?_; intro v1 w1 hown1 hgrow1 _; simp only [Nat.zero_add, List.nil_append] at hown1; obtain ⟨av1, cv1, rfl⟩ := owns_form hown1; have HO1 := Lib.hid hown1; have hb1 : Below w.heap.size w w1 := (ballocR w _).grown hgrow1 (by simp) (fun k hk => (hOwn.out.lt k hk).1); clear hown1 hgrow1)
        | (at_builtin; refine wpList_append_own _ rfl (.tmp 21) (.tmp 22) 22 rfl w.heap.size 23 i0 (.int .i64 0) 1 8 Tryd.underlying22 hi hz0 hz1 hz2 rfl (by decide) _ _ _ rfl (HO1.out.alloc _) ⟨w1.heap.size, 0, none⟩ 1 1 [.int .i64 77] rfl rfl (one_new _ _ _) one_int C3.out C4.out (bsz hb1 _) ?_; intro v' w2 hown' hgrow _; obtain ⟨av', cv', rfl⟩ := owns_form hown'; have HC := Lib.hid (copied_of (w := w) (q := 77) (zs := zs) (n := n) (by simpa using hown') hn.out (below_append hb1 hb1.size HO1.out hgrow)); obtain ⟨⟨g, rfl⟩, hle, _⟩ := HC.out))
      go_meet
      case rel => exact HC.out.2.2
  case rest =>
    obtain ⟨g, cap2, rfl, hle, hcells, h77, hb⟩ := hcut
    have HRc := Lib.hid (HR.out.below hb)
    have HRm : Hid (RowAt wc (some ⟨g, 0, none⟩) .i64 zs) := .inr ⟨g, 0, rfl, fun i hi => hcells i (by have := hn.out; omega)⟩
    clear hcells
    go_wp2_with (first
      | (go_at_call 7; go_fit (and_any _ _ _ zs _ hn HRm.out (by omega)); rintro e w1 ⟨rfl, rfl⟩)
      | (go_at_call 8; go_fit (or_any _ _ _ zs _ hn HRm.out (by omega)); rintro e w1 ⟨rfl, rfl⟩))
    go_loopg [10] n (fun gk i wr => ∃ k : Nat, (RowAt wr (some ⟨g, 0, none⟩) .i64 zs ∧ RowAt wr a .i64 zs ∧ wr.cell? ⟨g, n, none⟩ = some (.int .i64 77) ∧ Below w.heap.size w wr) ∧ gk = n - k ∧ k ≤ n ∧ i = .int .i64 k)
    case atStart => exact ⟨0, ⟨HRm.out, HRc.out, h77, hb⟩, rfl, Nat.zero_le _, rfl⟩
    case round =>
      obtain ⟨k, ⟨hr1, hr2, h7, hbr⟩, hgk, hk, rfl⟩ := hrel
      have HQ1 := Lib.hid hr1; have HQ2 := Lib.hid hr2; have HK := Lib.hid hgk; clear hr1 hr2 hgk
      by_cases hlt : k < n
      · obtain ⟨b, o, ha, c2⟩ : ∃ b o, a = some ⟨b, o, none⟩ ∧ wr.cell? ⟨b, o + k, none⟩ = some (.int .i64 (zs.getD k 0)) := by
          rcases HQ2.out with h | ⟨b, o, ha, hc⟩
          · exfalso; have := hn.out; subst h; simp at this; omega
          · exact ⟨b, o, ha, hc k (by have := hn.out; omega)⟩
        subst ha
        have c1 : wr.cell? ⟨g, k, none⟩ = some (.int .i64 (zs.getD k 0)) := by
          rcases HQ1.out with h | ⟨b', o', ha', hc⟩
          · exfalso; have := hn.out; subst h; simp at this; omega
          · cases ha'; have := hc k (by have := hn.out; omega); simpa using this
        generalize zs.getD k 0 = x at *
        go_wp2_with fail
        go_quiet (fail)
        go_wp2
        go_roundg (n - (k + 1))
        case measure => have := HK.out; omega
        case rel => exact ⟨k + 1, ⟨rowAt_drewN HQ1.out nq, rowAt_drewN HQ2.out nq, by simpa using h7, bdrewN hbr nq⟩, rfl, by omega, by go_num⟩
      · clear HRm HRc h77 hb HR
        have hkn : k = n := by omega
        subst hkn
        have h2 := row2 wr x y 23
        have HS2 := Lib.hid h2
        obtain ⟨kk, bb, htv, hkb, hof⟩ : ∃ kk bb, tv x = sc kk bb 0 ∧ ((kk = 0 ∧ bb = false) ∨ kk = 1) ∧ ofT kk bb = pl x := by
          unfold tv
          by_cases h1 : pl x = 1
          · rw [if_pos h1]; exact ⟨0, false, rfl, .inl ⟨rfl, rfl⟩, by rw [h1]; rfl⟩
          · rw [if_neg h1]
            refine ⟨1, x == 2, rfl, .inr rfl, ?_⟩
            unfold pl at *
            unfold ofT
            simp only [if_true]
            split at h1
            · exact absurd rfl h1
            · by_cases hx : x = 2
              · subst hx; simp
              · have hx0 : x = 0 := by omega
                subst hx0; simp
        have HV : ∀ w', Calls Tryd.prog 9 #[.int .i64 x] w' fun e w'' => e = .returned (sc kk bb 0).val ∧ Below w'.heap.size w' w'' := fun w' => by rw [← htv]; exact value_any x w'
        have HRV : ∀ w', Calls Tryd.prog 18 #[.int .i64 x] w' fun e w'' => e = .returned (sc kk bb 0).val ∧ Below w'.heap.size w' w'' := fun w' => by rw [← htv]; exact rvalue_any x w'
        have HOF : ∀ w', Below w.heap.size w w' → Calls Tryd.prog 10 #[(sc kk bb 0).val] w' fun e w'' => e = .returned (.tuple #[.int .i64 (pl x), .bool true]) ∧ Below w'.heap.size w' w'' := fun w' hb => by
          rw [← hof]; exact of_sc kk bb 0 w' (Utf8Tabs_below HT.out hb) (by rcases hkb with ⟨rfl, rfl⟩ | rfl; exact .inl ⟨rfl, rfl, rfl⟩; exact .inr ⟨rfl, rfl⟩)
        have HV' := Lib.hid HV; have HRV' := Lib.hid HRV; have HOF' := Lib.hid HOF
        clear HV HRV HOF h2 htv hkb hof
        simp only [sc, Nd.val] at HV' HRV' HOF'
        go_upto_region 13 with (first
          | (go_at_call 9; go_fit (HV'.out _); rintro e w1 ⟨rfl, hbv⟩; have hbw := (hbr.trans ((ballocR wr _).mono hbr.size)).trans (hbv.mono (by simp; have := hbr.size; omega)); have hbw2 := hbw.trans ((ballocR w1 (.cells #[.int .i64 kk, .bool bb, .int .i64 0, .string ⟨#[]⟩, .slice none 0 0, .slice none 0 0] 30)).mono hbw.size))
          | (go_at_call 10; go_fit (HOF'.out _ hbw2); rintro e w2 ⟨rfl, hbo⟩))
        have T : TR w a zs wr.heap.size x y w2 := by
          have t0 : TR w a zs wr.heap.size x y (wr.alloc (.cells #[.int .i64 x, .int .i64 y] 23)) := ⟨HQ2.out.below (ballocR _ _), HS2.out, hbr.trans ((ballocR wr _).mono hbr.size)⟩
          exact ((t0.next hbv).next (ballocR w1 _)).next hbo
        have hvs := Six.next (Six.new w1 (sc kk bb 0) 30) hbo
        obtain ⟨q0, q1, q2, q3, q4, q5⟩ := hvs.cells
        simp only [sc, Nat.zero_add] at q0 q1 q2 q3 q4 q5
        have q77 := cell_below (cell_below (cell_below (cell_below h7 (ballocR wr (.cells #[.int .i64 x, .int .i64 y] 23))) hbv) (ballocR w1 (.cells #[.int .i64 kk, .bool bb, .int .i64 0, .string ⟨#[]⟩, .slice none 0 0, .slice none 0 0] 30))) hbo
        have hS : TR w a zs wr.heap.size x y w2.drew ∧ w2.drew.cell? ⟨g, k, none⟩ = some (.int .i64 77) ∧ w2.drew.cell? ⟨w1.heap.size, 0, none⟩ = some (.int .i64 kk) ∧ w2.drew.cell? ⟨w1.heap.size, 1, none⟩ = some (.bool bb) ∧ w2.drew.cell? ⟨w1.heap.size, 2, none⟩ = some (.int .i64 0) ∧ w2.drew.cell? ⟨w1.heap.size, 3, none⟩ = some (.string ⟨#[]⟩) ∧ w2.drew.cell? ⟨w1.heap.size, 4, none⟩ = some (.slice none 0 0) ∧ w2.drew.cell? ⟨w1.heap.size, 5, none⟩ = some (.slice none 0 0) := ⟨⟨T.rl, T.rt, ⟨T.bel.os, T.bel.tape, T.bel.output, T.bel.size, T.bel.block⟩⟩, q77, q0, q1, q2, q3, q4, q5⟩
        clear q0 q1 q2 q3 q4 q5 q77 T hvs HS2 HQ1 HQ2 HOF' HV' hbo hbw hbw2 hbv h7 hbr
        generalize w1.heap.size = vb at *
        generalize wr.heap.size = tb at *
        simp only [List.append_eq, List.cons_append, List.nil_append]
        have k1 : k ≤ 9223372036854775807 := by omega
        have k4 : ((k : Int) + 1).toNat = k + 1 := by omega
        have k5 : (k : Int) + 1 ≤ (cap2 : Int) := by omega
        have k6 : (0 : Int) ≤ (k : Int) := by omega
        have k3 : (0 : Int) ≤ (k : Int) + 1 := by omega
        have k7 : (k : Int) < (k : Int) + 1 := by omega
        have k2 : IntKind.i64.wrap ((k : Int) + 1) = (k : Int) + 1 := by rw [IntWalk.i64_left]; unfold wrap64; omega
        go_region_held3 (fun w' => TR w a zs tb x y w' ∧ w'.cell? ⟨g, k, none⟩ = some (.int .i64 77) ∧ w'.cell? ⟨vb, 0, none⟩ = some (.int .i64 kk) ∧ w'.cell? ⟨vb, 1, none⟩ = some (.bool bb) ∧ w'.cell? ⟨vb, 2, none⟩ = some (.int .i64 0) ∧ w'.cell? ⟨vb, 3, none⟩ = some (.string ⟨#[]⟩) ∧ w'.cell? ⟨vb, 4, none⟩ = some (.slice none 0 0) ∧ w'.cell? ⟨vb, 5, none⟩ = some (.slice none 0 0))
          (first | assumption | (exact keep8 (by assumption) (by assumption)) | (exact keep8 (by assumption) (ballocR _ _)))
          (first
          | (go_at_call_of 11 (Value.slice a k cap); refine (rand_any a k cap zs _ hn (TR.rl (And.left (by assumption))) (by omega)).mono ?_; rintro e w' ⟨rfl, rfl⟩)
          | (go_at_call_of 12 (Value.slice a k cap); refine (ror_any a k cap zs _ hn (TR.rl (And.left (by assumption))) (by omega)).mono ?_; rintro e w' ⟨rfl, rfl⟩)
          | (go_at_call_of 11 (Value.slice (some ⟨tb, 0, none⟩) 2 2); refine (rand2 x y tb _ (TR.rt (And.left (by assumption)))).mono ?_; rintro e w' ⟨rfl, rfl⟩)
          | (go_at_call_of 12 (Value.slice (some ⟨tb, 0, none⟩) 2 2); refine (ror2 x y tb _ (TR.rt (And.left (by assumption)))).mono ?_; rintro e w' ⟨rfl, rfl⟩)
          | (go_at_call 7; refine (and2g x y _ _ ?hrow).mono ?_; (case hrow => first | exact row2 _ _ _ _ | exact row2d _ _ _ _ | exact row2e _ _ _ _ _); rintro e w' ⟨rfl, rfl⟩)
          | (go_at_call 8; refine (or2g x y _ _ ?hrow).mono ?_; (case hrow => first | exact row2 _ _ _ _ | exact row2d _ _ _ _ | exact row2e _ _ _ _ _); rintro e w' ⟨rfl, rfl⟩)
          | (go_at_call 13; refine (xor_any x y _).mono ?_; rintro e w' ⟨rfl, hbx⟩)
          | (go_at_call 14; refine (rxor_any x y _).mono ?_; rintro e w' ⟨rfl, hby⟩)
          | (go_at_call 15; refine (not_any x _).mono ?_; rintro e w' ⟨rfl, rfl⟩)
          | (go_at_call 16; refine (rnot_any x _).mono ?_; rintro e w' ⟨rfl, rfl⟩)
          | (go_at_call 18; refine (HRV'.out _).mono ?_; rintro e w' ⟨rfl, hbz⟩)
          | (go_at_call 17; refine (alike_sc kk bb 0 _).mono ?_; rintro e w' ⟨rfl, hbl⟩)
          | (go_at_call 11; refine (rand1 x _ _ rfl).mono ?_; rintro e w' ⟨rfl, rfl⟩)
          | (go_at_call 19; refine (holds_any x _).mono ?_; rintro e w' ⟨rfl, rfl⟩)
          | (go_at_call 6; refine (works_any _).mono ?_; rintro e w' ⟨rfl, hbq⟩))
        go_wp2
        go_ret
        exact ⟨rfl, TR.bel (And.left (by assumption))⟩
end Go.Proofs.YtlokoepljmlcgaaDoor
