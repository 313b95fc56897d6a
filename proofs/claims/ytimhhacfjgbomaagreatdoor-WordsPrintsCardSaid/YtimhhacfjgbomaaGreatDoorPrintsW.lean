/-
  THE WALK of WordsPrints.
-/
import Derived.Test.YtimhhacfjgbomaaGreatDoorRprint
import Derived.Test.YtimhhacfjgbomaaGreatDoorPrints
import Derived.Test.YtimhhacfjgbomaaGreatDoorSames
import Derived.Test.YtimhhacfjgbomaaGreatDoorBackP
import Derived.Test.YtimhhacfjgbomaaGreatDoorLawC
import Derived.Test.YtimhhacfjgbomaaGreatDoorSmall
import Derived.Laws.AppendOwnNone
namespace Go.Proofs.YtimhhacfjgbomaaGreatDoor
set_option linter.unusedSimpArgs false
set_option linter.unusedVariables false
open Go.RowKit Go.Shelf

theorem same_symm (a b : Gw) : a.same b = b.same a := by
  simp only [Gw.same, eq_comm]
theorem sameL_symm : ∀ l k : List Gw, sameL l k = sameL k l
  | [], [] => rfl
  | [], _ :: _ => rfl
  | _ :: _, [] => rfl
  | a :: l, b :: k => by simp only [sameL, same_symm a b, sameL_symm l k]
/-- The cells of words. -/
def gwCells (l : List Gw) : List Value := l.flatMap Gw.one
theorem gwCells_len : ∀ l : List Gw, (gwCells l).length = l.length * 4
  | [] => rfl
  | g :: l => by
    have := gwCells_len l
    simp only [gwCells, List.flatMap_cons, List.length_append, List.length_cons] at this ⊢
    rw [this]; simp [Gw.one]; omega
theorem gwCells_at : ∀ (l : List Gw) (i : Nat) (p : Gw), l[i]? = some p → ∀ k, k < 4 → (gwCells l)[i * 4 + k]? = p.one[k]?
  | [], i, p, h, _, _ => by simp at h
  | q :: r, 0, p, h, k, hk => by
    simp at h; subst h
    simp only [gwCells, List.flatMap_cons, Nat.zero_mul, Nat.zero_add]
    rw [List.getElem?_append_left (by simp [Gw.one]; omega)]
  | q :: r, i + 1, p, h, k, hk => by
    have := gwCells_at r i p (by simpa using h) k hk
    simp only [gwCells, List.flatMap_cons] at this ⊢
    rw [List.getElem?_append_right (by simp [Gw.one]; omega), ← this]
    congr 1; simp [Gw.one]; omega
theorem gwCells_one {l : List Gw} : ∀ u ∈ gwCells l, u.oneCell' = true := by
  intro u hu
  simp only [gwCells, List.mem_flatMap] at hu
  obtain ⟨g, _, hg⟩ := hu
  simp only [Gw.one, List.mem_cons, List.not_mem_nil, or_false] at hg
  rcases hg with rfl | rfl | rfl | rfl <;> rfl
theorem Gw.At.cells {g : Gw} {w : World} {b o : Nat} (h : g.At w b o) : ∀ j u, g.one[j]? = some u → w.cell? ⟨b, o + j, none⟩ = some u := by
  intro j u hj
  match j, hj with
  | 0, hj => simp [Gw.one] at hj; subst hj; exact h.k
  | 1, hj => simp [Gw.one] at hj; subst hj; exact h.p
  | 2, hj => simp [Gw.one] at hj; subst hj; exact h.t
  | 3, hj => simp [Gw.one] at hj; subst hj; exact h.n
  | j + 4, hj => simp [Gw.one] at hj
theorem Gws.news {w : World} {x : Addr} {l : List Gw} (h : Gws w (some x) l) : ∀ j u, (gwCells l)[j]? = some u → w.cell? (x.add j) = some u := by
  intro j u hj
  have hlt : j < l.length * 4 := by
    rw [← gwCells_len]
    exact (List.getElem?_eq_some_iff.1 hj).1
  obtain ⟨g, b, o, hg, hx, hat⟩ := h.get (i := j / 4) (by omega)
  cases hx
  have e : j = j / 4 * 4 + j % 4 := by omega
  have hr := gwCells_at l (j / 4) g hg (j % 4) (by omega)
  rw [← e, hj] at hr
  have := hat.cells (j % 4) u hr.symm
  rw [Addr.add_lit, show o + j = o + j / 4 * 4 + j % 4 by omega]
  exact this
theorem gw4_new (w : World) (g : Gw) (t : TypeId) : ∀ j u, (gwCells [g])[j]? = some u → (w.alloc (.cells #[.int .i64 g.k, .int .i64 g.p, .string g.t, .int .u64 g.n] t)).cell? ((⟨w.heap.size, 0, none⟩ : Addr).add j) = some u :=
  Gws.news (gws_one (gw_new g t))
theorem gws_owned {w : World} {base : Nat} {e : TypeId} {v : Value} {l : List Gw} (h : w.ownsRow base e 4 v l.length (gwCells l)) (hl : l ≠ []) :
    ∃ g cap, v = .slice (some ⟨g, 0, none⟩) l.length cap ∧ l.length ≤ cap ∧ Gws w (some ⟨g, 0, none⟩) l := by
  have h2 := h
  rcases h.2 with ⟨rfl, h0⟩ | ⟨g, cap, cur, rfl, hb, hh, hnc, hcm, hcs, ht⟩
  · exact absurd (List.eq_nil_of_length_eq_zero h0) hl
  · refine ⟨g, cap, rfl, hnc, .inr ⟨g, 0, rfl, fun i x hx => ?_⟩⟩
    have hc : ∀ (j : Nat) (u : Value), j < 4 → x.one[j]? = some u → w.cell? ⟨g, 0 + i * 4 + j, none⟩ = some u := fun j u hj hu => by
      have := h2.cells (g := g) rfl (i * 4 + j) u (by rw [gwCells_at l i x hx j hj]; exact hu)
      rw [Addr.add_lit] at this
      rw [show 0 + i * 4 + j = 0 + (i * 4 + j) by omega]
      exact this
    exact ⟨hc 0 _ (by omega) rfl, hc 1 _ (by omega) rfl, hc 2 _ (by omega) rfl, hc 3 _ (by omega) rfl⟩
theorem Gws.left {w : World} {a : Option Addr} {l k : List Gw} (h : Gws w a (l ++ k)) : Gws w a l := by
  rcases h with h | ⟨b, o, rfl, h⟩
  · exact .inl (List.append_eq_nil_iff.1 h).1
  · exact .inr ⟨b, o, rfl, fun i g hg => h i g (by rw [List.getElem?_append_left (List.getElem?_eq_some_iff.1 hg).1]; exact hg)⟩
/-- A row of the call's own: the words that came in, and one more behind them. -/
def CopiedW (w wx : World) (l : List Gw) (q : Gw) (v : Value) : Prop :=
  ∃ g cap, v = .slice (some ⟨g, 0, none⟩) l.length cap ∧ l.length + 1 ≤ cap ∧ Gws wx (some ⟨g, 0, none⟩) (l ++ [q]) ∧ Below w.heap.size w wx
theorem copiedW_of {w w2 : World} {base : Nat} {e : TypeId} {a : Option Addr} {c : Nat} {l : List Gw} {q : Gw} (h : w2.ownsRow base e 4 (.slice a (l.length + 1) c) (l.length + 1) (gwCells l ++ gwCells [q])) (hb : Below w.heap.size w w2) :
    (∃ g, a = some ⟨g, 0, none⟩) ∧ l.length + 1 ≤ c ∧ CopiedW w w2 l q (.slice a l.length c) := by
  have e1 : gwCells l ++ gwCells [q] = gwCells (l ++ [q]) := by simp [gwCells]
  rw [e1] at h
  obtain ⟨g, cap, hv, hle, hc⟩ := gws_owned (l := l ++ [q]) (by simpa using h) (by simp)
  injection hv with h1 h2 h3
  subst h1; subst h3
  exact ⟨⟨g, rfl⟩, by simpa using hle, g, c, rfl, by simpa using hle, hc, hb⟩

set_option maxRecDepth 100000 in
set_option maxHeartbeats 8000000 in
theorem prints_walk {a b : Option Addr} {l k : List Gw} (n cap n' cap' : Nat) (W : World) (hl : Gws W a l) (hn : n = l.length) (hf : ∀ g ∈ l, g.n < 18446744073709551616) (hnil : a = none → n = 0 ∧ cap = 0) (hk : Gws W b k) (hn' : n' = k.length) (hL : Laid W) :
    Calls Tryz.prog 8 #[.slice a n cap, .slice b n' cap'] W fun e W' => e = .returned (.bool true) ∧ Below W.heap.size W W' := by
  obtain ⟨i0, hinf, hz0, hz1, hz2⟩ := info_parts (P := Tryz.prog) (e := 33) (z := .agg #[.int .i64 0, .int .i64 0, .string ⟨#[]⟩, .int .u64 0]) (size := 4) (bytes := 40) (by kernel_rfl)
  have HE := Lib.hid (Env.start hL)
  have HW : Hid (∀ V, Env W.heap.size V → Calls Tryz.prog 11 #[] V fun e w' => e = .returned (.bool true) ∧ Below V.heap.size V w') := Lib.hid fun V h => works_any V h
  have H0 := Lib.hid (small_any n cap W hl hn)
  have HG := Lib.hid hl
  have HN := Lib.hid hn
  have HF := Lib.hid hf
  have HK := Lib.hid hk
  have HN' := Lib.hid hn'
  have HNIL := Lib.hid hnil
  clear hL hl hn hf hk hn' hnil
  go_enter Tryz.func8, Tryz.ntmps8
  by_cases hk2 : 200 < n'
  · have hz : (n' : Int) > 200 := by omega
    clear hk2
    go_wp2_with (first
      | (go_at_call 27; refine H0.out.mono ?_; rintro e w1 ⟨⟨bb, rfl, hb⟩, rfl⟩; cases bb)
      | (go_at_call 11; refine (HW.out _ HE.out).mono ?_; rintro e w' ⟨rfl, hb9⟩))
    all_goals go_ret
    all_goals exact ⟨rfl, hb9⟩
  have hz : ¬ (n' : Int) > 200 := by omega
  go_upto_region 3 with (first
    | (go_at_call 27; refine H0.out.mono ?_; rintro e w1 ⟨⟨bb, rfl, hb⟩, rfl⟩; cases bb)
    | (go_at_call 11; refine (HW.out _ HE.out).mono ?_; rintro e w' ⟨rfl, hb9⟩))
  · go_ret
    exact ⟨rfl, hb9⟩
  · have hsm : SmallL l := hb (by trivial)
    have HSM := Lib.hid hsm
    have hn200 : n ≤ 200 := by have := HN.out; have := hsm.1; omega
    have HPN := Lib.hid (prn_small hsm.1 hsm.2 hsm.short HF.out)
    clear hb H0 hsm
    have hOwn := Lib.hid (World.ownsRow_made (base := W.heap.size) (e := 33) (size := 4) W #[] 0 (Nat.le_refl _) (by decide) (by decide))
    go_cut [5] (fun v wx => CopiedW W wx l ⟨0, 77, ⟨#[]⟩, 0⟩ v)
    case first =>
      have c3 : n + 1 ≤ maxLen := by unfold maxLen; omega
      have c4 : (n + 1) * 40 ≤ 140737488355328 := by omega
      have c5 : 0 + n ≤ maxLen := by unfold maxLen; omega
      have c6 : (0 + n) * 40 ≤ 140737488355328 := by omega
      have C3 := Lib.hid c3; have C4 := Lib.hid c4; have C5 := Lib.hid c5; have C6 := Lib.hid c6; clear c3 c4 c5 c6
      cases a with
      | none =>
        obtain ⟨rfl, rfl⟩ := HNIL.out rfl
        obtain rfl : l = [] := List.eq_nil_of_length_eq_zero HN.out.symm
        have hnw := gw4_new (W.alloc (.cells #[] 33)) ⟨0, 77, ⟨#[]⟩, 0⟩ 33
        rw [World.size_alloc] at hnw
        have HNW := Lib.hid hnw; clear hnw
        have HB := Lib.hid (ballocR W (.cells #[] 33))
        go_wp2_with (first
          | (at_builtin; refine wpList_append_own_none rfl (.tmp 20) (.tmp 21) 23 rfl W.heap.size 33 i0 4 Tryz.underlying23 hinf _ _ _ rfl hOwn.out rfl ?_)
          | (at_builtin; refine wpList_append_own _ rfl (.tmp 22) (.tmp 24) 23 rfl W.heap.size 33 i0 _ 4 40 Tryz.underlying23 hinf hz0 hz1 hz2 rfl (by decide) _ _ _ rfl (hOwn.out.alloc _) ⟨W.heap.size + 1, 0, none⟩ 1 1 (gwCells [⟨0, 77, ⟨#[]⟩, 0⟩]) rfl rfl HNW.out gwCells_one C3.out C4.out (by simp; omega) ?_; intro v' w1 hown' hgrow _; obtain ⟨av', cv', rfl⟩ := owns_form hown'; have HC := Lib.hid (copiedW_of (w := W) (q := ⟨0, 77, ⟨#[]⟩, 0⟩) (l := []) hown' (below_append HB.out HB.out.size hOwn.out hgrow)); obtain ⟨⟨g, rfl⟩, hle, _⟩ := HC.out))
        go_meet
        case rel => exact HC.out.2.2
      | some x =>
        have hrw := (HG.out.below (ballocR W (.cells #[] 33))).news
        have HRW := Lib.hid hrw; clear hrw
        have hl : (gwCells l).length = n * 4 := by rw [gwCells_len, ← HN.out]
        have HL := Lib.hid hl; clear hl
        go_wp2_with (first
          | (at_builtin; refine wpList_append_own _ rfl (.tmp 20) (.tmp 21) 23 rfl W.heap.size 33 i0 _ 4 40 Tryz.underlying23 hinf hz0 hz1 hz2 rfl (by decide) _ _ _ rfl hOwn.out x n cap (gwCells l) rfl HL.out HRW.out gwCells_one C5.out C6.out (by simp) ?_; intro v1 w1 hown1 hgrow1 _; simp only [Nat.zero_add, List.nil_append] at hown1; obtain ⟨av1, cv1, rfl⟩ := owns_form hown1; have HO1 := Lib.hid hown1; have hb1 : Below W.heap.size W w1 := (ballocR W _).grown hgrow1 (by simp) (fun k hk => (hOwn.out.lt k hk).1); clear hown1 hgrow1)
          | (at_builtin; refine wpList_append_own _ rfl (.tmp 22) (.tmp 24) 23 rfl W.heap.size 33 i0 _ 4 40 Tryz.underlying23 hinf hz0 hz1 hz2 rfl (by decide) _ _ _ rfl (HO1.out.alloc _) ⟨w1.heap.size, 0, none⟩ 1 1 (gwCells [⟨0, 77, ⟨#[]⟩, 0⟩]) rfl rfl (gw4_new w1 ⟨0, 77, ⟨#[]⟩, 0⟩ _) gwCells_one C3.out C4.out (bsz hb1 _) ?_; intro v' w2 hown' hgrow _; obtain ⟨av', cv', rfl⟩ := owns_form hown'; have HC := Lib.hid (copiedW_of (w := W) (q := ⟨0, 77, ⟨#[]⟩, 0⟩) (l := l) (by rw [← HN.out]; exact hown') (below_append hb1 hb1.size HO1.out hgrow)); obtain ⟨⟨g, rfl⟩, hle, _⟩ := HC.out; rw [← HN.out] at hle))
        go_meet
        case rel => have := HC.out.2.2; rw [← HN.out] at this; exact this
    case rest =>
      obtain ⟨g, cap2, hv, hle, hrow, hb⟩ := hcut
      rw [← HN.out] at hv
      subst hv
      have HM := Lib.hid hrow
      have HG1 := Lib.hid (HG.out.below hb)
      have HK1 := Lib.hid (HK.out.below hb)
      have E1 := Lib.hid (HE.out.below hb)
      obtain ⟨T, E, hA⟩ : ∃ (T : List UInt8) (E : Nat), printL l = (T, E) := ⟨_, _, rfl⟩
      have HP1 : Hid (Calls Tryz.prog 26 #[.slice (some ⟨g, 0, none⟩) n cap2] wc fun e w' => e = .returned (.tuple #[.string ⟨T.toArray⟩, .int .i64 E]) ∧ Below wc.heap.size wc w') := Lib.hid (by
        have := print_any n cap2 wc hrow.left HN.out HPN.out.t HPN.out.n HPN.out.sum (by omega) E1.out
        rw [hA] at this
        exact this)
      have HP2 : Hid (∀ V, Env W.heap.size V → Gws V a l → Calls Tryz.prog 28 #[.slice a n cap] V fun e w' => e = .returned (.tuple #[.string ⟨T.toArray⟩, .int .i64 E]) ∧ Below V.heap.size V w') := Lib.hid fun V hV hG => by
        have := rprint_any n cap V hG HN.out HPN.out.t HPN.out.n HPN.out.sum (by omega) hV
        rw [hA] at this
        exact this
      obtain ⟨S, hS⟩ : ∃ S : ByteArray, (⟨T.toArray⟩ : ByteArray) = S := ⟨_, rfl⟩
      rw [hS] at HP1 HP2
      rw [← HN.out] at hle
      have HB := Lib.hid hb
      have HLE := Lib.hid hle
      have HN2 := Lib.hid hn200
      clear hrow hb hA hS hle hn200 hz hOwn hinf hz0 hz1 hz2 hk2
      go_wp2_with (go_at_call 26; refine HP1.out.mono ?_)
      rintro e w2 ⟨rfl, hb2⟩
      have HM2 := Lib.hid (HM.out.below hb2)
      have HG2 := Lib.hid (HG1.out.below hb2)
      have HK2 := Lib.hid (HK1.out.below hb2)
      have E2 := Lib.hid (E1.out.below hb2)
      have HB2 := Lib.hid (HB.out.trans (hb2.mono HB.out.size))
      clear hb2
      go_wp2_with (go_at_call 28; refine (HP2.out _ E2.out HG2.out).mono ?_)
      rintro e w3 ⟨rfl, hb3⟩
      have HM3 := Lib.hid (HM2.out.below hb3)
      have HG3 := Lib.hid (HG2.out.below hb3)
      have HK3 := Lib.hid (HK2.out.below hb3)
      have E3 := Lib.hid (E2.out.below hb3)
      have HB3 := Lib.hid (HB2.out.trans (hb3.mono HB2.out.size))
      clear hb3 HP1 HP2 HM HG1 HK1 E1 HB HM2 HG2 HK2 E2 HB2
      go_wp2_with fail
      go_loopg [10] n (fun gk v wr => ∃ j : Nat, gk = n - j ∧ v = .int .i64 j ∧ j ≤ n ∧ Below w3.heap.size w3 wr)
      case atStart => exact ⟨0, rfl, rfl, by omega, Below.refl _ _⟩
      case round =>
        obtain ⟨j, rfl, rfl, hj, hb⟩ := hrel
        by_cases hlt : j < n
        · obtain ⟨x, b3, o3, hgx, rfl, hat⟩ := (HG3.out.below hb).get (i := j) (by rw [← HN.out]; exact hlt)
          have hat2 : x.At wr g (0 + j * 4) := by
            obtain ⟨y, b4, o4, hgy, hE, hat4⟩ := ((HM3.out.left).below hb).get (i := j) (by rw [← HN.out]; exact hlt)
            cases hE
            rw [hgx] at hgy; cases hgy
            exact hat4
          rw [Nat.zero_add] at hat2
          have hEq := eqB_refl x
          have hwn := word_neq x.k x.p x.t x.n x.k x.p x.t x.n
          rw [show (⟨x.k, x.p, x.t, x.n⟩ : Gw) = x from rfl, hEq] at hwn
          obtain ⟨c0, c1, c2, c3⟩ := hat
          obtain ⟨d0, d1, d2, d3⟩ := hat2
          clear hgx hEq
          go_wp2_with fail
          go_quiet (fail)
          go_wp2
          go_roundg (n - (j + 1))
          case measure => omega
          case rel => exact ⟨j + 1, rfl, by have := HN2.out; rw [show wrap64 ((j : Int) + 1) = (j : Int) + 1 by unfold wrap64; omega]; rfl, by omega, bdrewN hb nq⟩
        · obtain rfl : j = n := by omega
          clear hlt hj
          obtain ⟨y, b4, o4, hgy, hE4, hat4⟩ := (HM3.out.below hb).get (i := j) (by rw [List.length_append, ← HN.out]; simp)
          cases hE4
          rw [Nat.zero_add] at hat4
          obtain rfl : y = ⟨0, 77, ⟨#[]⟩, 0⟩ := by
            have e : (l ++ [(⟨0, 77, ⟨#[]⟩, 0⟩ : Gw)])[l.length]? = some ⟨0, 77, ⟨#[]⟩, 0⟩ := by simp
            rw [← HN.out, hgy] at e
            exact Option.some.inj e
          obtain ⟨d0, d1, d2, d3⟩ := hat4
          simp only at d1
          have HB := Lib.hid (HB3.out.trans (hb.mono HB3.out.size))
          have EE := Lib.hid (E3.out.below hb)
          have GG := Lib.hid (HG3.out.below hb)
          have KK := Lib.hid (HK3.out.below hb)
          have P1 := Lib.hid (same_any j cap n' cap' wr GG.out KK.out HN.out HN'.out (by have := HN2.out; omega))
          have P2 := Lib.hid fun V (h : Below wr.heap.size wr V) => rsame_any j cap n' cap' V (GG.out.below h) (KK.out.below h) HN.out HN'.out (by have := HN2.out; omega)
          have P3 : Hid (∀ V, Below wr.heap.size wr V → Calls Tryz.prog 29 #[.slice b n' cap', .slice a j cap] V fun e w' => e = .returned (.bool (sameL l k)) ∧ Below V.heap.size V w') := Lib.hid fun V h => by
            have := same_any n' cap' j cap V (KK.out.below h) (GG.out.below h) HN'.out HN.out (by omega)
            rw [sameL_symm] at this
            exact this
          generalize sameL l k = SM at *
          have e1 : (S.toList == S.toList) = true := by simp
          have e2 : ((E : Int) == E) = true := by simp
          have e3 : (SM == SM) = true := by simp
          have e4 : (j : Int) + 1 ≤ cap2 := by have := HLE.out; omega
          have e5 : j + 1 ≤ 9223372036854775807 := by have := HN2.out; omega
          clear d0 d2 d3 HM3 HG3 HK3 E3 hb hgy
          go_wp2_with (first
            | (go_at_call 14; refine (num_any _ _).mono ?_; rintro e w' ⟨rfl, rfl⟩)
            | (go_at_call 29; refine P1.out.mono ?_; rintro e v1 ⟨rfl, hv1⟩)
            | (go_at_call 30; refine (P2.out _ hv1).mono ?_; rintro e v2 ⟨rfl, hv2⟩; have hw2 := hv1.trans (hv2.mono hv1.size))
            | (go_at_call 29; refine (P3.out _ hw2).mono ?_; rintro e v3 ⟨rfl, hv3⟩; have hw3 := hw2.trans (hv3.mono hw2.size))
            | (go_at_call 30; refine (P2.out _ hw3).mono ?_; rintro e v4 ⟨rfl, hv4⟩; have hw4 := Lib.hid (hw3.trans (hv4.mono hw3.size)))
            | (go_at_call 11; refine (HW.out _ (EE.out.below hw4.out)).mono ?_; rintro e w' ⟨rfl, hb9⟩))
          go_ret
          exact ⟨rfl, (HB.out.trans (hw4.out.mono HB.out.size)).trans (hb9.mono (HB.out.trans (hw4.out.mono HB.out.size)).size)⟩
end Go.Proofs.YtimhhacfjgbomaaGreatDoor
