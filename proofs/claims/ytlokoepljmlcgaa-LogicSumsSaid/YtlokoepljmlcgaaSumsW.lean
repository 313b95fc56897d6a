/-
  THE LAW LogicSums: the walk.
-/
import Derived.Test.YtlokoepljmlcgaaRsum
import Derived.Test.YtlokoepljmlcgaaWorks
import Derived.Laws.AppendOwnNone
namespace Go.Proofs.Ytlokoepljmlcgaa
set_option linter.unusedSimpArgs false
set_option linter.unusedVariables false
open Go.RowKit

/-- A slice of integers that came in, read: its elements. -/
theorem row_of {k : IntKind} {w : World} {a : Option Addr} {len cap : Nat} {zs : List Int} (h : IsRow k w a len cap zs) : RowAt w a k (zs.take len) ∧ (zs.take len).length = len ∧ len ≤ cap := by
  rcases h with ⟨rfl, rfl, rfl, rfl⟩ | ⟨x, rfl, hl, hm, hz, hc, hw⟩
  · exact ⟨.inl rfl, rfl, Nat.le_refl _⟩
  · refine ⟨?_, by simp; omega, hl⟩
    obtain ⟨b, o, s⟩ := x
    by_cases h0 : len = 0
    · subst h0; exact .inl rfl
    · have hc0 := hc 0 (by omega)
      have hs : s = none := by simpa [Addr.add] using World.cell?_spot hc0
      subst hs
      refine .inr ⟨b, o, rfl, fun i hi => ?_⟩
      simp at hi
      have := hc i (by omega)
      simp only [Addr.add_lit] at this
      rw [this]
      simp [List.getD_eq_getElem?_getD, show i < len by omega]
theorem wf_of {k : IntKind} {w : World} {a : Option Addr} {len cap : Nat} {zs : List Int} (h : IsRow k w a len cap zs) : ∀ n ∈ zs.take len, (Lit.int k n).wf = true := by
  rcases h with ⟨rfl, rfl, rfl, rfl⟩ | ⟨x, rfl, hl, hm, hz, hc, hw⟩
  · intro n hn; simp at hn
  · intro n hn; exact hw n (List.mem_of_mem_take hn)
/-- The cells behind an address, as an append asks for them. -/
theorem RowAt.news {w : World} {x : Addr} {k : IntKind} {zs : List Int} (h : RowAt w (some x) k zs) : ∀ j u, (zs.map (Value.int k))[j]? = some u → w.cell? (x.add j) = some u := by
  intro j u hj
  rcases h with h | ⟨b, o, hx, hc⟩
  · subst h; simp at hj
  · cases hx
    have hlt : j < zs.length := by
      rcases Nat.lt_or_ge j zs.length with h | h
      · exact h
      · simp [h] at hj
    rw [Addr.add_lit, hc j hlt]
    simp [hlt] at hj
    simp [hlt, hj]
theorem ints_oneCell {k : IntKind} {zs : List Int} : ∀ u ∈ zs.map (Value.int k), u.oneCell' = true := by
  intro u hu; obtain ⟨z, _, rfl⟩ := List.mem_map.1 hu; rfl
/-- An owned row that is not empty: its cells. -/
theorem owns_pos {w : World} {base : Nat} {e : TypeId} {v : Value} {n : Nat} {k : IntKind} {zs : List Int} (h : w.ownsRow base e 1 v n (zs.map (Value.int k))) (hn : n ≠ 0) :
    ∃ g cap, v = .slice (some ⟨g, 0, none⟩) n cap ∧ n ≤ cap ∧ ∀ i, i < zs.length → w.cell? ⟨g, 0 + i, none⟩ = some (.int k (zs.getD i 0)) := by
  have h2 := h
  rcases h.2 with ⟨rfl, h0⟩ | ⟨g, cap, cur, rfl, hb, hh, hnc, hcm, hcs, ht⟩
  · exact absurd h0 hn
  · refine ⟨g, cap, rfl, hnc, fun i hi => ?_⟩
    have := h2.cells (g := g) rfl i (Value.int k (zs.getD i 0)) (by simp [hi])
    simpa [Addr.add_lit] using this

/-- A row of the call's own: so many numbers that came in, and one more behind them. -/
def Copied (w wx : World) (n : Nat) (zs : List Int) (k : IntKind) (q : Int) (v : Value) : Prop :=
  ∃ g cap, v = .slice (some ⟨g, 0, none⟩) n cap ∧ n + 1 ≤ cap ∧ (∀ i, i < n → wx.cell? ⟨g, 0 + i, none⟩ = some (.int k (zs.getD i 0))) ∧ wx.cell? ⟨g, n, none⟩ = some (.int k q) ∧ Below w.heap.size w wx
theorem copied_of {w w2 : World} {base : Nat} {e : TypeId} {a : Option Addr} {c : Nat} {n : Nat} {zs : List Int} {k : IntKind} {q : Int} (h : w2.ownsRow base e 1 (.slice a (n + 1) c) (n + 1) ((zs ++ [q]).map (Value.int k))) (hn : n = zs.length) (hb : Below w.heap.size w w2) :
    (∃ g, a = some ⟨g, 0, none⟩) ∧ n + 1 ≤ c ∧ Copied w w2 n zs k q (.slice a n c) := by
  obtain ⟨g, cap, hv, hle, hc⟩ := owns_pos h (by omega)
  injection hv with h1 h2 h3
  subst h1; subst h3
  refine ⟨⟨g, rfl⟩, hle, g, c, rfl, hle, fun i hi => ?_, ?_, hb⟩
  · rw [hc i (by simp; omega)]; simp [List.getElem?_append_left (show i < zs.length by omega)]
  · have := hc n (by simp; omega)
    rw [Nat.zero_add] at this
    rw [this]; subst hn; simp

set_option maxRecDepth 100000 in
set_option maxHeartbeats 4000000 in
theorem sums_walk (a : Option Addr) (n cap : Nat) (zs : List Int) (w : World) (hn : Hid (n = zs.length)) (hr : RowAt w a .i64 zs) (hz : Hid (∀ z ∈ zs, In64 z)) (hm : n ≤ 500) (hnil : Hid (a = none → n = 0 ∧ cap = 0)) :
    Calls Try.prog 3 #[.slice a n cap] w fun e w' => e = .returned (.bool true) ∧ Below w.heap.size w w' := by
  obtain ⟨i0, hi, hz0, hz1, hz2⟩ := info_parts Try.info2
  have HR := Lib.hid hr; clear hr
  have hOwn := Lib.hid (World.ownsRow_made (base := w.heap.size) (e := 2) (size := 1) w #[] 0 (Nat.le_refl _) (by decide) (by decide))
  go_enter Try.func3, Try.ntmps3
  go_upto_region 3 with (fail)
  go_cut [3] (fun v wx => Copied w wx n zs .i64 77 v)
  case first =>
    have c3 : n + 1 ≤ maxLen := by unfold maxLen; omega
    have c4 : (n + 1) * 8 ≤ 140737488355328 := by omega
    have c5 : 0 + n ≤ maxLen := by unfold maxLen; omega
    have c6 : (0 + n) * 8 ≤ 140737488355328 := by omega
    have C3 := Lib.hid c3; have C4 := Lib.hid c4; have C5 := Lib.hid c5; have C6 := Lib.hid c6; clear c3 c4 c5 c6
    cases a with
    | none =>
      obtain ⟨rfl, rfl⟩ := hnil.out rfl
      obtain rfl : zs = [] := List.eq_nil_of_length_eq_zero hn.out.symm
      have hnw := one_new (w.alloc (.cells #[] 2)) (.int .i64 77) 2
      rw [World.size_alloc] at hnw
      have HNW := Lib.hid hnw; clear hnw
      have HB := Lib.hid (ballocR w (.cells #[] 2))
      go_wp2_with (first
        | (at_builtin; refine wpList_append_own_none rfl (.tmp 13) (.tmp 14) 22 rfl w.heap.size 2 i0 1 Try.underlying22 hi _ _ _ rfl hOwn.out rfl ?_)
        | (at_builtin; refine wpList_append_own _ rfl (.tmp 15) (.tmp 16) 22 rfl w.heap.size 2 i0 (.int .i64 0) 1 8 Try.underlying22 hi hz0 hz1 hz2 rfl (by decide) _ _ _ rfl (hOwn.out.alloc _) ⟨w.heap.size + 1, 0, none⟩ 1 1 [.int .i64 77] rfl rfl HNW.out one_int C3.out C4.out (by simp; omega) ?_; intro v' w1 hown' hgrow _; obtain ⟨av', cv', rfl⟩ := owns_form hown'; have HC := Lib.hid (copied_of (w := w) (q := 77) (zs := []) (n := 0) hown' rfl (below_append HB.out HB.out.size hOwn.out hgrow)); obtain ⟨⟨g, rfl⟩, hle, _⟩ := HC.out))
      go_meet
      case rel => exact HC.out.2.2
    | some x =>
      have hrw := (HR.out.below (ballocR w (.cells #[] 2))).news
      have HRW := Lib.hid hrw; clear hrw
      have hl : (zs.map (Value.int .i64)).length = n * 1 := by simp [hn.out]
      have HL := Lib.hid hl; clear hl
      go_wp2_with (first
        | (at_builtin; refine wpList_append_own _ rfl (.tmp 13) (.tmp 14) 22 rfl w.heap.size 2 i0 (.int .i64 0) 1 8 Try.underlying22 hi hz0 hz1 hz2 rfl (by decide) _ _ _ rfl hOwn.out x n cap (zs.map (Value.int .i64)) rfl HL.out HRW.out ints_oneCell C5.out C6.out (by simp) ?_; intro v1 w1 hown1 hgrow1 _; simp only [Nat.zero_add, List.nil_append] at hown1; obtain ⟨av1, cv1, rfl⟩ := owns_form hown1; have HO1 := Lib.hid hown1; have hb1 : Below w.heap.size w w1 := (ballocR w _).grown hgrow1 (by simp) (fun k hk => (hOwn.out.lt k hk).1); clear hown1 hgrow1)
        | (at_builtin; refine wpList_append_own _ rfl (.tmp 15) (.tmp 16) 22 rfl w.heap.size 2 i0 (.int .i64 0) 1 8 Try.underlying22 hi hz0 hz1 hz2 rfl (by decide) _ _ _ rfl (HO1.out.alloc _) ⟨w1.heap.size, 0, none⟩ 1 1 [.int .i64 77] rfl rfl (one_new _ _ _) one_int C3.out C4.out (bsz hb1 _) ?_; intro v' w2 hown' hgrow _; obtain ⟨av', cv', rfl⟩ := owns_form hown'; have HC := Lib.hid (copied_of (w := w) (q := 77) (zs := zs) (n := n) (by simpa using hown') hn.out (below_append hb1 hb1.size HO1.out hgrow)); obtain ⟨⟨g, rfl⟩, hle, _⟩ := HC.out))
      go_meet
      case rel => exact HC.out.2.2
  case rest =>
    obtain ⟨g, cap2, rfl, hle, hcells, h77, hb⟩ := hcut
    have HRc := Lib.hid (HR.out.below hb)
    have HRm : Hid (RowAt wc (some ⟨g, 0, none⟩) .i64 zs) := .inr ⟨g, 0, rfl, fun i hi => hcells i (by have := hn.out; omega)⟩
    clear hcells
    go_wp2_with fail
    go_fit (sum_any _ _ _ zs _ hn HRm.out hz (by omega))
    rintro e w1 ⟨rfl, hb1⟩
    have HRc1 := Lib.hid (HRc.out.below hb1); have HRm1 := Lib.hid (HRm.out.below hb1)
    have h77b : w1.cell? ⟨g, n, none⟩ = some (.int .i64 77) := by rw [hb1.cell (World.block_lt_of_cell? wc ⟨g, n, none⟩ h77)]; exact h77
    have hbb := hb.trans (hb1.mono hb.size)
    clear HRc HRm h77 hb hb1
    go_wp2_with fail
    go_fit (rsum_any _ _ _ zs _ hn HRc1.out hz (by omega))
    rintro e w2 ⟨rfl, hb2⟩
    have HRc2 := Lib.hid (HRc1.out.below hb2); have HRm2 := Lib.hid (HRm1.out.below hb2)
    have h77c : w2.cell? ⟨g, n, none⟩ = some (.int .i64 77) := by rw [hb2.cell (World.block_lt_of_cell? w1 ⟨g, n, none⟩ h77b)]; exact h77b
    have hB := hbb.trans (hb2.mono hbb.size)
    clear HRc1 HRm1 h77b hbb hb2
    generalize res zs.sum = S at *
    generalize err zs.sum = E at *
    go_wp2_with fail
    go_loopg [8] n (fun gk i wr => ∃ k : Nat, (RowAt wr (some ⟨g, 0, none⟩) .i64 zs ∧ RowAt wr a .i64 zs ∧ wr.cell? ⟨g, n, none⟩ = some (.int .i64 77) ∧ Below w.heap.size w wr) ∧ gk = n - k ∧ k ≤ n ∧ i = .int .i64 k)
    case atStart => exact ⟨0, ⟨HRm2.out, HRc2.out, h77c, hB⟩, rfl, Nat.zero_le _, rfl⟩
    case round =>
      obtain ⟨k, ⟨hr1, hr2, h7, hbr⟩, hgk, hk, rfl⟩ := hrel
      have HQ1 := Lib.hid hr1; have HQ2 := Lib.hid hr2; have HK := Lib.hid hgk; clear hr1 hr2 hgk
      by_cases hlt : k < n
      · obtain ⟨b, o, ha, c2⟩ : ∃ b o, a = some ⟨b, o, none⟩ ∧ wr.cell? ⟨b, o + k, none⟩ = some (.int .i64 (zs.getD k 0)) := by
          rcases HQ2.out with h | ⟨b, o, ha, hc⟩
          · exfalso; have := hn.out; subst h; simp at this; omega
          · exact ⟨b, o, ha, hc k (by have := hn.out; omega)⟩
        subst ha
        have c1 : wr.cell? ⟨g, k, none⟩ = some (.int .i64 (zs.getD k 0)) := by
          rcases HQ1.out with h | ⟨b', o', ha', hc⟩
          · exfalso; have := hn.out; subst h; simp at this; omega
          · cases ha'; have := hc k (by have := hn.out; omega); simpa using this
        generalize zs.getD k 0 = x at *
        go_wp2_with fail
        go_quiet (fail)
        go_wp2
        go_roundg (n - (k + 1))
        case measure => have := HK.out; omega
        case rel => exact ⟨k + 1, ⟨HQ1.out.drewN nq, HQ2.out.drewN nq, by simpa using h7, bdrewN hbr nq⟩, rfl, by omega, by go_num⟩
      · go_wp2_with (first | (go_at_call 12; go_fit (num_any _ _); rintro e w' ⟨rfl, rfl⟩) | (go_at_call 9; go_fit (works_any _); rintro e w' ⟨rfl, hbel⟩))
        go_ret
        exact ⟨rfl, hbr.trans (hbel.mono hbr.size)⟩

theorem sums_long (a : Option Addr) (len cap : Nat) (w : World) (h : 500 < len) :
    Calls Try.prog 3 #[.slice a len cap] w fun e w' => e = .returned (.bool true) ∧ Below w.heap.size w w' := by
  go_enter Try.func3, Try.ntmps3
  go_wp2_with (go_at_call 9; go_fit (works_any _); rintro e w' ⟨rfl, hbel⟩)
  go_ret
  exact ⟨rfl, hbel⟩

theorem sumsW (a : Option Addr) (len cap : Nat) (zs : List Int) (w : World) (h : IsRow .i64 w a len cap zs) :
    Calls Try.prog 3 #[.slice a len cap] w fun e w' => e = .returned (.bool true) ∧ Below w.heap.size w w' := by
  by_cases hl : 500 < len
  · exact sums_long a len cap w hl
  · obtain ⟨hr, hn, hle⟩ := row_of h
    exact sums_walk a len cap (zs.take len) w hn.symm hr (fun z hz => wf_in64 (wf_of h z hz)) (by omega) (by
      intro ha; rcases h with ⟨_, h1, h2, _⟩ | ⟨x, hx, _⟩
      · exact ⟨h1, h2⟩
      · rw [ha] at hx; cases hx)
end Go.Proofs.Ytlokoepljmlcgaa
