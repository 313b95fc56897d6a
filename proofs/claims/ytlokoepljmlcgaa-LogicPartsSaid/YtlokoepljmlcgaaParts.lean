/-
  THE LAW LogicParts: the walk. A sum does not hang on the order; sums of parts go together; nought adds nothing.
-/
import Derived.Test.YtlokoepljmlcgaaWorks
import Derived.Deep.LoopGhost
import Derived.Deep.DeepCutAuto
namespace Go.Proofs.Ytlokoepljmlcgaa
open Go.RowKit

theorem one_new2 (w : World) (x y : Value) (t : TypeId) : ∀ j u, [x, y][j]? = some u → (w.alloc (.cells #[x, y] t)).cell? ((⟨w.heap.size, 0, none⟩ : Addr).add j) = some u := by
  intro j u hj
  match j, hj with
  | 0, hj => simp at hj; subst hj; simp [Addr.add]
  | 1, hj => simp at hj; subst hj; simp [Addr.add]
theorem two_int {k l : IntKind} {n m : Int} : ∀ u ∈ [Value.int k n, Value.int l m], u.oneCell' = true := by intro u hu; simp at hu; rcases hu with rfl | rfl <;> rfl

/-- A slice of integers that came in, read: its elements. -/
theorem row_of {k : IntKind} {w : World} {a : Option Addr} {len cap : Nat} {zs : List Int} (h : IsRow k w a len cap zs) : RowAt w a k (zs.take len) ∧ (zs.take len).length = len ∧ len ≤ cap := by
  rcases h with ⟨rfl, rfl, rfl, rfl⟩ | ⟨x, rfl, hl, hm, hz, hc, hw⟩
  · exact ⟨.inl rfl, rfl, Nat.le_refl _⟩
  · refine ⟨?_, by simp; omega, hl⟩
    obtain ⟨b, o, s⟩ := x
    by_cases h0 : len = 0
    · subst h0; exact .inl rfl
    · have hc0 := hc 0 (by omega)
      have hs : s = none := by simpa [Addr.add] using World.cell?_spot hc0
      subst hs
      refine .inr ⟨b, o, rfl, fun i hi => ?_⟩
      simp at hi
      have := hc i (by omega)
      simp only [Addr.add_lit] at this
      rw [this]
      simp [List.getD_eq_getElem?_getD, show i < len by omega]
theorem wf_of {k : IntKind} {w : World} {a : Option Addr} {len cap : Nat} {zs : List Int} (h : IsRow k w a len cap zs) : ∀ n ∈ zs.take len, (Lit.int k n).wf = true := by
  rcases h with ⟨rfl, rfl, rfl, rfl⟩ | ⟨x, rfl, hl, hm, hz, hc, hw⟩
  · intro n hn; simp at hn
  · intro n hn; exact hw n (List.mem_of_mem_take hn)

/-- The place of the cut. -/
theorem cut_at (cut : Int) (n : Nat) (hn : n ≤ 300) : ∃ k : Nat, k ≤ n ∧ (wrap64 (wrap64 (cut.tmod (n + 1) + n) + 1)).tmod (n + 1) = (k : Int) := by
  have h1 : (cut.tmod (n + 1)).natAbs < (n + 1 : Int).natAbs := by rw [Int.natAbs_tmod]; exact Nat.mod_lt _ (by omega)
  generalize cut.tmod (n + 1) = r at *
  have h2 : (wrap64 (wrap64 (r + n) + 1)) = r + n + 1 := by unfold wrap64; omega
  rw [h2]
  have h3 : (r + n + 1).tmod (n + 1) = (r + n + 1) % (n + 1) := Int.tmod_eq_emod_of_nonneg (by omega)
  rw [h3]
  refine ⟨((r + n + 1) % (n + 1)).toNat, ?_, ?_⟩
  · have := Int.emod_lt_of_pos (r + n + 1) (show (0 : Int) < n + 1 by omega); omega
  · have := Int.emod_nonneg (r + n + 1) (show (n + 1 : Int) ≠ 0 by omega); omega

/-- The elements from one place on, each with a nought behind it, from the last one back. -/
def Turned (zs : List Int) (k : Nat) (ts : List Int) : Prop := ts.length = 2 * (zs.length - k) ∧ ts.sum = (zs.drop k).sum ∧ ∀ t ∈ ts, In64 t
theorem turned_start (zs : List Int) : Turned zs zs.length [] := by refine ⟨by simp, by simp, by simp⟩
theorem turned_next {zs : List Int} {k : Nat} {ts : List Int} (h : Turned zs (k + 1) ts) (hk : k < zs.length) (hz : ∀ z ∈ zs, In64 z) : Turned zs k (ts ++ [zs.getD k 0, 0]) := by
  obtain ⟨h1, h2, h3⟩ := h
  have hd : zs.drop k = zs.getD k 0 :: zs.drop (k + 1) := by rw [List.drop_eq_getElem_cons hk]; simp [hk]
  refine ⟨by simp; omega, ?_, ?_⟩
  · rw [hd]; simp; omega
  · intro t ht
    simp at ht
    rcases ht with ht | ht | ht
    · exact h3 t ht
    · subst ht; apply hz; simp [hk]
    · subst ht; exact fl (by decide)

theorem psum (a : Option Addr) (n cap : Nat) (zs : List Int) (w0 w : World) (hn : Hid (n = zs.length)) (hr : RowAt w0 a .i64 zs) (hz : Hid (∀ z ∈ zs, In64 z)) (hm : n ≤ 600) (hB : Below w0.heap.size w0 w) :
    Calls Try.prog 10 #[.slice a n cap] w fun e w' => e = .returned (.tuple #[.int .i64 (res zs.sum), .int .i64 (err zs.sum)]) ∧ Below w0.heap.size w0 w' :=
  (sum_any a n cap zs w hn (hr.below hB) hz (by omega)).mono fun _ _ h => ⟨h.1, hB.trans (h.2.mono hB.size)⟩

set_option maxRecDepth 100000 in
set_option maxHeartbeats 2000000 in
theorem parts_walk (b o n cap : Nat) (zs : List Int) (cut : Int) (w : World) (hn : Hid (n = zs.length)) (hc : ∀ i, i < n → w.cell? ⟨b, o + i, none⟩ = some (.int .i64 (zs.getD i 0))) (hz : Hid (∀ z ∈ zs, In64 z)) (h300 : n ≤ 300) (hcap : n ≤ cap) (hcap0 : 0 < cap) (hcut : In64 cut) :
    Calls Try.prog 5 #[.slice (some ⟨b, o, none⟩) n cap, .int .i64 cut] w fun e w' => e = .returned (.bool true) ∧ Below w.heap.size w w' := by
  obtain ⟨i0, hi, hz0, hz1, hz2⟩ := info_parts Try.info2
  obtain ⟨k, hk, hke⟩ := cut_at cut n h300
  have HC := Lib.hid hc; clear hc
  have HI := Lib.hid hcut; clear hcut
  have hpos : (0 : Int) < n + 1 := by omega
  go_enter Try.func5, Try.ntmps5
  go_wp2
  go_loopg [6, 7] n (fun gk v i wr => ∃ ts : List Int, gk ≤ n ∧ i = .int .i64 (↑gk - 1) ∧ Turned zs gk ts ∧ wr.ownsRow w.heap.size 2 1 v ts.length (ts.map (Value.int .i64)) ∧ Below w.heap.size w wr)
  case atStart => exact ⟨[], Nat.le_refl _, rfl, by rw [hn.out]; exact turned_start _, World.ownsRow_nil _ _ _ _, Below.refl _ _⟩
  case round =>
    obtain ⟨ts, hgk, rfl, hT, hown, hb⟩ := hrel
    have HT := Lib.hid hT; clear hT
    obtain ⟨av, cv, rfl⟩ := owns_form hown
    have HO := Lib.hid hown; clear hown
    cases gk with
    | succ j =>
      rw [show ((j + 1 : Nat) : Int) - 1 = (j : Int) by omega]
      have hck := HC.out j (by omega)
      have hckr : wr.cell? ⟨b, o + j, none⟩ = some (.int .i64 (zs.getD j 0)) := by rw [hb.cell (World.block_lt_of_cell? w ⟨b, o + j, none⟩ hck)]; exact hck
      have HN := Lib.hid (turned_next HT.out (by have := hn.out; omega) hz.out)
      have hl := HT.out.1
      have hn' := hn.out
      have c3 : ts.length + 2 ≤ maxLen := by unfold maxLen; omega
      have c4 : (ts.length + 2) * 8 ≤ 140737488355328 := by omega
      have C3 := Lib.hid c3; have C4 := Lib.hid c4; clear c3 c4 hl hck hn'
      generalize hzj : zs.getD j 0 = z at *
      clear hzj
      go_wp2_with ((at_builtin; refine wpList_append_own _ rfl _ _ 22 rfl w.heap.size 2 i0 (.int .i64 0) 1 8 Try.underlying22 hi hz0 hz1 hz2 rfl (by decide) _ _ _ rfl (HO.out.alloc _) ⟨wr.heap.size, 0, none⟩ 2 2 [.int .i64 z, .int .i64 0] rfl rfl (one_new2 _ _ _ _) two_int C3.out C4.out (bsz hb _) ?_; intro v' w1 hown' hgrow _))
      have HO' : Hid (w1.ownsRow w.heap.size 2 1 v' (ts ++ [z, 0]).length ((ts ++ [z, 0]).map (Value.int .i64))) := by simpa [Hid] using hown'
      have hb' : Below w.heap.size w w1 := below_append (v := .slice av ts.length cv) hb hb.size HO.out hgrow
      clear hown' hgrow
      go_wp2
      go_roundg j
      case measure => omega
      case rel => exact ⟨ts ++ [z, 0], by omega, rfl, HN.out, HO'.out, hb'⟩
    | zero =>
      have hlen := hn.out
      have hR0 : RowAt w (some ⟨b, o, none⟩) .i64 zs := .inr ⟨b, o, rfl, fun i hi => HC.out i (by omega)⟩
      have hRt := (rowAt_owns HO.out).2
      obtain ⟨a', c', he, _, hRt⟩ := hRt
      injection he with he1 he2 he3
      subst he1; subst he3
      have hS : ts.sum = zs.sum := by have := HT.out.2.1; simpa using this
      have hAB : (zs.take k).sum + (zs.drop k).sum = zs.sum := by rw [← List.sum_append, List.take_append_drop]
      have HTl := HT.out.1
      have hZt : Hid (∀ z ∈ ts, In64 z) := HT.out.2.2
      have hZ1 : Hid (∀ z ∈ zs.take k, In64 z) := fun z hz' => hz.out z (List.mem_of_mem_take hz')
      have hZ2 : Hid (∀ z ∈ zs.drop k, In64 z) := fun z hz' => hz.out z (List.mem_of_mem_drop hz')
      have hL1 : Hid (k = (zs.take k).length) := by show k = _; simp; omega
      have hL2 : Hid (n - k = (zs.drop k).length) := by show n - k = _; simp; omega
      have hts : ts.length ≤ 600 := by omega
      have hR1 : RowAt wr (some ⟨b, o, none⟩) .i64 (zs.take k) := (hR0.below hb).take k
      have hR2 : RowAt wr (some ⟨b, o + k, none⟩) .i64 (zs.drop k) := by
        refine .inr ⟨b, o + k, rfl, fun i hi => ?_⟩
        simp at hi
        have hcc := HC.out (k + i) (by omega)
        rw [Nat.add_assoc, hb.cell (World.block_lt_of_cell? w _ hcc), hcc]
        simp
      have hR2b : k = cap → RowAt wr (some ⟨b, o, none⟩) .i64 (zs.drop k) := fun h => .inl (List.drop_eq_nil_of_le (by omega))
      have HM0 : Hid (∀ w', Below wr.heap.size wr w' → Calls Try.prog 10 #[.slice (some ⟨b, o, none⟩) n cap] w' fun e w'' => e = .returned (.tuple #[.int .i64 (res zs.sum), .int .i64 (err zs.sum)]) ∧ Below wr.heap.size wr w'') := fun w' hB => psum _ n cap zs wr w' hn (hR0.below hb) hz (by omega) hB
      have HMt : Hid (∀ w', Below wr.heap.size wr w' → Calls Try.prog 10 #[.slice av ts.length cv] w' fun e w'' => e = .returned (.tuple #[.int .i64 (res zs.sum), .int .i64 (err zs.sum)]) ∧ Below wr.heap.size wr w'') := fun w' hB => by rw [← hS]; exact psum _ _ cv ts wr w' rfl hRt hZt hts hB
      have HM1 : Hid (∀ w', Below wr.heap.size wr w' → Calls Try.prog 10 #[.slice (some ⟨b, o, none⟩) k cap] w' fun e w'' => e = .returned (.tuple #[.int .i64 (res (zs.take k).sum), .int .i64 (err (zs.take k).sum)]) ∧ Below wr.heap.size wr w'') := fun w' hB => psum _ k cap _ wr w' hL1 hR1 hZ1 (by omega) hB
      have HM2 : Hid (∀ a m c w', RowAt wr a .i64 (zs.drop k) → m = n - k → Below wr.heap.size wr w' → Calls Try.prog 10 #[.slice a m c] w' fun e w'' => e = .returned (.tuple #[.int .i64 (res (zs.drop k).sum), .int .i64 (err (zs.drop k).sum)]) ∧ Below wr.heap.size wr w'') := fun a m c w' hr hm hB => by subst hm; exact psum _ (n - k) c _ wr w' hL2 hr hZ2 (by omega) hB
      have HR2 := Lib.hid hR2; have HR2b := Lib.hid hR2b
      clear hR0 hRt hS HTl hlen hR1 hR2 hR2b hL1 hL2 hZ1 hZ2 hZt
      have HD := Lib.hid (show zs.drop k = zs.drop k from rfl)
      generalize (zs.take k).sum = S1 at *
      generalize (zs.drop k).sum = S2 at *
      generalize zs.sum = S at *
      have hcases : (err S1 = 0 ∧ err S2 = 0 ∧ res S1 = S1 ∧ res S2 = S2 ∧ (fits S1 = true ∧ fits S2 = true)) ∨ ((err S1 = 0 ∨ err S1 = 120) ∧ err S2 = 120) ∨ (err S1 = 120 ∧ err S2 = 0) := by
        by_cases f1 : fits S1 = true
        · by_cases f2 : fits S2 = true
          · exact .inl ⟨err_fit f1, err_fit f2, res_fit f1, res_fit f2, f1, f2⟩
          · exact .inr (.inl ⟨.inl (err_fit f1), err_no (by simpa using f2)⟩)
        · by_cases f2 : fits S2 = true
          · exact .inr (.inr ⟨err_no (by simpa using f1), err_fit f2⟩)
          · exact .inr (.inl ⟨.inr (err_no (by simpa using f1)), err_no (by simpa using f2)⟩)
      simp only [Int.ofNat_zero, Int.zero_sub]
      obtain rfl | hkc := Classical.em (k = cap)
      all_goals
        have HKC : Hid (k = k) := rfl
        rcases hcases with ⟨e1, e2, e3, e4, e5⟩ | ⟨e1 | e1, e2⟩ | ⟨e1, e2⟩
      all_goals as_aux_lemma =>
        go_wp2_with fail
        go_fit (HM0.out _ (Below.refl _ _)); rintro e w1 ⟨rfl, hb1⟩
        go_wp2_with fail
        go_fit (HMt.out _ hb1); rintro e w2 ⟨rfl, hb2⟩
        go_wp2_with fail
        go_fit (HM1.out _ hb2); rintro e w3 ⟨rfl, hb3⟩
        go_wp2_with fail
        go_fit (HM2.out _ _ _ _ (by first | exact HR2.out | exact HR2b.out HKC.out) (by first | rfl | omega) hb3); rintro e w4 ⟨rfl, hb4⟩
        first
          | (obtain ⟨e5, e6⟩ := e5
             have E5 := Lib.hid (fits_iff.1 e5); have E6 := Lib.hid (fits_iff.1 e6); clear e5 e6
             go_wp2_with (first
               | (go_at_call 12; go_fit (num_any _ _); rintro e w' ⟨rfl, rfl⟩)
               | (go_at_call 15; go_fit (add_any _ _ _ E5.out E6.out); rintro e w' ⟨rfl, rfl⟩)
               | (go_at_call 9; go_fit (works_any _); rintro e w' ⟨rfl, hbel⟩))
             go_ret
             exact ⟨rfl, (hb.trans (hb4.mono hb.size)).trans (hbel.mono (Nat.le_trans hb.size hb4.size))⟩)
          | (go_wp2_with (first
               | (go_at_call 12; go_fit (num_any _ _); rintro e w' ⟨rfl, rfl⟩)
               | (go_at_call 9; go_fit (works_any _); rintro e w' ⟨rfl, hbel⟩))
             go_ret
             exact ⟨rfl, (hb.trans (hb4.mono hb.size)).trans (hbel.mono (Nat.le_trans hb.size hb4.size))⟩)


theorem esum (a : Option Addr) (cap : Nat) (w0 w : World) (hB : Below w0.heap.size w0 w) :
    Calls Try.prog 10 #[.slice a 0 cap] w fun e w' => e = .returned (.tuple #[.int .i64 0, .int .i64 0]) ∧ Below w0.heap.size w0 w' :=
  psum a 0 cap [] w0 w rfl (.inl rfl) (by intro z hz; cases hz) (by decide) hB

set_option maxRecDepth 100000 in
set_option maxHeartbeats 1000000 in
theorem parts_zero (a : Option Addr) (cut : Int) (w : World) :
    Calls Try.prog 5 #[.slice a 0 0, .int .i64 cut] w fun e w' => e = .returned (.bool true) ∧ Below w.heap.size w w' := by
  have B0 := Below.refl w.heap.size w
  have hA : ∀ w1, Calls Try.prog 15 #[.int .i64 0, .int .i64 0] w1 fun e w' => e = .returned (.tuple #[.int .i64 0, .int .i64 0]) ∧ w1 = w' := fun w1 => add_any 0 0 w1 (fl (by decide)) (fl (by decide))
  have HA := Lib.hid hA; clear hA
  cases a
  all_goals
    go_enter Try.func5, Try.ntmps5
    go_wp2
    refine wp_loop_rounds 1 ?_; rw [rounds_succ]
    go_wp2_with (first
      | (go_at_call 10; go_fit (esum _ _ _ _ (by assumption)); rintro e w' ⟨rfl, hb⟩)
      | (go_at_call 12; go_fit (num_any _ _); rintro e w' ⟨rfl, rfl⟩)
      | (go_at_call 15; go_fit (HA.out _); rintro e w' ⟨rfl, rfl⟩)
      | (go_at_call 9; go_fit (works_any _); rintro e w' ⟨rfl, hbel⟩))
    go_ret
    exact ⟨rfl, Below.trans (by assumption) (hbel.mono (Below.size (by assumption)))⟩

theorem parts_long (a : Option Addr) (len cap : Nat) (cut : Int) (w : World) (h : 300 < len) :
    Calls Try.prog 5 #[.slice a len cap, .int .i64 cut] w fun e w' => e = .returned (.bool true) ∧ Below w.heap.size w w' := by
  go_enter Try.func5, Try.ntmps5
  go_wp2_with (go_at_call 9; go_fit (works_any _); rintro e w' ⟨rfl, hbel⟩)
  go_ret
  exact ⟨rfl, hbel⟩

theorem partsW (a : Option Addr) (len cap : Nat) (zs : List Int) (cut : Int) (w : World) (h : IsRow .i64 w a len cap zs) (hc : (Lit.int .i64 cut).wf = true) :
    Calls Try.prog 5 #[.slice a len cap, .int .i64 cut] w fun e w' => e = .returned (.bool true) ∧ Below w.heap.size w w' := by
  by_cases hl : 300 < len
  · exact parts_long a len cap cut w hl
  · obtain ⟨hr, hn, hle⟩ := row_of h
    by_cases h0 : cap = 0
    · subst h0
      obtain rfl : len = 0 := by omega
      exact parts_zero a cut w
    · by_cases h1 : len = 0
      · rcases h with ⟨rfl, rfl, rfl, rfl⟩ | ⟨x, rfl, _, _, hz, hcell, hw⟩
        · exact absurd rfl h0
        · subst h1
          obtain ⟨b, o, s⟩ := x
          have hs : s = none := by simpa [Addr.add] using World.cell?_spot (hcell 0 (by omega))
          subst hs
          exact parts_walk b o 0 cap [] cut w rfl (by intro i hi; omega) (by intro z hz; cases hz) (by omega) (by omega) (by omega) (wf_in64 hc)
      · rcases hr with hr | ⟨b, o, rfl, hcell⟩
        · rw [hr] at hn; exact absurd hn.symm h1
        · exact parts_walk b o len cap (zs.take len) cut w hn.symm (fun i hi => hcell i (by omega)) (fun z hz => wf_in64 (wf_of h z hz)) (by omega) hle (by omega) (wf_in64 hc)
end Go.Proofs.Ytlokoepljmlcgaa
