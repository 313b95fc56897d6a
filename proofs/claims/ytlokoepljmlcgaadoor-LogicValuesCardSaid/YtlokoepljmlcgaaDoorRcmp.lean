/-
  WALKS of the document's Texts, and of its Compare of two values of one kind that are no lists.
-/
import Derived.Test.YtlokoepljmlcgaaDoorEqP
import Derived.Test.YtlokoepljmlcgaaDoorUtf8w
import Derived.Deep.LoopGhost
namespace Go.Proofs.YtlokoepljmlcgaaDoor
set_option linter.unusedSimpArgs false
set_option linter.unusedVariables false
open Go.RowKit Go.Shelf Go.Lib

theorem quiet_add_left {P : Program} {f : FuncId} {args : Array Value} {w : World} {a n : Nat} {v : Value}
    (h : Calls P f args (w.drewN (a + n)) fun e w' => e = .returned v ∧ w.drewN (a + n) = w') :
    Calls P f args (w.drewN (a + n)) fun e w'' => e = .returned v ∧ ∃ m, w'' = w.drewN (a + m) :=
  h.mono fun _ _ ⟨he, hm⟩ => ⟨he, n, hm.symm⟩
theorem cmp_step {a b : ByteArray} {i : Nat} (ha : i < a.size) (hb : i < b.size) :
    compareBytes (a.data.toList.drop i) (b.data.toList.drop i) = if rb a i = rb b i then compareBytes (a.data.toList.drop (i + 1)) (b.data.toList.drop (i + 1)) else cmpI (rb a i) (rb b i) := by
  have la : i < a.data.toList.length := by rw [Array.length_toList]; exact ha
  have lb : i < b.data.toList.length := by rw [Array.length_toList]; exact hb
  rw [List.drop_eq_getElem_cons la, List.drop_eq_getElem_cons lb]
  have ea : (a.data.toList[i]).toNat = rb a i := by rw [← rb_eq ha]; rfl
  have eb : (b.data.toList[i]).toNat = rb b i := by rw [← rb_eq hb]; rfl
  simp only [compareBytes, UInt8.lt_iff_toNat_lt, ea, eb, cmpI]
  by_cases h1 : rb a i < rb b i
  · rw [if_pos h1, if_neg (by omega), if_pos (by omega)]
  · by_cases h2 : rb b i < rb a i
    · rw [if_neg h1, if_pos h2, if_neg (by omega), if_neg (by omega), if_pos (by omega)]
    · rw [if_neg h1, if_neg h2, if_pos (by omega)]
theorem cmp_end {a b : ByteArray} {i : Nat} (h : ¬ (i < a.size ∧ i < b.size)) (ha : i ≤ a.size) (hb : i ≤ b.size) :
    compareBytes (a.data.toList.drop i) (b.data.toList.drop i) = cmpI a.size b.size := by
  have la : a.data.toList.length = a.size := by rw [Array.length_toList]; rfl
  have lb : b.data.toList.length = b.size := by rw [Array.length_toList]; rfl
  unfold cmpI
  by_cases h1 : i < a.size
  · have h2 : i = b.size := by omega
    rw [List.drop_eq_getElem_cons (by omega : i < a.data.toList.length), List.drop_of_length_le (by omega : b.data.toList.length ≤ i), if_neg (by omega), if_pos (by omega)]; rfl
  · by_cases h2 : i < b.size
    · rw [List.drop_eq_getElem_cons (by omega : i < b.data.toList.length), List.drop_of_length_le (by omega : a.data.toList.length ≤ i), if_pos (by omega)]; rfl
    · rw [List.drop_of_length_le (by omega : a.data.toList.length ≤ i), List.drop_of_length_le (by omega : b.data.toList.length ≤ i), if_neg (by omega), if_neg (by omega)]; rfl

set_option maxRecDepth 100000 in
set_option maxHeartbeats 4000000 in
theorem texts_any (a b : ByteArray) (w : World) (ha : a.size ≤ 1099511627776) (hb : b.size ≤ 1099511627776) :
    Calls Tryd.prog 55 #[.string a, .string b] w fun e w' => e = .returned (.int .i64 (compareBytes a.data.toList b.data.toList)) ∧ Below w.heap.size w w' := by
  obtain ⟨ANS, hA⟩ : ∃ A, compareBytes a.data.toList b.data.toList = A := ⟨_, rfl⟩
  rw [hA]
  have HA := Lib.hid hA
  clear hA
  go_enter Tryd.func55, Tryd.ntmps55
  go_wp2
  go_loopg [5] a.size (fun gk s0 wr => Below w.heap.size w wr ∧ ∃ i : Nat, s0 = .int .i64 i ∧ gk = a.size - i ∧ i ≤ a.size ∧ i ≤ b.size ∧ compareBytes (a.data.toList.drop i) (b.data.toList.drop i) = ANS)
  case atStart => exact ⟨Below.refl _ _, 0, rfl, rfl, Nat.zero_le _, Nat.zero_le _, HA.out⟩
  case round =>
    obtain ⟨hbel, i, rfl, rfl, hia, hib, hv⟩ := hrel
    have HB := Lib.hid hbel
    clear hbel
    by_cases hlt : i < a.size
    · by_cases hlt2 : i < b.size
      · have hs := cmp_step hlt hlt2
        have e1 := rb_eq hlt
        have e2 := rb_eq hlt2
        rw [hv] at hs
        have HS := Lib.hid hs
        have hp1 : rb a i < 256 := by rw [← e1]; exact UInt8.toNat_lt _
        have hq1 : rb b i < 256 := by rw [← e2]; exact UInt8.toNat_lt _
        clear hs hv
        generalize rb a i = p at *
        generalize rb b i = q at *
        by_cases hpq : p = q
        · subst hpq
          go_wp2_with fail
          go_quiet (fail)
          go_wp2_with fail
          go_roundg (a.size - (i + 1))
          case measure => omega
          case rel => exact ⟨bdrewN HB.out nq, i + 1, by go_num, rfl, by omega, by omega, by have := HS.out; first | (rw [if_pos rfl] at this; exact this.symm) | (rw [if_pos trivial] at this; exact this.symm)⟩
        · have e0 : ((p : Int) != q) = true := by simp; omega
          go_wp2_with fail
          go_quiet (fail)
          go_wp2_with fail
          go_quiet ((go_at_call 53; exact quiet_add_left (rints_any _ _ _)))
          go_wp2
          go_ret
          exact ⟨ret1 (by have := HS.out; rw [if_neg hpq] at this; rw [this]), bdrewN (bdrewN HB.out _) _⟩
      · have he := cmp_end (fun h => hlt2 h.2) hia hib
        rw [hv] at he
        have HE := Lib.hid he
        clear he hv
        go_wp2_with (go_at_call 53; refine (rints_any _ _ _).mono ?_; rintro e w2 ⟨rfl, rfl⟩)
        go_ret
        exact ⟨ret1 HE.out.symm, HB.out⟩
    · have he := cmp_end (fun h => hlt h.1) hia hib
      rw [hv] at he
      have HE := Lib.hid he
      clear he hv
      go_wp2_with (go_at_call 53; refine (rints_any _ _ _).mono ?_; rintro e w2 ⟨rfl, rfl⟩)
      go_ret
      exact ⟨ret1 HE.out.symm, HB.out⟩

set_option maxRecDepth 100000 in
set_option maxHeartbeats 4000000 in
theorem rcompare_any (x y : Nd) (W : World) (hk : y.k = x.k) (h4 : x.k ≠ 4) (h5 : x.k ≠ 5) (ht : x.t.size ≤ 1099511627776) (ht' : y.t.size ≤ 1099511627776) :
    Calls Tryd.prog 40 #[x.val, y.val] W fun e w' => e = .returned (.int .i64 (cmpV x y)) ∧ Below W.heap.size W w' := by
  have hbel : Below W.heap.size W ((W.alloc (.cells #[.int .i64 x.k, .bool x.b, .int .i64 x.n, .string x.t, .slice x.ka x.kl x.kc, .slice x.la x.ll x.lc] 30)).alloc (.cells #[.int .i64 y.k, .bool y.b, .int .i64 y.n, .string y.t, .slice y.ka y.kl y.kc, .slice y.la y.ll y.lc] 30)) := (ballocR W _).alloc (by simp) _
  obtain ⟨k, b, n, t, ka, kl, kc, la, ll, lc, ks⟩ := x
  obtain ⟨k', b', n', t', ka', kl', kc', la', ll', lc', ks'⟩ := y
  simp only at hk h4 h5 ht ht'
  subst hk
  have hsz := hbel.size
  simp only [Nd.val, cmpV] at *
  have HB := Lib.hid hbel
  have HSZ := Lib.hid hsz
  clear hbel hsz
  by_cases h1 : k' = 1
  · subst h1
    cases b <;> cases b' <;>
    · go_enter Tryd.func40, Tryd.ntmps40
      go_wp2_with fail
      go_ret
      exact ⟨ret1 (by decide), HB.out⟩
  · by_cases h3 : k' = 3
    · subst h3
      have HT : Hid (∀ w, Calls Tryd.prog 55 #[.string t, .string t'] w fun e w' => e = .returned (.int .i64 (compareBytes t.data.toList t'.data.toList)) ∧ Below w.heap.size w w') := fun w => texts_any t t' w ht ht'
      go_enter Tryd.func40, Tryd.ntmps40
      go_wp2_with (go_at_call 55; refine (HT.out _).mono ?_; rintro e w2 ⟨rfl, hb2⟩)
      go_ret
      exact ⟨ret1 (by simp), HB.out.trans (hb2.mono HSZ.out)⟩
    · have e1 : (k' == 1) = false := by simpa using h1
      have e3 : (k' == 3) = false := by simpa using h3
      have e4 : (k' == 4) = false := by simpa using h4
      have e5 : (k' == 5) = false := by simpa using h5
      rw [if_neg h1, if_neg h3]
      go_enter Tryd.func40, Tryd.ntmps40
      go_wp2_with (go_at_call 53; refine (rints_any _ _ _).mono ?_; rintro e w2 ⟨rfl, rfl⟩)
      go_ret
      exact ⟨rfl, HB.out⟩
end Go.Proofs.YtlokoepljmlcgaaDoor
