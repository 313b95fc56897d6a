/-
  THE WALK OF value.may: whether a value alone may be: its contract.
-/
import Derived.Test.YtlokoepljmlcgaaDoorMay
import Derived.Deep.LoopGhost
namespace Go.Proofs.YtlokoepljmlcgaaDoor
set_option linter.unusedSimpArgs false
set_option linter.unusedVariables false
open Go.RowKit Go.Shelf

/-- Is a key UTF-8, and behind the one before it? -/
def okAt (ks : List ByteArray) (j : Nat) : Bool := Lib.validD (ks[j]?.getD ⟨#[]⟩).data.toList && (j == 0 || Op.bytesLess (ks[j - 1]?.getD ⟨#[]⟩).toList (ks[j]?.getD ⟨#[]⟩).toList)
def keysOK (ks : List ByteArray) : Bool := (List.range ks.length).all (okAt ks)
theorem keysOK_no {ks : List ByteArray} {i : Nat} (hi : i < ks.length) (h : okAt ks i = false) : keysOK ks = false := by
  unfold keysOK
  rw [List.all_eq_false]
  exact ⟨i, by simpa using hi, by simp [h]⟩
theorem okAt_zero {ks : List ByteArray} {s : ByteArray} (hs : ks[0]? = some s) : okAt ks 0 = Lib.validD s.data.toList := by simp [okAt, hs]
theorem okAt_succ {ks : List ByteArray} {j : Nat} {s q : ByteArray} (hs : ks[j + 1]? = some s) (hq : ks[j]? = some q) : okAt ks (j + 1) = (Lib.validD s.data.toList && Op.bytesLess q.toList s.toList) := by simp [okAt, hs, hq]
/-- May a value alone be? -/
def mayB (x : Nd) : Bool := bareB x && Lib.validD x.t.data.toList && !(decide (x.k = 5) && decide (x.kl ≠ x.ll)) && keysOK x.ks

/-- What is known while a value alone is looked at. -/
structure MayW (n₀ : Nat) (W : World) (x : Nd) (w : World) : Prop where
  c0 : w.cell? ⟨W.heap.size, 0, none⟩ = some (.int .i64 x.k)
  c3 : w.cell? ⟨W.heap.size, 3, none⟩ = some (.string x.t)
  c4 : w.cell? ⟨W.heap.size, 4, none⟩ = some (.slice x.ka x.kl x.kc)
  c5 : w.cell? ⟨W.heap.size, 5, none⟩ = some (.slice x.la x.ll x.lc)
  keys : x.Keys n₀ w
  tabs : Lib.Utf8Tabs 0 1 w
  below : Below W.heap.size W w
  lt : W.heap.size < w.heap.size
theorem MayW.next {n₀ : Nat} {W : World} {x : Nd} {w w' : World} (h : MayW n₀ W x w) (hn : n₀ ≤ W.heap.size) (hb : Below w.heap.size w w') : MayW n₀ W x w' where
  c0 := (hb.cell (p := ⟨W.heap.size, 0, none⟩) h.lt).trans h.c0
  c3 := (hb.cell (p := ⟨W.heap.size, 3, none⟩) h.lt).trans h.c3
  c4 := (hb.cell (p := ⟨W.heap.size, 4, none⟩) h.lt).trans h.c4
  c5 := (hb.cell (p := ⟨W.heap.size, 5, none⟩) h.lt).trans h.c5
  keys := h.keys.keep (Cellsy.of_below (hb.mono (Nat.le_trans hn (Nat.le_of_lt h.lt))))
  tabs := Utf8Tabs_below h.tabs hb
  below := h.below.trans (hb.mono (Nat.le_of_lt h.lt))
  lt := Nat.lt_of_lt_of_le h.lt hb.size
theorem MayW.key {n₀ : Nat} {W : World} {x : Nd} {w : World} (h : MayW n₀ W x w) {b' o' i : Nat} {q : ByteArray} (ha : x.ka = some ⟨b', o', none⟩) (hq : x.ks[i]? = some q) : w.cell? ⟨b', o' + i, none⟩ = some (.string q) := by
  rcases h.keys.2 with e | ⟨b2, o2, he, _, h2⟩
  · rw [e] at hq; simp at hq
  · rw [ha] at he
    simp only [Option.some.injEq, Addr.mk.injEq, and_true] at he
    obtain ⟨rfl, rfl⟩ := he
    exact h2 i q hq
theorem MayW.new {n₀ : Nat} {W : World} {x : Nd} (hn : n₀ ≤ W.heap.size) (hk : x.Keys n₀ W) (hT : Lib.Utf8Tabs 0 1 W) :
    MayW n₀ W x (W.alloc (.cells #[.int .i64 x.k, .bool x.b, .int .i64 x.n, .string x.t, .slice x.ka x.kl x.kc, .slice x.la x.ll x.lc] 30)) :=
  have c := cells_new x W
  { c0 := c.1, c3 := c.2.2.2.1, c4 := c.2.2.2.2.1, c5 := c.2.2.2.2.2, keys := hk.keep (Cellsy.of_below ((ballocR W _).mono hn)), tabs := Utf8Tabs_below hT (ballocR W _), below := ballocR W _, lt := by simp }

set_option maxRecDepth 100000 in
set_option maxHeartbeats 4000000 in
theorem may_any (n₀ : Nat) (x : Nd) (W : World) (hn : n₀ ≤ W.heap.size) (hK : x.Keys n₀ W) (hT : Lib.Utf8Tabs 0 1 W) (ht : x.t.size ≤ 1099511627776) (hks : ∀ s ∈ x.ks, s.size ≤ 1099511627776) (hkl : x.kl ≤ 1099511627776) :
    Calls Tryd.prog 48 #[x.val] W fun e w' => e = .returned (.bool (mayB x)) ∧ Below W.heap.size W w' := by
  have hN := MayW.new hn hK hT
  have hB := (bare_any x (W.alloc (.cells #[.int .i64 x.k, .bool x.b, .int .i64 x.n, .string x.t, .slice x.ka x.kl x.kc, .slice x.la x.ll x.lc] 30))).mono (R' := fun e w' => e = .returned (.bool (bareB x)) ∧ MayW n₀ W x w') (fun e w' h => ⟨h.1, hN.next hn h.2⟩)
  have hV : ∀ w', MayW n₀ W x w' → Calls Tryd.prog 60 #[.string x.t] w' fun e w'' => e = .returned (.bool (Lib.validD x.t.data.toList)) ∧ MayW n₀ W x w'' := fun w' M => (valid_any x.t w' (by omega) M.tabs).mono (fun e w'' h => ⟨h.1, M.next hn h.2⟩)
  have HV := Lib.hid hV
  have HB := Lib.hid hB
  clear hV hB hN hK hT
  obtain ⟨k, b, n, t, ka, kl, kc, la, ll, lc, ks⟩ := x
  simp only [Nd.val, mayB] at *
  by_cases hbare : bareB ⟨k, b, n, t, ka, kl, kc, la, ll, lc, ks⟩ = true
  · rw [hbare] at HB ⊢
    by_cases hval : Lib.validD t.data.toList = true
    · rw [hval] at HV ⊢
      by_cases hmap : (decide (k = 5) && decide (kl ≠ ll)) = true
      · rw [hmap]
        obtain ⟨rfl, hne⟩ : k = 5 ∧ kl ≠ ll := by simpa using hmap
        go_enter Tryd.func48, Tryd.ntmps48
        go_wp2_with (first
          | (go_at_call 59; refine HB.out.mono ?_; rintro e w1 ⟨rfl, M⟩; have m0 := M.c0; have m3 := M.c3; have m4 := M.c4; have m5 := M.c5)
          | (go_at_call 60; refine (HV.out _ M).mono ?_; clear m0 m3 m4 m5; rintro e w2 ⟨rfl, M2⟩; have m0 := M2.c0; have m3 := M2.c3; have m4 := M2.c4; have m5 := M2.c5))
        go_ret
        exact ⟨rfl, M2.below⟩
      · rw [show (decide (k = 5) && decide (kl ≠ ll)) = false by simpa using hmap]
        have hcase : (k = 5 ∧ kl = ll) ∨ k ≠ 5 := by simp at hmap; omega
        rcases hcase with ⟨rfl, rfl⟩ | h5
        all_goals
          clear hmap
          go_enter Tryd.func48, Tryd.ntmps48
          go_wp2_with (first
            | (go_at_call 59; refine HB.out.mono ?_; rintro e w1 ⟨rfl, M⟩; have m0 := M.c0; have m3 := M.c3; have m4 := M.c4; have m5 := M.c5)
            | (go_at_call 60; refine (HV.out _ M).mono ?_; clear m0 m3 m4 m5; rintro e w2 ⟨rfl, M2⟩; have m0 := M2.c0; have m3 := M2.c3; have m4 := M2.c4; have m5 := M2.c5))
          clear m0 m3 m4 m5
          go_loopg [31] kl (fun gk s0 wx => ∃ i : Nat, s0 = .int .i64 i ∧ gk = kl - i ∧ i ≤ kl ∧ MayW n₀ W _ wx ∧ ∀ j, j < i → okAt ks j = true)
          case atStart => exact ⟨0, rfl, by omega, by omega, M2, fun j h => absurd h (Nat.not_lt_zero j)⟩
          case round =>
            obtain ⟨i, rfl, rfl, hi, M3, hok⟩ := hrel
            have m4 := M3.c4
            have hlen := M3.keys.1
            simp only at m4 hlen
            by_cases hlt : i < kl
            · obtain ⟨s, hs⟩ : ∃ s, ks[i]? = some s := ⟨ks[i]'(by omega), List.getElem?_eq_getElem (by omega)⟩
              obtain ⟨b', o', rfl, hb', hcs⟩ := M3.keys.2.resolve_left (by intro h; simp only at h; subst h; simp at hs)
              have hci := hcs i s hs
              have HVs := Lib.hid ((valid_any s wr (by have := hks s (List.mem_of_getElem? hs); omega) M3.tabs).mono (fun e w'' h => ⟨h.1, M3.next hn h.2⟩) (R' := fun e w'' => e = .returned (.bool (Lib.validD s.data.toList)) ∧ MayW n₀ W _ w''))
              have HO := Lib.hid hok
              have HL := Lib.hid hlen
              clear hok hlen
              by_cases hv : Lib.validD s.data.toList = true
              · rw [hv] at HVs
                cases i with
                | zero =>
                  have HS := Lib.hid hs
                  clear hs hcs
                  simp only [Nat.add_zero] at hci
                  go_wp2_with (go_at_call 60; refine HVs.out.mono ?_; rintro e w4 ⟨rfl, M4⟩)
                  go_roundg (kl - 1)
                  case rel => exact ⟨1, by go_num, rfl, by omega, M4, fun j hj => by obtain rfl : j = 0 := by omega
                                                                                     rw [okAt_zero HS.out, hv]⟩
                  case measure => omega
                | succ i =>
                  obtain ⟨q, hq⟩ : ∃ q, ks[i]? = some q := ⟨ks[i]'(by have := HL.out; omega), List.getElem?_eq_getElem (by have := HL.out; omega)⟩
                  have HS := Lib.hid hs
                  have HQ := Lib.hid hq
                  have HC := Lib.hid hcs
                  clear hs hq hcs
                  cases hless : Op.bytesLess q.toList s.toList with
                  | true =>
                    go_wp2_with (go_at_call 60; refine HVs.out.mono ?_; rintro e w4 ⟨rfl, M4⟩; have m6 := M4.c4; have m7 := M4.key (b' := b') (o' := o') rfl HQ.out)
                    go_roundg (kl - (i + 1 + 1))
                    case rel => exact ⟨i + 1 + 1, by go_num, rfl, by omega, M4, fun j hj => by
                      rcases Nat.lt_or_ge j (i + 1) with h | h
                      · exact HO.out j h
                      · obtain rfl : j = i + 1 := by omega
                        rw [okAt_succ HS.out HQ.out, hv, hless]; rfl⟩
                    case measure => omega
                  | false =>
                    go_wp2_with (go_at_call 60; refine HVs.out.mono ?_; rintro e w4 ⟨rfl, M4⟩; have m6 := M4.c4; have m7 := M4.key (b' := b') (o' := o') rfl HQ.out)
                    go_ret
                    exact ⟨retB (by rw [keysOK_no (i := i + 1) (by have := HL.out; omega) (by rw [okAt_succ HS.out HQ.out, hless]; simp)]; simp), M4.below⟩
              · rw [show Lib.validD s.data.toList = false by simpa using hv] at HVs
                have HS := Lib.hid hs
                have HC := Lib.hid hcs
                clear hs hcs
                go_wp2_with (go_at_call 60; refine HVs.out.mono ?_; rintro e w4 ⟨rfl, M4⟩; have m6 := M4.c4)
                go_ret
                exact ⟨retB (by rw [keysOK_no (i := i) (by have := HL.out; omega) (by simp [okAt, HS.out, hv])]; simp), M4.below⟩
            · obtain rfl : i = kl := by omega
              go_wp2
              go_ret
              exact ⟨retB (by simp [keysOK]; intro j hj; exact hok j (by omega)), M3.below⟩
    · rw [show Lib.validD t.data.toList = false by simpa using hval] at HV ⊢
      go_enter Tryd.func48, Tryd.ntmps48
      go_wp2_with (first
        | (go_at_call 59; refine HB.out.mono ?_; rintro e w1 ⟨rfl, M⟩; have m0 := M.c0; have m3 := M.c3; have m4 := M.c4; have m5 := M.c5)
        | (go_at_call 60; refine (HV.out _ M).mono ?_; clear m0 m3 m4 m5; rintro e w2 ⟨rfl, M2⟩; have m0 := M2.c0; have m3 := M2.c3; have m4 := M2.c4; have m5 := M2.c5))
      go_ret
      exact ⟨rfl, M2.below⟩
  · rw [show bareB ⟨k, b, n, t, ka, kl, kc, la, ll, lc, ks⟩ = false by simpa using hbare] at HB ⊢
    go_enter Tryd.func48, Tryd.ntmps48
    go_wp2_with (first
      | (go_at_call 59; refine HB.out.mono ?_; rintro e w1 ⟨rfl, M⟩; have m0 := M.c0; have m3 := M.c3; have m4 := M.c4; have m5 := M.c5)
      | (go_at_call 60; refine (HV.out _ M).mono ?_; clear m0 m3 m4 m5; rintro e w2 ⟨rfl, M2⟩; have m0 := M2.c0; have m3 := M2.c3; have m4 := M2.c4; have m5 := M2.c5))
    go_ret
    exact ⟨rfl, M.below⟩
end Go.Proofs.YtlokoepljmlcgaaDoor
