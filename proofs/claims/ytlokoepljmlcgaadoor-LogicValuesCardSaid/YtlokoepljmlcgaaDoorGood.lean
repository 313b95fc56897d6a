/-
  VALUES IN MEMORY, not too great: Check of them; are all of a list fine?
-/
import Derived.Test.YtlokoepljmlcgaaDoorTrv
namespace Go.Proofs.YtlokoepljmlcgaaDoor
set_option linter.unusedSimpArgs false
set_option linter.unusedVariables false
open Go.RowKit Go.Shelf

theorem Nd.Keys.mono {n₀ n₁ : Nat} {W : World} {x : Nd} (h : x.Keys n₀ W) (hn : n₀ ≤ n₁) : x.Keys n₁ W :=
  ⟨h.1, h.2.elim .inl (fun ⟨b, o, e, hb, hc⟩ => .inr ⟨b, o, e, Nat.lt_of_lt_of_le hb hn, hc⟩)⟩
theorem Fo.At.mono {n₀ n₁ : Nat} {W : World} (hn : n₀ ≤ n₁) : ∀ {b o : Nat} {F : Fo}, Fo.At n₀ W b o F → Fo.At n₁ W b o F
  | _, _, .nil, _ => trivial
  | b, o, .cons x c r, ⟨⟨hb, hx, hk⟩, hc, hr⟩ => by
    refine ⟨⟨Nat.lt_of_lt_of_le hb hn, hx, hk.mono hn⟩, ⟨hc.1, ?_⟩, Fo.At.mono hn hr⟩
    rcases hc.2 with e | ⟨b', o', e, hc'⟩
    · exact .inl e
    · exact .inr ⟨b', o', e, Fo.At.mono hn hc'⟩
theorem Nd.In.mono {n₀ n₁ : Nat} {W : World} {x : Nd} {c : Fo} (h : x.In n₀ W c) (hn : n₀ ≤ n₁) : x.In n₁ W c :=
  ⟨h.1, h.2.elim .inl (fun ⟨b, o, e, h'⟩ => .inr ⟨b, o, e, h'.mono hn⟩)⟩
/-- Of all in a list: their keys lie there; their lists are as long as they say. -/
theorem Fo.At.all {n₀ : Nat} {W : World} : ∀ {b o : Nat} {F : Fo} (d : Nat), Fo.At n₀ W b o F → ∀ e ∈ F.pre d, e.2.1.Keys n₀ W ∧ e.2.1.ll = e.2.2.len
  | _, _, .nil, _, _, e, he => by simp [Fo.pre] at he
  | b, o, .cons x c r, d, ⟨⟨_, _, hk⟩, hc, hr⟩, e, he => by
    simp only [Fo.pre, List.mem_cons, List.mem_append] at he
    rcases he with rfl | he | he
    · exact ⟨hk, hc.1⟩
    · rcases hc.2 with h | ⟨b', o', _, hc'⟩
      · subst h; simp [Fo.pre] at he
      · exact Fo.At.all (d + 1) hc' e he
    · exact Fo.At.all d hr e he
theorem Nd.In.all {n₀ : Nat} {W : World} {x : Nd} {c : Fo} (h : x.In n₀ W c) (hk : x.Keys n₀ W) (d : Nat) : ∀ e ∈ Nd.pre d x c, e.2.1.Keys n₀ W ∧ e.2.1.ll = e.2.2.len := fun e he => by
  simp only [Nd.pre, List.mem_cons] at he
  rcases he with rfl | he
  · exact ⟨hk, h.1⟩
  · rcases h.2 with h | ⟨b', o', _, hc'⟩
    · subst h; simp [Fo.pre] at he
    · exact hc'.all (d + 1) e he
theorem Fo.deep : ∀ (F : Fo) (d : Nat), ∀ e ∈ F.pre d, e.1 ≤ d + (F.pre d).length ∧ e.2.2.len ≤ (F.pre d).length
  | .nil, d, e, he => by simp [Fo.pre] at he
  | .cons x c r, d, e, he => by
    simp only [Fo.pre, List.mem_cons, List.mem_append] at he
    have h1 := Fo.len_le (d + 1) c
    simp only [Fo.pre, List.length_cons, List.length_append]
    rcases he with rfl | he | he
    · exact ⟨by show d ≤ _; omega, by show c.len ≤ _; omega⟩
    · have := Fo.deep c (d + 1) e he; omega
    · have := Fo.deep r d e he; omega

/-- Not too great. -/
def Sized (x : Nd) (c : Fo) : Prop := (Nd.pre 1 x c).length ≤ 1048576 ∧ ∀ e ∈ Nd.pre 1 x c, bytesE e ≤ 1048576 ∧ e.2.1.kl ≤ 1048576
/-- It lies in memory below n₀, and is not too great. -/
structure Good (n₀ : Nat) (W : World) (x : Nd) (c : Fo) : Prop where
  in_ : x.In n₀ W c
  keys : x.Keys n₀ W
  sized : Sized x c
theorem Good.keep {n₀ : Nat} {A B : World} {x : Nd} {c : Fo} (h : Good n₀ A x c) (hc : Cellsy n₀ A B) : Good n₀ B x c := ⟨h.in_.keep hc, h.keys.keep hc, h.sized⟩
theorem Good.mono {n₀ n₁ : Nat} {A : World} {x : Nd} {c : Fo} (h : Good n₀ A x c) (hn : n₀ ≤ n₁) : Good n₁ A x c := ⟨h.in_.mono hn, h.keys.mono hn, h.sized⟩
theorem Good.below {n₀ : Nat} {A B : World} {x : Nd} {c : Fo} (h : Good n₀ A x c) (hn : n₀ ≤ A.heap.size) (hb : Below A.heap.size A B) : Good n₀ B x c := h.keep (Cellsy.of_below (hb.mono hn))
theorem sum_mem {l : List Nat} {a : Nat} (h : a ∈ l) : a ≤ l.sum := by
  induction l with
  | nil => cases h
  | cons b r ih =>
    rw [List.sum_cons]
    rcases List.mem_cons.1 h with rfl | h
    · omega
    · have := ih h; omega

theorem check_good {n₀ : Nat} {x : Nd} {c : Fo} {W : World} (h : Good n₀ W x c) (hn : n₀ ≤ W.heap.size) (hT : Lib.Utf8Tabs 0 1 W) :
    Calls Tryd.prog 34 #[x.val] W fun e w' => e = .returned (.int .i64 (checkV x c)) ∧ Below W.heap.size W w' := by
  have hall := (h.in_.mono hn).all (h.keys.mono hn) 1
  refine check_any x c W hT (h.in_.mono hn) (fun e he => (hall e he).1) (by have := h.sized.1; omega) 1048576 (fun e he => (h.sized.2 e he).1) ?_ (fun e he => ?_)
  · have h1 : (Nd.pre 1 x c).length * 1048576 ≤ 1048576 * 1048576 := Nat.mul_le_mul_right _ h.sized.1
    omega
  · have h1 := h.sized.2 e he
    have h2 := (hall e he).2
    have h3 := h.sized.1
    have h4 : e.1 ≤ 1 + (Nd.pre 1 x c).length ∧ e.2.2.len ≤ (Nd.pre 1 x c).length := by
      have := Fo.deep (.cons x c .nil) 1 e (by simpa [Fo.pre, Nd.pre] using he)
      simpa [Fo.pre, Nd.pre] using this
    unfold bytesE at h1
    refine ⟨by omega, by omega, fun s hs => ?_, by omega, by rw [h2]; omega⟩
    have := sum_mem (List.mem_map.2 ⟨s, hs, rfl⟩ : s.size ∈ e.2.1.ks.map (·.size))
    omega

set_option maxRecDepth 100000 in
theorem fineA_any {n₀ : Nat} {x : Nd} {c : Fo} {W : World} (h : Good n₀ W x c) (hn : n₀ ≤ W.heap.size) (hT : Lib.Utf8Tabs 0 1 W) :
    Calls Tryd.prog 62 #[x.val] W fun e w' => e = .returned (.bool (checkV x c != 0)) ∧ Below W.heap.size W w' := by
  have hb := ballocR W (.cells #[.int .i64 x.k, .bool x.b, .int .i64 x.n, .string x.t, .slice x.ka x.kl x.kc, .slice x.la x.ll x.lc] 30)
  have hC := Lib.hid (check_good (h.below hn hb) (Nat.le_trans hn hb.size) (Utf8Tabs_below hT hb))
  clear h
  obtain ⟨k, b, n, t, ka, kl, kc, la, ll, lc, ks⟩ := x
  simp only [Nd.val] at hC hb ⊢
  go_enter Tryd.func62, Tryd.ntmps62
  go_wp2_with (go_at_call 34; refine hC.out.mono ?_; rintro e w2 ⟨rfl, hb2⟩)
  go_ret
  exact ⟨retB (by simp), hb.trans (hb2.mono (by simp))⟩

/-- A list's values, one by one. -/
def Fo.toL : Fo → List (Nd × Fo)
  | .nil => []
  | .cons x c r => (x, c) :: r.toL
theorem Fo.len_toL : ∀ F : Fo, F.toL.length = F.len
  | .nil => rfl
  | .cons x c r => by simp [Fo.toL, Fo.len, Fo.len_toL r]
theorem Fo.At.get {n₀ : Nat} {W : World} : ∀ {b o : Nat} {F : Fo}, Fo.At n₀ W b o F → ∀ {i : Nat} {x : Nd} {c : Fo}, F.toL[i]? = some (x, c) → b < n₀ ∧ x.Cells W b (o + i * 6) ∧ x.Keys n₀ W ∧ x.In n₀ W c
  | _, _, .nil, _, i, x, c, h => by simp [Fo.toL] at h
  | b, o, .cons y d r, ⟨⟨hb, hx, hk⟩, hc, hr⟩, i, x, c, h => by
    cases i with
    | zero =>
      simp only [Fo.toL, List.getElem?_cons_zero, Option.some.injEq, Prod.mk.injEq] at h
      obtain ⟨rfl, rfl⟩ := h
      exact ⟨hb, by simpa using hx, hk, hc⟩
    | succ i =>
      simp only [Fo.toL, List.getElem?_cons_succ] at h
      have := hr.get h
      rw [show o + 6 + i * 6 = o + (i + 1) * 6 by omega] at this
      exact this
def fineF (F : Fo) : Bool := F.toL.all fun p => checkV p.1 p.2 == 0
/-- A slice of values that lie below n₀ and are not too great. -/
structure Vals (n₀ : Nat) (W : World) (a : Option Addr) (F : Fo) : Prop where
  at_ : F = .nil ∨ ∃ b o, a = some ⟨b, o, none⟩ ∧ F.At n₀ W b o
  sized : ∀ p ∈ F.toL, Sized p.1 p.2
  len : F.len ≤ 1048576
theorem Vals.keep {n₀ : Nat} {A B : World} {a : Option Addr} {F : Fo} (h : Vals n₀ A a F) (hc : Cellsy n₀ A B) : Vals n₀ B a F := ⟨h.at_.imp id (fun ⟨b, o, e, h'⟩ => ⟨b, o, e, h'.keep hc⟩), h.sized, h.len⟩
theorem Vals.below {n₀ : Nat} {A B : World} {a : Option Addr} {F : Fo} (h : Vals n₀ A a F) (hn : n₀ ≤ A.heap.size) (hb : Below A.heap.size A B) : Vals n₀ B a F := h.keep (Cellsy.of_below (hb.mono hn))
theorem Vals.get {n₀ : Nat} {W : World} {a : Option Addr} {F : Fo} (h : Vals n₀ W a F) {i : Nat} (hi : i < F.len) : ∃ x c b o, F.toL[i]? = some (x, c) ∧ a = some ⟨b, o, none⟩ ∧ x.Cells W b (o + i * 6) ∧ Good n₀ W x c := by
  obtain ⟨⟨x, c⟩, hp⟩ : ∃ p, F.toL[i]? = some p := ⟨_, List.getElem?_eq_getElem (by rw [Fo.len_toL]; exact hi)⟩
  rcases h.at_ with rfl | ⟨b, o, ha, hat⟩
  · simp [Fo.len] at hi
  · have g := hat.get hp
    exact ⟨x, c, b, o, hp, ha, g.2.1, ⟨g.2.2.2, g.2.2.1, h.sized _ (List.mem_of_getElem? hp)⟩⟩

/-- The first that is not fine; -1: none. -/
def IdxR (F : Fo) (W : World) (e : Ending) (w' : World) : Prop := ∃ r : Int, e = .returned (.int .i64 r) ∧ decide (0 ≤ r) = !fineF F ∧ Below W.heap.size W w'

set_option maxRecDepth 100000 in
set_option maxHeartbeats 4000000 in
theorem index_any {n₀ : Nat} {a : Option Addr} {F : Fo} {W : World} (n cap : Nat) (h : Vals n₀ W a F) (hlen : n = F.len) (hn : n₀ ≤ W.heap.size) (hT : Lib.Utf8Tabs 0 1 W) :
    Calls Tryd.prog 68 #[.slice a n cap, .func (.func 62) #[] #[]] W (IdxR F W) := by
  have HV := Lib.hid h
  have HT := Lib.hid hT
  have HL := Lib.hid hlen
  have hm : n ≤ 1048576 := by rw [hlen]; exact h.len
  clear h hT hlen
  go_enter Tryd.func68, Tryd.ntmps68
  go_wp2
  go_loopg [8] n (fun gk s0 wx => ∃ i : Nat, s0 = .int .i64 i ∧ gk = n - i ∧ i ≤ n ∧ Below W.heap.size W wx ∧ ∀ j p, j < i → F.toL[j]? = some p → checkV p.1 p.2 = 0)
  case atStart => exact ⟨0, rfl, rfl, Nat.zero_le _, Below.refl _ _, fun j p hj => absurd hj (Nat.not_lt_zero j)⟩
  case round =>
    obtain ⟨i, rfl, rfl, hi, hb, hok⟩ := hrel
    have HO := Lib.hid hok
    clear hok
    by_cases hlt : i < n
    · obtain ⟨x, c, b, o, hp, rfl, hcs, hg⟩ := (HV.out.below hn hb).get (i := i) (by rw [← HL.out]; exact hlt)
      have hC := Lib.hid (fineA_any hg (Nat.le_trans hn hb.size) (Utf8Tabs_below HT.out hb))
      have HP := Lib.hid hp
      clear hp hg
      obtain ⟨xk, xb, xn, xt, xka, xkl, xkc, xla, xll, xlc, xks⟩ := x
      obtain ⟨c0, c1, c2, c3, c4, c5⟩ := hcs
      simp only at c0 c1 c2 c3 c4 c5
      simp only [Nd.val] at hC
      cases hz : (checkV ⟨xk, xb, xn, xt, xka, xkl, xkc, xla, xll, xlc, xks⟩ c != 0) with
      | true =>
        rw [hz] at hC
        have hzz := Lib.hid hz
        clear hz
        go_wp2_with (go_at_call 62; refine hC.out.mono ?_; rintro e w2 ⟨rfl, hb2⟩)
        go_ret
        refine ⟨i, rfl, ?_, hb.trans (hb2.mono hb.size)⟩
        have h1 : fineF F = false := by
          unfold fineF
          rw [List.all_eq_false]
          exact ⟨_, List.mem_of_getElem? HP.out, by have := hzz.out; simpa using this⟩
        rw [h1]; simp
      | false =>
        rw [hz] at hC
        have hzz := Lib.hid hz
        clear hz
        go_wp2_with (go_at_call 62; refine hC.out.mono ?_; rintro e w2 ⟨rfl, hb2⟩)
        go_roundg (n - (i + 1))
        case measure => omega
        case rel =>
          refine ⟨i + 1, by go_num, rfl, by omega, hb.trans (hb2.mono hb.size), fun j p hj hpj => ?_⟩
          rcases Nat.lt_or_ge j i with h | h
          · exact HO.out j p h hpj
          · obtain rfl : j = i := by omega
            rw [HP.out] at hpj
            cases hpj
            have := hzz.out
            simpa using this
    · have hin : i = n := by omega
      subst hin
      go_wp2
      go_ret
      refine ⟨-1, rfl, ?_, hb⟩
      have h1 : fineF F = true := by
        unfold fineF
        rw [List.all_eq_true]
        intro p hp
        obtain ⟨j, hj⟩ := List.getElem?_of_mem hp
        have hjl : j < F.toL.length := (List.getElem?_eq_some_iff.1 hj).1
        rw [Fo.len_toL] at hjl
        have := HO.out j p (by have := HL.out; omega) hj
        simp [this]
      rw [h1]; simp

set_option maxRecDepth 100000 in
theorem contains_any {n₀ : Nat} {a : Option Addr} {F : Fo} {W : World} (n cap : Nat) (h : Vals n₀ W a F) (hlen : n = F.len) (hn : n₀ ≤ W.heap.size) (hT : Lib.Utf8Tabs 0 1 W) :
    Calls Tryd.prog 61 #[.slice a n cap, .func (.func 62) #[] #[]] W fun e w' => e = .returned (.bool (!fineF F)) ∧ Below W.heap.size W w' := by
  have HI := Lib.hid (index_any n cap h hlen hn hT)
  clear h hT hlen
  go_enter Tryd.func61, Tryd.ntmps61
  go_wp2_with (go_at_call 68; refine HI.out.mono ?_; rintro e w2 ⟨r, rfl, hr, hb⟩; have HR := Lib.hid hr; clear hr)
  go_ret
  exact ⟨retB HR.out, hb⟩
set_option maxRecDepth 100000 in
theorem fine_any {n₀ : Nat} {a : Option Addr} {F : Fo} {W : World} (n cap : Nat) (h : Vals n₀ W a F) (hlen : n = F.len) (hn : n₀ ≤ W.heap.size) (hT : Lib.Utf8Tabs 0 1 W) :
    Calls Tryd.prog 49 #[.slice a n cap] W fun e w' => e = .returned (.bool (fineF F)) ∧ Below W.heap.size W w' := by
  have HI := Lib.hid (contains_any n cap h hlen hn hT)
  clear h hT hlen
  go_enter Tryd.func49, Tryd.ntmps49
  go_wp2_with (go_at_call 61; refine HI.out.mono ?_; rintro e w2 ⟨rfl, hb⟩)
  go_ret
  exact ⟨retB (by simp), hb⟩
end Go.Proofs.YtlokoepljmlcgaaDoor
