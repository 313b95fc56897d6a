/-
  WALKS: In: is a value among others? Over whatever two values' Equal answers.
-/
import Derived.Test.YtlokoepljmlcgaaDoorEqs
namespace Go.Proofs.YtlokoepljmlcgaaDoor
set_option linter.unusedSimpArgs false
set_option linter.unusedVariables false
open Go.RowKit Go.Shelf

def inF (eqf : Nd → Fo → Int) (l : List (Nd × Fo)) : Int := l.foldl (fun o p => mx (mx 0 (pl o)) (pl (eqf p.1 p.2))) 0
theorem inF_snoc (eqf : Nd → Fo → Int) (l : List (Nd × Fo)) (p : Nd × Fo) : inF eqf (l ++ [p]) = mx (mx 0 (pl (inF eqf l))) (pl (eqf p.1 p.2)) := by simp [inF]
theorem or2h (x y : Int) (b : Nat) (w : World) (hb : b = w.heap.size) : Calls Tryd.prog 8 #[.slice (some ⟨b, 0, none⟩) 2 2] (w.alloc (.cells #[.int .i64 x, .int .i64 y] 23)) fun e w' => e = .returned (.int .i64 (mx (mx 0 (pl x)) (pl y))) ∧ (w.alloc (.cells #[.int .i64 x, .int .i64 y] 23)) = w' := or2 x y b w hb

set_option maxRecDepth 100000 in
set_option maxHeartbeats 4000000 in
theorem in_any {n₀ : Nat} {a : Option Addr} {F : Fo} {W : World} (v : Nd) (n cap : Nat) (h : Vals n₀ W a F) (hlen : n = F.len) (hn : n₀ ≤ W.heap.size) (eqf : Nd → Fo → Int)
    (hEq : ∀ x c W', (x, c) ∈ F.toL → Good n₀ W' x c → Below W.heap.size W W' → Calls Tryd.prog 36 #[v.val, x.val] W' fun e w' => e = .returned (.int .i64 (eqf x c)) ∧ Below W'.heap.size W' w') :
    Calls Tryd.prog 23 #[v.val, .slice a n cap] W fun e w' => e = .returned (.int .i64 (inF eqf F.toL)) ∧ Below W.heap.size W w' := by
  have hS := Six.new W v 30
  have hb0 := ballocR W (.cells #[.int .i64 v.k, .bool v.b, .int .i64 v.n, .string v.t, .slice v.ka v.kl v.kc, .slice v.la v.ll v.lc] 30)
  have HV := Lib.hid h
  have HL := Lib.hid hlen
  have HE := Lib.hid hEq
  have hm : n ≤ 1048576 := by rw [hlen]; exact h.len
  clear h hlen hEq
  obtain ⟨vk, vb, vn, vt, vka, vkl, vkc, vla, vll, vlc, vks⟩ := v
  simp only [Nd.val] at hS hb0 HE ⊢
  have HS0 := Lib.hid hS
  clear hS
  go_enter Tryd.func23, Tryd.ntmps23
  go_wp2
  go_loopg [5, 10] n (fun gk t0 s0 wx => ∃ i : Nat, t0 = .int .i64 (inF eqf (F.toL.take i)) ∧ s0 = .int .i64 i ∧ gk = n - i ∧ i ≤ n ∧ Below W.heap.size W wx ∧ Six wx W.heap.size ⟨vk, vb, vn, vt, vka, vkl, vkc, vla, vll, vlc, vks⟩ 30)
  case atStart => exact ⟨0, by simp [inF], rfl, rfl, Nat.zero_le _, hb0, HS0.out⟩
  case round =>
    obtain ⟨i, rfl, rfl, rfl, hi, hb, hsx⟩ := hrel
    by_cases hlt : i < n
    · obtain ⟨x, c, b, o, hp, rfl, hcs, hg⟩ := (HV.out.below hn hb).get (i := i) (by rw [← HL.out]; exact hlt)
      have hbx := ballocR wr (.cells #[.int .i64 x.k, .bool x.b, .int .i64 x.n, .string x.t, .slice x.ka x.kl x.kc, .slice x.la x.ll x.lc] 30)
      have hC := Lib.hid (HE.out x c _ (List.mem_of_getElem? hp) (hg.below (Nat.le_trans hn hb.size) hbx) (hb.trans (hbx.mono hb.size)))
      have HP : Hid (inF eqf (F.toL.take (i + 1)) = mx (mx 0 (pl (inF eqf (F.toL.take i)))) (pl (eqf x c))) := by
        have ht : F.toL.take (i + 1) = F.toL.take i ++ [(x, c)] := by rw [List.take_add_one, hp]; rfl
        unfold Hid
        rw [ht, inF_snoc]
      have hsx2 := Six.next hsx hbx
      have HSX := Lib.hid hsx2
      have HSO := Lib.hid hsx
      clear hp hg hsx hsx2
      obtain ⟨v0, v1, v2, v3, v4, v5⟩ := HSX.out.cells
      simp only [Nat.zero_add] at v0 v1 v2 v3 v4 v5
      generalize inF eqf (F.toL.take i) = T at *
      obtain ⟨xk, xb, xn, xt, xka, xkl, xkc, xla, xll, xlc, xks⟩ := x
      obtain ⟨c0, c1, c2, c3, c4, c5⟩ := hcs
      simp only at c0 c1 c2 c3 c4 c5
      simp only [Nd.val] at hC
      generalize eqf _ c = E at *
      go_wp2_with (first
        | (go_at_call 36; refine hC.out.mono ?_; rintro e w2 ⟨rfl, hb2⟩)
        | (go_at_call 8; refine (or2h _ _ _ _ rfl).mono ?_; rintro e w3 ⟨rfl, rfl⟩))
      go_roundg (n - (i + 1))
      case measure => omega
      case rel =>
        have hbz := (hbx.trans (hb2.mono hbx.size)).trans ((ballocR w2 (.cells #[.int .i64 T, .int .i64 E] 23)).mono (by have := hb2.size; have := hbx.size; omega))
        exact ⟨i + 1, by rw [HP.out], by go_num, rfl, by omega, hb.trans (hbz.mono hb.size), HSO.out.next hbz⟩
    · have hin : i = n := by omega
      subst hin
      go_wp2
      go_ret
      exact ⟨ret1 (by rw [List.take_of_length_le (by rw [Fo.len_toL, ← HL.out]; omega)]), hb⟩
end Go.Proofs.YtlokoepljmlcgaaDoor
