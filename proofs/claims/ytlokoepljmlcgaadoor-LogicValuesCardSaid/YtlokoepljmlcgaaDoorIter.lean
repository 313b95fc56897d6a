/-
  THE WALK OF value.all: an iterator over a value and all in it, with how deep each lies: what its iterator promises.
-/
import Derived.Test.YtlokoepljmlcgaaDoorAll
import Derived.Laws.EntriesVeiled
namespace Go.Proofs.YtlokoepljmlcgaaDoor
set_option linter.unusedSimpArgs false
set_option linter.unusedVariables false
open Go.RowKit Go.Shelf
attribute [local go_sem] Oper.semAt_some

theorem goes_all {α : Type} (F : Fence) (hd : F.depth = none) (h58 : F.fn 58) (hro : F.round = none) (l n₀ n₁ N yb gb : Nat) (encs : α → Array Value) (J Jx : List α → World → Prop)
    (hN : N ≤ 1099511627776) (hyb : n₁ ≤ yb) (hgb : n₁ ≤ gb)
    (hJ : ∀ s A B, J s A → A.grownBy B none → J s B)
    (hY : ∀ m pre x W, J pre W → pre.length < N → YieldAt F m Tryd.prog l (encs x) W fun e W' =>
      (e = .returned (.bool true) ∧ J (pre ++ [x]) W' ∧ Kb n₀ n₁ W W') ∨ (e = .returned (.bool false) ∧ Jx (pre ++ [x]) W')) : ∀ c : Fo, GoesAll F n₀ n₁ N yb gb l encs J Jx c
  | .nil => trivial
  | .cons x c r => ⟨goes_step F hd h58 hro l n₀ n₁ N yb gb encs J Jx hN hyb hgb hJ hY x c (goes_all F hd h58 hro l n₀ n₁ N yb gb encs J Jx hN hyb hgb hJ hY c), goes_all F hd h58 hro l n₀ n₁ N yb gb encs J Jx hN hyb hgb hJ hY r⟩

theorem room_of_none {F : Fence} (hd : F.depth = none) (k : Nat) : F.room k := fun d h => by rw [hd] at h; cases h
theorem YieldAt.anyDepth {F : Fence} (hd : F.depth = none) {m : Nat} (m' : Nat) {P : Program} {l : Nat} {args : Array Value} {W : World} {R : Ending → World → Prop} (h : YieldAt F m P l args W R) : YieldAt F m' P l args W R := by
  obtain ⟨fn, tmps, assign, body, hy, hR⟩ := h
  exact ⟨fn, tmps, assign, body, hy, hR.1, fun c cs _ => hR.2 c cs (room_of_none hd _)⟩

/-- A store into a block that is new turns nothing that lay. -/
theorem grown_set {A B : World} (h : A.grownBy B none) (p : Addr) (v : Value) (hp : A.heap.size ≤ p.block) : A.grownBy (B.setCell p v) none :=
  ⟨h.1, h.2, h.3, by have := h.size; have := (KeepsWalks.setCell B p v).size; omega, fun k hk hn => (Below.heap_setCell B p v k (by omega)).trans (h.block k hk hn)⟩
theorem grown_trans {A B C : World} (h : A.grownBy B none) (k : B.grownBy C none) : A.grownBy C none :=
  ⟨k.1.trans h.1, k.2.trans h.2, k.3.trans h.3, Nat.le_trans h.size k.size, fun i hi hn => (k.block i (Nat.lt_of_lt_of_le hi h.size) hn).trans (h.block i hi hn)⟩

set_option maxRecDepth 100000 in
set_option maxHeartbeats 2000000 in
/-- The iterator. -/
theorem iter_in {α : Type} (F : Fence) (hd : F.depth = none) (h57 : F.fn 57) (h58 : F.fn 58) (hro : F.round = none) (n l n₀ n₁ Bv : Nat) (encs : α → Array Value) (J Jx : List α → World → Prop) (x : Nd) (c : Fo) (ys : List α)
    (hN : ys.length ≤ 1099511627776) (hys : ys.map encs = (Nd.pre 1 x c).map encV)
    (hJ : ∀ s A B, J s A → A.grownBy B none → J s B)
    (hY : ∀ m pre x W, J pre W → pre.length < ys.length → YieldAt F m Tryd.prog l (encs x) W fun e W' =>
      (e = .returned (.bool true) ∧ J (pre ++ [x]) W' ∧ Kb n₀ n₁ W W') ∨ (e = .returned (.bool false) ∧ Jx (pre ++ [x]) W'))
    (W : World) (hn : n₁ ≤ W.heap.size) (hv : x.Cells W Bv 0) (hx : x.In n₀ W c) (h0 : J [] W) :
    CallsIn F n Tryd.prog 57 #[.func (.yield l) #[] #[], .pointer (some ⟨Bv, 0, none⟩)] W fun e W' => (∃ v, e = .returned v) ∧ ((∃ zs, zs = ys ∧ J zs W') ∨ (∃ pre, pre <+: ys ∧ Jx pre W')) := by
  have hdc : ∀ k : Nat, (F.depth.isSome = true → 1 ≤ k) := fun k h => by rw [hd] at h; cases h
  obtain ⟨W1, hW1⟩ : ∃ W1, ((W.alloc (.cells #[.func (.yield l) #[] #[]] 85)).alloc (.cells #[.nilFunc] 86)).setCell ⟨W.heap.size + 1, 0, none⟩ (.func (.func 58) #[] #[.pointer (some ⟨W.heap.size, 0, none⟩), .pointer (some ⟨W.heap.size + 1, 0, none⟩)]) = W1 := ⟨_, rfl⟩
  have hg : W.grownBy W1 none := by
    rw [← hW1]
    exact grown_set (grown_trans (World.grownBy_alloc W _ none) (World.grownBy_alloc _ _ none)) _ _ (Nat.le_succ _)
  have hcy : W1.cell? ⟨W.heap.size, 0, none⟩ = some (.func (.yield l) #[] #[]) := by
    rw [← hW1]
    exact (((Boxed.new W 85 (.func (.yield l) #[] #[])).alloc (.cells #[.nilFunc] 86)).other (Nat.ne_of_lt (Nat.lt_succ_self _)) _).cell
  have hcg : W1.cell? ⟨W.heap.size + 1, 0, none⟩ = some (.func (.func 58) #[] #[.pointer (some ⟨W.heap.size, 0, none⟩), .pointer (some ⟨W.heap.size + 1, 0, none⟩)]) := by
    rw [← hW1]
    have h1 := (Boxed.new (W.alloc (.cells #[.func (.yield l) #[] #[]] 85)) 86 .nilFunc)
    rw [World.size_alloc] at h1
    exact (h1.set _).cell
  have hs1 := Boxed.new (W.alloc (.cells #[.func (.yield l) #[] #[]] 85)) 86 .nilFunc
  rw [World.size_alloc] at hs1
  have hs2 := hs1.cell
  have hs3 := hs1.frozen
  clear hs1
  have hk : Kb n₀ n₁ W W1 := Kb.grown hg
  have hgs := goes_step F hd h58 hro l n₀ n₁ ys.length W.heap.size (W.heap.size + 1) encs J Jx hN hn (by omega) hJ hY x c (goes_all F hd h58 hro l n₀ n₁ ys.length W.heap.size (W.heap.size + 1) encs J Jx hN hn (by omega) hJ hY c)
    (n - 1) 1 ys [] W1 hys (hx.keep hk.cells) (hJ _ _ _ h0 hg) (by simp) (by simp) (by have := hk.size; omega) hcy hcg
  have hc1 : x.Cells W1 Bv 0 := ⟨cell_kept hv.1 hg (fun r e => by cases e), cell_kept hv.2.1 hg (fun r e => by cases e), cell_kept hv.2.2.1 hg (fun r e => by cases e), cell_kept hv.2.2.2.1 hg (fun r e => by cases e), cell_kept hv.2.2.2.2.1 hg (fun r e => by cases e), cell_kept hv.2.2.2.2.2 hg (fun r e => by cases e)⟩
  obtain ⟨k', b', nn', t', ka', kl', kc', la', ll', lc', ks'⟩ := x
  obtain ⟨c0, c1, c2, c3, c4, c5⟩ := hc1
  simp only [Nat.zero_add] at c0 c1 c2 c3 c4 c5
  simp only [Nd.val, List.nil_append] at hgs
  have hi1 : (((1 : Nat) : Int)) = 1 := rfl
  rw [hi1] at hgs
  clear hv hx hys hY hJ h0 hg hk
  refine callsIn_of_wp Tryd.func57 rfl h57 ?_ hro
  simp only [Tryd.ntmps57, List.size_toArray, List.length_cons, List.length_nil, Nat.reduceAdd, Nat.reduceSub, Array.replicate_succ, Array.replicate_zero, List.push_toArray, List.append_toArray, List.nil_append, List.cons_append]
  gi_wp2_with ((try refine ⟨hdc _, ?_⟩); gi_at_call 58; refine hgs.mono ?_; clear hgs; rintro e W3 (⟨rfl, hJ3, hk3⟩ | ⟨rfl, q, hq, hx3⟩))
  · go_end0
    exact ⟨⟨_, rfl⟩, .inl ⟨_, rfl, hJ3⟩⟩
  · go_end0
    exact ⟨⟨_, rfl⟩, .inr ⟨q, hq, hx3⟩⟩

set_option maxHeartbeats 1000000 in
/-- value.all: the value is boxed; the function value captures the box. -/
theorem all_in (F : Fence) (n : Nat) (h47 : F.fn 47) (hro : F.round = none) (x : Nd) (w : World) :
    CallsIn F n Tryd.prog 47 #[x.val] w fun e w' => e = .returned (.func (.func 57) #[] #[.pointer (some ⟨w.heap.size, 0, none⟩)]) ∧
      w' = w.alloc (.cells #[.int .i64 x.k, .bool x.b, .int .i64 x.n, .string x.t, .slice x.ka x.kl x.kc, .slice x.la x.ll x.lc] 30) := by
  unfold Nd.val
  refine callsIn_of_wp Tryd.func47 rfl h47 ?_ hro
  simp only [Tryd.ntmps47, List.size_toArray, List.length_cons, List.length_nil, Nat.reduceAdd, Nat.reduceSub, Array.replicate_succ, Array.replicate_zero, List.push_toArray, List.append_toArray, List.nil_append, List.cons_append]
  gi_wp2
  go_ret
  exact ⟨rfl, rfl⟩
theorem cells_new (x : Nd) (w : World) : x.Cells (w.alloc (.cells #[.int .i64 x.k, .bool x.b, .int .i64 x.n, .string x.t, .slice x.ka x.kl x.kc, .slice x.la x.ll x.lc] 30)) w.heap.size 0 := by
  refine ⟨?_, ?_, ?_, ?_, ?_, ?_⟩ <;> (unfold World.cell?; rw [World.alloc_heap_new w _]; rfl)

/-- What value.all hands back. -/
theorem all_stops {α : Type} (F : Fence) (hd : F.depth = none) (h57 : F.fn 57) (h58 : F.fn 58) (hro : F.round = none) (n n₀ n₁ Bv : Nat) (encs : α → Array Value) (x : Nd) (c : Fo) (ys : List α)
    (hN : ys.length ≤ 1099511627776) (hys : ys.map encs = (Nd.pre 1 x c).map encV) (w : World) (hn₁ : n₁ ≤ w.heap.size) (hn₀ : n₀ ≤ w.heap.size) (hBv : Bv < w.heap.size) (hv : x.Cells w Bv 0) (hx : x.In n₀ w c) :
    SeqStopsK F n Tryd.prog 57 #[.pointer (some ⟨Bv, 0, none⟩)] encs (Kb n₀ n₁) (fun zs => zs = ys) (fun pre => pre <+: ys) ys.length w := fun l J Jx W hW hJ _ hY h0 =>
  iter_in F hd h57 h58 hro n l n₀ n₁ Bv encs J Jx x c ys hN hys (fun s A B h g => hJ s A B none h g (fun r e => by cases e))
    (fun m pre x W hj hl => YieldAt.anyDepth hd m (hY pre x W hj hl)) W (Nat.le_trans hn₁ hW.size) (hv.keep (Cellsy.of_below hW) hBv) (hx.keep (Cellsy.of_below (hW.mono hn₀))) h0
end Go.Proofs.YtlokoepljmlcgaaDoor
