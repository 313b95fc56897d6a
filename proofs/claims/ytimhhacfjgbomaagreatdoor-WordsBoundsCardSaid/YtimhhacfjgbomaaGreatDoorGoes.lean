/-
  THE WALK of the going over the words of a text (words.All's function): each word with its number, as long as the loop goes on.
-/
import Derived.RangeFuncNested
import Derived.RangeFuncBound
import Derived.RangeFuncCalls
import Derived.RangeFuncLeaves
import Derived.Shelf.Abstract
import Derived.Shelf.RegionOpen
import Derived.WalkKit
import Derived.OwnWalkIn
import Derived.TacticsInMore
import Derived.LoopNIn
import Derived.LoopIn
import Derived.RegionIn
import Derived.Sort.CutIn
import Derived.Laws.EntriesVeiled
import Derived.Test.YtimhhacfjgbomaaGreatDoorSames
import Derived.Test.YtimhhacfjgbomaaGreatDoorLawC
namespace Go.Proofs.YtimhhacfjgbomaaGreatDoor
set_option linter.unusedSimpArgs false
set_option linter.unusedVariables false
open Go.RowKit Go.Shelf
attribute [local go_sem] Oper.semAt_some

/-- What may turn: cells of the blocks from n₀ up to n₁ alone (and what is no cells). -/
structure Kb (n₀ n₁ : Nat) (A B : World) : Prop where
  size : A.heap.size ≤ B.heap.size
  same : ∀ (k : Nat) (o : Obj), A.heap[k]? = some o → o.isCells = true → (k < n₀ ∨ n₁ ≤ k) → B.heap[k]? = some o
theorem Kb.refl (n₀ n₁ : Nat) (A : World) : Kb n₀ n₁ A A := ⟨Nat.le_refl _, fun _ _ h _ _ => h⟩
theorem Kb.trans {n₀ n₁ : Nat} {A B C : World} (h : Kb n₀ n₁ A B) (k : Kb n₀ n₁ B C) : Kb n₀ n₁ A C :=
  ⟨Nat.le_trans h.size k.size, fun i o hi ho hn => k.same i o (h.same i o hi ho hn) ho hn⟩
theorem Kb.grown {n₀ n₁ : Nat} {A B : World} (h : A.grownBy B none) : Kb n₀ n₁ A B :=
  ⟨h.size, fun i o hi _ _ => (h.block i (Array.getElem?_eq_some_iff.1 hi).1 (by simp)).trans hi⟩
theorem Kb.alloc {n₀ n₁ : Nat} (A : World) (o : Obj) : Kb n₀ n₁ A (A.alloc o) := Kb.grown (World.grownBy_alloc A o none)
theorem Kb.turn {n₀ n₁ : Nat} (A : World) (l : Nat) (o o' : Obj) (_ : n₀ ≤ l) (h : A.heap[l]? = some o) (ho : o.isCells = false) (_ : o.isWalk = false) : Kb n₀ n₁ A (A.putObj l o') :=
  ⟨by simp, fun i u hi hu _ => by
    have hne : i ≠ l := fun e => by subst e; rw [h] at hi; cases hi; rw [hu] at ho; cases ho
    exact (World.putObj_heap_other hne).trans hi⟩
theorem Kb.below {n₀ n₁ : Nat} {A B : World} {m : Nat} (h : Below m A B) (hm : A.heap.size ≤ m) : Kb n₀ n₁ A B :=
  ⟨h.size, fun i o hi _ _ => (h.block i (Nat.lt_of_lt_of_le (Array.getElem?_eq_some_iff.1 hi).1 hm)).trans hi⟩
theorem Kb.cell {n₀ n₁ : Nat} {A B : World} (h : Kb n₀ n₁ A B) {p : Addr} {v : Value} (hv : A.cell? p = some v) (hn : p.block < n₀ ∨ n₁ ≤ p.block) : B.cell? p = some v := by
  obtain ⟨o, ho, hc⟩ := cells_of_cell hv
  exact (World.cell?_of_block ((h.same _ o ho hc hn).trans ho.symm)).trans hv
theorem Kb.set {n₀ n₁ : Nat} (A : World) {p : Addr} (v : Value) (h1 : n₀ ≤ p.block) (h2 : p.block < n₁) : Kb n₀ n₁ A (A.setCell p v) :=
  ⟨by simp [World.setCell], fun i o hi _ hn => (Below.heap_setCell A p v i (by omega)).trans hi⟩
theorem room_of_none {F : Fence} (hd : F.depth = none) (k : Nat) : F.room k := fun d h => by rw [hd] at h; cases h
theorem YieldAt.anyDepth {F : Fence} (hd : F.depth = none) {m : Nat} (m' : Nat) {P : Program} {l : Nat} {args : Array Value} {W : World} {R : Ending → World → Prop} (h : YieldAt F m P l args W R) : YieldAt F m' P l args W R := by
  obtain ⟨fn, tmps, assign, body, hy, hR⟩ := h
  exact ⟨fn, tmps, assign, body, hy, hR.1, fun c cs _ => hR.2 c cs (room_of_none hd _)⟩

/-- What a round is handed. -/
def encW (e : Nat × Gw) : Array Value := #[.int .i64 e.1, .agg #[.int .i64 e.2.k, .int .i64 e.2.p, .string e.2.t, .int .u64 e.2.n]]
/-- Words, each with its number. -/
def numd (l : List Gw) : List (Nat × Gw) := l.zipIdx.map fun p => (p.2, p.1)
theorem numd_len (l : List Gw) : (numd l).length = l.length := by simp [numd]
theorem numd_at (l : List Gw) (i : Nat) : (numd l)[i]? = (l[i]?).map fun g => (i, g) := by simp [numd]; rfl
/-- Words of a row in a block from a size on. -/
def RowK (n : Nat) (wr : World) (a : Option Addr) (l : List Gw) : Prop := l = [] ∨ ∃ b o, a = some ⟨b, o, none⟩ ∧ n ≤ b ∧ ∀ (i : Nat) (g : Gw), l[i]? = some g → g.At wr b (o + i * 4)
theorem Gw.At.kb {g : Gw} {A B : World} {b o n₀ n₁ : Nat} (h : g.At A b o) (hk : Kb n₀ n₁ A B) (hb : n₁ ≤ b) : g.At B b o :=
  ⟨hk.cell h.k (.inr hb), hk.cell h.p (.inr hb), hk.cell h.t (.inr hb), hk.cell h.n (.inr hb)⟩
theorem RowK.kb {n n₀ n₁ : Nat} {A B : World} {a : Option Addr} {l : List Gw} (h : RowK n A a l) (hk : Kb n₀ n₁ A B) (hn : n₁ ≤ n) : RowK n B a l :=
  h.elim .inl fun ⟨b, o, e, hb, hc⟩ => .inr ⟨b, o, e, hb, fun i g hg => (hc i g hg).kb hk (Nat.le_trans hn hb)⟩
theorem rowK_of {w : World} {base c n : Nat} {e : TypeId} {a : Option Addr} {l : List (Wd × Nat)} (h : w.ownsRow base e 4 (.slice a n c) l.length (wdCells l)) : n = l.length ∧ RowK base w a (l.map gwOf) := by
  have h2 := h
  rcases h.2 with ⟨e, h0⟩ | ⟨g, cap, cur, e, hb, hh, hnc, hcm, hcs, ht⟩
  · injection e with e1 e2 e3
    have : l = [] := List.eq_nil_of_length_eq_zero h0
    exact ⟨by simp [this]; omega, Or.inl (by simp [this])⟩
  · injection e with e1 e2 e3
    refine ⟨e2, Or.inr ⟨g, 0, e1, hb, fun i x hx => ?_⟩⟩
    rw [List.getElem?_map] at hx
    obtain ⟨p, hp, rfl⟩ := Option.map_eq_some_iff.1 hx
    have hc : ∀ (j : Nat) (u : Value), j < 4 → (wdOne p)[j]? = some u → w.cell? ⟨g, 0 + i * 4 + j, none⟩ = some u := fun j u hj hu => by
      have := h2.cells (g := g) (by rw [e1]; rfl) (i * 4 + j) u (by rw [wdCells_at l i p hp j hj]; exact hu)
      rw [Addr.add_lit] at this
      rw [show 0 + i * 4 + j = 0 + (i * 4 + j) by omega]
      exact this
    exact ⟨hc 0 _ (by omega) rfl, hc 1 _ (by omega) rfl, hc 2 _ (by omega) rfl, hc 3 _ (by omega) rfl⟩

set_option maxRecDepth 100000 in
set_option maxHeartbeats 4000000 in
/-- The iterator. -/
theorem alls_in (n l n₀ n₁ B N₀ : Nat) (J Jx : List (Nat × Gw) → World → Prop) (s : ByteArray) (L : List (Wd × Nat)) (at_ e_ : Nat) (hL : lexR s = (L, at_, e_)) (hs : s.size ≤ 281474976710656) (hlen : L.length ≤ 1099511627776)
    (hJ : ∀ s A B, J s A → A.grownBy B none → J s B)
    (hY : ∀ m pre x W, J pre W → pre.length < L.length → YieldAt Fence.wide m Tryz.prog l (encW x) W fun e W' =>
      (e = .returned (.bool true) ∧ J (pre ++ [x]) W' ∧ Kb n₀ n₁ W W') ∨ (e = .returned (.bool false) ∧ Jx (pre ++ [x]) W'))
    (W : World) (hn : n₁ ≤ W.heap.size) (hv : W.cell? ⟨B, 0, none⟩ = some (.string s)) (hE : Env N₀ W) (h0 : J [] W) :
    CallsIn Fence.wide n Tryz.prog 34 #[.func (.yield l) #[] #[], .pointer (some ⟨B, 0, none⟩)] W fun e W' => (∃ v, e = .returned v) ∧ ((∃ zs, zs = numd (L.map gwOf) ∧ J zs W') ∨ (∃ pre, pre <+: numd (L.map gwOf) ∧ Jx pre W')) := by
  have hsm : CallsIn Fence.wide (n - 1) Tryz.prog 31 #[.string s] W (SomeQ (L, at_, e_) W) := callsIn_wide.2 (by rw [← hL]; exact some_any s W hs hE)
  obtain ⟨G, hG⟩ : ∃ G, L.map gwOf = G := ⟨_, rfl⟩
  have HGL : Hid (G.length = L.length) := Lib.hid (by rw [← hG]; simp)
  rw [hG]
  have HG := Lib.hid hG
  clear hG
  have hdc : ∀ k : Nat, (Fence.wide.depth.isSome = true → 1 ≤ k) := fun k h => by cases h
  have HSM := Lib.hid hsm
  have HY := Lib.hid hY
  have HJ := Lib.hid hJ
  have H0 := Lib.hid h0
  clear hsm hE hL hY hJ h0
  refine callsIn_of_wp Tryz.func34 rfl trivial ?_ rfl
  simp only [Tryz.ntmps34, List.size_toArray, List.length_cons, List.length_nil, Nat.reduceAdd, Nat.reduceSub, Array.replicate_succ, Array.replicate_zero, List.push_toArray, List.append_toArray, List.nil_append, List.cons_append]
  gi_wp2_with ((try refine ⟨trivial, ?_⟩); (try refine ⟨hdc _, ?_⟩); gi_at_call 31; refine HSM.out.mono ?_; rintro e w1 ⟨v, rfl, ho, hb⟩; obtain ⟨av, cv, rfl⟩ := owns_form ho; have HRK := Lib.hid (rowK_of ho).2; have HB := Lib.hid hb; clear ho hb HSM)
  rw [HG.out] at HRK
  have H1 : Hid (J [] w1) := Lib.hid (HJ.out _ _ _ H0.out (only_of_below HB.out none))
  have HN := Lib.hid (show n₁ ≤ W.heap.size from hn)
  clear H0 HB hn hv hs
  gi_loopw [16] (fun p wr => ∃ i : Nat, p = .int .i64 i ∧ i ≤ L.length ∧ J ((numd G).take i) wr ∧ Kb n₀ n₁ w1 wr) (fun p _ => L.length - (intOf p).toNat)
  case atStart => exact ⟨0, rfl, Nat.zero_le _, H1.out, Kb.refl _ _ _⟩
  case round =>
    obtain ⟨i, rfl, hi, hj, hk⟩ := hrel
    by_cases hlt : i < L.length
    · obtain ⟨g, hg⟩ : ∃ g, G[i]? = some g := ⟨G[i]'(by rw [HGL.out]; exact hlt), List.getElem?_eq_getElem _⟩
      obtain ⟨b, o, hav, hbb, hrow⟩ := (HRK.out.kb hk HN.out).resolve_left (by intro e; have := HGL.out; rw [e] at this; simp at this; omega)
      subst hav
      obtain ⟨c0, c1, c2, c3⟩ := hrow i g hg
      have hy1 := HY.out (n - 1) ((numd G).take i) (i, g) (wr.alloc (.cells #[.int .i64 g.k, .int .i64 g.p, .string g.t, .int .u64 g.n] 33)) (HJ.out _ _ _ hj (World.grownBy_alloc wr _ none)) (by rw [List.length_take, numd_len, HGL.out]; omega)
      have hsn : (numd G).take i ++ [(i, g)] = (numd G).take (i + 1) := by
        rw [List.take_add_one, numd_at, hg]; rfl
      rw [hsn] at hy1
      have HY1 := Lib.hid (hy1.mono (R' := fun e W' => (e = .returned (.bool true) ∧ J ((numd G).take (i + 1)) W' ∧ Kb n₀ n₁ w1 W') ∨ (e = .returned (.bool false) ∧ Jx ((numd G).take (i + 1)) W'))
        (fun e W' h => h.elim (fun ⟨he, hj, hk2⟩ => .inl ⟨he, hj, (hk.trans (Kb.alloc _ _)).trans hk2⟩) .inr))
      have hy2 := HY1.out
      simp only [encW] at hy2
      obtain ⟨fn, tmps, assign, body, hy, hR⟩ := hy2
      have HR := Lib.hid hR
      clear hj hk hy1 hsn hrow HY1 hg hR
      gi_wp2_with (((try refine ⟨hdc _, ?_⟩); refine HR.out.mono ?_; rintro e W2 (⟨rfl, hJ2, hK2⟩ | ⟨rfl, hx2⟩)))
      · go_roundw
        case rel => exact ⟨i + 1, by simp, hlt, hJ2, hK2⟩
        case measure => simp [intOf]; omega
      · exact bodyPost_ret (v := .tuple #[]) (by simp [results, Tryz.results34, go_sem]) rfl ⟨⟨_, rfl⟩, .inr ⟨_, List.take_prefix _ _, hx2⟩⟩
    · obtain rfl : i = L.length := by omega
      rw [List.take_of_length_le (by rw [numd_len, HGL.out]; exact Nat.le_refl _)] at hj
      have HJJ := Lib.hid hj
      clear hj hk
      gi_wp2
      go_end0
      exact ⟨⟨_, rfl⟩, .inl ⟨_, rfl, HJJ.out⟩⟩
/-- What words.All hands back. -/
theorem alls_stops (n n₀ n₁ B N₀ : Nat) (s : ByteArray) (L : List (Wd × Nat)) (at_ e_ : Nat) (hL : lexR s = (L, at_, e_)) (hs : s.size ≤ 281474976710656) (hlen : L.length ≤ 1099511627776)
    (w : World) (hn₁ : n₁ ≤ w.heap.size) (hB : B < w.heap.size) (hv : w.cell? ⟨B, 0, none⟩ = some (.string s)) (hE : Env N₀ w) :
    SeqStopsK Fence.wide n Tryz.prog 34 #[.pointer (some ⟨B, 0, none⟩)] encW (Kb n₀ n₁) (fun zs => zs = numd (L.map gwOf)) (fun pre => pre <+: numd (L.map gwOf)) L.length w := fun l J Jx W hW hJ _ hY h0 =>
  alls_in n l n₀ n₁ B N₀ J Jx s L at_ e_ hL hs hlen (fun s A B h g => hJ s A B none h g (fun r e => by cases e))
    (fun m pre x W hj hl => YieldAt.anyDepth rfl m (hY pre x W hj hl)) W (Nat.le_trans hn₁ hW.size) ((hW.cell (p := ⟨B, 0, none⟩) hB).trans hv) (hE.below hW) h0

/-- What is known within goes. -/
structure GoI (b : Nat) (W : World) (v : Value) (leave : Int) (k : Nat) (r : Bool) (U : World) : Prop where
  l4 : Boxed U b 23 v
  l5 : Boxed U (b + 1) 3 (.int .i64 leave)
  l6 : Boxed U (b + 2) 4 (.bool r)
  l7 : Boxed U (b + 3) 3 (.int .i64 k)
  bl : Below W.heap.size W U
theorem boxed_next {U V : World} {b : Nat} {t : TypeId} {v : Value} (h : Boxed U b t v) (hb : Below U.heap.size U V) : Boxed V b t v := (hb.block b (Array.getElem?_eq_some_iff.1 h).1).trans h
theorem GoI.next {b : Nat} {W : World} {v : Value} {leave : Int} {k : Nat} {r : Bool} {U V : World} (h : GoI b W v leave k r U) (hb : Below U.heap.size U V) : GoI b W v leave k r V :=
  ⟨boxed_next h.l4 hb, boxed_next h.l5 hb, boxed_next h.l6 hb, boxed_next h.l7 hb, h.bl.trans (hb.mono h.bl.size)⟩
theorem GoI.setN {b : Nat} {W : World} {v : Value} {leave : Int} {k : Nat} {r : Bool} {U : World} (h : GoI b W v leave k r U) (hb : W.heap.size ≤ b) (m : Nat) : GoI b W v leave m r (U.setCell ⟨b + 3, 0, none⟩ (.int .i64 m)) :=
  ⟨h.l4.other (by omega) _, h.l5.other (by omega) _, h.l6.other (by omega) _, h.l7.set _, h.bl.setCell (by simp; omega) _⟩
theorem GoI.setR {b : Nat} {W : World} {v : Value} {leave : Int} {k : Nat} {r : Bool} {U : World} (h : GoI b W v leave k r U) (hb : W.heap.size ≤ b) (m : Bool) : GoI b W v leave k m (U.setCell ⟨b + 2, 0, none⟩ (.bool m)) :=
  ⟨h.l4.other (by omega) _, h.l5.other (by omega) _, h.l6.set _, h.l7.other (by omega) _, h.bl.setCell (by simp; omega) _⟩
theorem goi_own {β : Type} (b B : Nat) (W : World) (v : Value) (leave : Int) (f : β → Nat) (r : Bool) (hB : W.heap.size ≤ B) : OwnFrom B (fun (s : β) w => GoI b W v leave (f s) r w) := fun s X Y row hs hg hr =>
  ⟨boxed_own b 23 (fun (_ : Unit) => v) () X Y row hs.l4 hg (fun r e => (hr r e).2),
   boxed_own (b + 1) 3 (fun (_ : Unit) => Value.int .i64 leave) () X Y row hs.l5 hg (fun r e => (hr r e).2),
   boxed_own (b + 2) 4 (fun (_ : Unit) => Value.bool r) () X Y row hs.l6 hg (fun r e => (hr r e).2),
   boxed_own (b + 3) 3 (fun (_ : Unit) => Value.int .i64 (f s)) () X Y row hs.l7 hg (fun r e => (hr r e).2),
   ownFrom_below (β := Unit) (Nat.le_refl _) hB () X Y row hs.bl hg hr⟩

theorem leave_goes {W U : World} {b D : Nat} {T : Array Value} (hKD : U.heap[D]? = some (.deferred (some []))) (hE : Boxed U (b + 2) 4 (.bool true)) (hB : Below W.heap.size W U) (hD : W.heap.size ≤ D)
    (hres : ∀ w : World, w.cell? ⟨b + 2, 0, none⟩ = some (.bool true) → (results Tryz.f17 T).run Tryz.prog w = .ok (.bool true) w) :
    bodyPostM Fence.wide 5 Tryz.prog Tryz.f17 (fun e w' => e = .returned (.bool true) ∧ Below W.heap.size W w') .ret { tmps := T, defers := [{ target := .collected D, args := #[] }] } U := by
  have hne : D ≠ b + 2 := fun e => by subst e; rw [show U.heap[b + 2]? = _ from hE] at hKD; cases hKD
  have hE2 : Boxed (U.putObj D (.deferred none)) (b + 2) 4 (.bool true) := hE.kept (grownBy_putObj' U D _) (fun e => hne (by cases e; rfl))
  have hB2 : Below W.heap.size W (U.putObj D (.deferred none)) := hB.grown (grownBy_putObj' U D _) (hB.size) (fun k e => by cases e; exact hD)
  refine ⟨by simp, .inl ⟨_, _, rfl, run_takeDeferred hKD, ?_⟩⟩
  exact ⟨_, hres _ hE2.cell, rfl, hB2⟩

set_option maxRecDepth 100000 in
set_option maxHeartbeats 8000000 in
theorem goes_any {N₀ : Nat} (s : ByteArray) (L : List (Wd × Nat)) (at_ e_ : Nat) (hL : lexR s = (L, at_, e_)) (hs : s.size ≤ 1048576) (hlen : L.length ≤ 1048576) (B : Nat) (a : Option Addr) (c : Nat) (leave : Int) (W : World)
    (hB : B < W.heap.size) (hv : W.cell? ⟨B, 0, none⟩ = some (.string s)) (hE : Env N₀ W) (hg : Gws W a (L.map gwOf)) :
    Calls Tryz.prog 17 #[.func (.func 34) #[] #[.pointer (some ⟨B, 0, none⟩)], .slice a L.length c, .int .i64 leave] W fun e W' => e = .returned (.bool true) ∧ Below W.heap.size W W' := by
  refine (callsIn_wide (n := 5)).1 ?_
  have h1 : 1 ≤ 5 := by omega
  obtain ⟨b, hb⟩ : ∃ b, W.heap.size = b := ⟨_, rfl⟩
  have hfn : ∀ w, (binOp .eql 35 (.func (.func 34) #[] #[.pointer (some ⟨B, 0, none⟩)]) .nilFunc).run Tryz.prog w = .ok (.bool false) w := fun _ => by kernel_rfl
  refine callsIn_of_wp_marks Tryz.func17 rfl trivial ?_ rfl
  simp only [Tryz.ntmps17, List.size_toArray, List.length_cons, List.length_nil, Nat.reduceAdd, Nat.reduceSub, Array.replicate_succ, Array.replicate_zero, List.push_toArray, List.append_toArray, List.nil_append, List.cons_append]
  gi_wp2
  have hl4 := ((Boxed.new W 23 (.slice a L.length c)).alloc (.cells #[.int .i64 leave] 3)).alloc (.cells #[.bool false] 4) |>.alloc (.cells #[.int .i64 0] 3)
  have hl5 := ((Boxed.new (W.alloc (.cells #[.slice a L.length c] 23)) 3 (.int .i64 leave)).alloc (.cells #[.bool false] 4)).alloc (.cells #[.int .i64 0] 3)
  have hl6 := (Boxed.new ((W.alloc (.cells #[.slice a L.length c] 23)).alloc (.cells #[.int .i64 leave] 3)) 4 (.bool false)).alloc (.cells #[.int .i64 0] 3)
  have hl7 := Boxed.new (((W.alloc (.cells #[.slice a L.length c] 23)).alloc (.cells #[.int .i64 leave] 3)).alloc (.cells #[.bool false] 4)) 3 (.int .i64 0)
  have hbl : Below W.heap.size W ((((W.alloc (.cells #[.slice a L.length c] 23)).alloc (.cells #[.int .i64 leave] 3)).alloc (.cells #[.bool false] 4)).alloc (.cells #[.int .i64 0] 3)) := (((ballocR W _).alloc (by simp) _).alloc (by simp; omega) _).alloc (by simp; omega) _
  have hsz : ((((W.alloc (.cells #[.slice a L.length c] 23)).alloc (.cells #[.int .i64 leave] 3)).alloc (.cells #[.bool false] 4)).alloc (.cells #[.int .i64 0] 3)).heap.size = b + 4 := by simp; omega
  simp only [World.size_alloc, hb] at hl4 hl5 hl6 hl7
  simp only [show b + 1 + 1 + 1 = b + 3 from rfl, show b + 1 + 1 = b + 2 from rfl] at hl6 hl7 ⊢
  have hG0 : GoI b W (.slice a L.length c) leave 0 false ((((W.alloc (.cells #[.slice a L.length c] 23)).alloc (.cells #[.int .i64 leave] 3)).alloc (.cells #[.bool false] 4)).alloc (.cells #[.int .i64 0] 3)) := ⟨hl4, hl5, hl6, hl7, hbl⟩
  clear hl4 hl5 hl6 hl7
  generalize (((W.alloc (.cells #[.slice a L.length c] 23)).alloc (.cells #[.int .i64 leave] 3)).alloc (.cells #[.bool false] 4)).alloc (.cells #[.int .i64 0] 3) = V at *
  obtain ⟨G, hGe⟩ : ∃ G, L.map gwOf = G := ⟨_, rfl⟩
  have hGl : G.length = L.length := by rw [← hGe]; simp
  have hst := alls_stops 4 b (b + 4) B N₀ s L at_ e_ hL (by omega) (by omega) V (by rw [hsz]; exact Nat.le_refl _) (by have := hbl.size; omega) ((hbl.cell (p := ⟨B, 0, none⟩) hB).trans hv) (hE.below hbl)
  rw [hGe] at hst hg
  obtain ⟨pf, hpf⟩ : ∃ f : List (Nat × Gw) → Bool, ∀ pre, f pre = true ↔ pre <+: numd G := ⟨fun pre => @decide _ (Classical.propDecidable (pre <+: numd G)), fun pre => @decide_eq_true_iff _ (Classical.propDecidable _)⟩
  have HPF := Lib.hid hpf
  clear hpf
  have HG0 := Lib.hid hG0
  have HROW := Lib.hid hg
  have HGL := Lib.hid hGl
  have HST := Lib.hid hst
  have HSZ := Lib.hid hsz
  have HBW := Lib.hid hb
  have hlen2 : L.length ≤ 1048576 := hlen
  have HWB2 : Hid (W.heap.size ≤ b) := Lib.hid (by rw [hb]; exact Nat.le_refl _)
  clear hbl hsz hv hE hg hG0 hGe hGl hst hL hs hB hlen hb
  refine wpIn_rangeFunc_ownH rfl h1 (gf := 34) (lb := #[.pointer (some ⟨B, 0, none⟩)]) rfl trivial (enters_of Tryz.func34 (by kernel_rfl) rfl)
    HST.out
    (fun h k => Kb.trans h k) (fun U l o o' h1 h2 h3 h4 => Kb.turn U l o o' (by rw [HSZ.out] at h1; omega) h2 h3 h4) (Below.refl _ _) (fun _ => rfl)
    (fun pre U => GoI b W (.slice a L.length c) leave pre.length false U ∧ pre <+: numd G)
    (fun cd pre U => (Boxed U (b + 2) 4 (.bool (pf pre)) ∧ Below W.heap.size W U) ∧ cd = .ret)
    (OwnFrom.and (goi_own b _ W _ _ _ _ (by rw [HSZ.out, HBW.out]; omega)) (ownFrom_pure _ _))
    (fun cd => OwnFrom.and (OwnFrom.and (Own.from (boxed_own _ _ _) _) (ownFrom_below (Nat.le_refl _) (by rw [HSZ.out, HBW.out]; omega))) (ownFrom_pure _ _))
    ⟨HG0.out, List.nil_prefix⟩
    (fun e a' U => ∃ Bx, b + 4 ≤ Bx ∧ e.2.At U Bx 0 ∧ a' = { tmps := #[.func (.func 34) #[] #[.pointer (some ⟨B, 0, none⟩)], .slice a L.length c, .int .i64 leave, undef, .pointer (some ⟨b, 0, none⟩), .pointer (some ⟨b + 1, 0, none⟩), .pointer (some ⟨b + 2, 0, none⟩), .pointer (some ⟨b + 3, 0, none⟩), .int .i64 e.1, .pointer (some ⟨Bx, 0, none⟩), .func (.func 34) #[] #[.pointer (some ⟨B, 0, none⟩)], .bool false, .func (.func 34) #[] #[.pointer (some ⟨B, 0, none⟩)], .int .i64 e.1, .agg #[.int .i64 e.2.k, .int .i64 e.2.p, .string e.2.t, .int .u64 e.2.n], undef, undef, undef, undef, undef, undef, undef, undef, undef, undef, undef, undef, undef, undef, undef, undef, undef, undef, undef, undef, undef, undef, undef, undef, undef, undef], defers := [] })
    (fun e a' _ A B row hs hg hr => by obtain ⟨Bx, h1, h2, h3⟩ := hs; exact ⟨Bx, h1, ⟨cell_kept h2.k hg (fun r e => (hr r e).2), cell_kept h2.p hg (fun r e => (hr r e).2), cell_kept h2.t hg (fun r e => (hr r e).2), cell_kept h2.n hg (fun r e => (hr r e).2)⟩, h3⟩)
    ?assign ?body ?done ?stop
  case assign =>
    rintro l pre ⟨i, g⟩ U K ⟨hI, hp⟩ hK
    simp only [encW]
    gi_wp2
    have hU : b + 4 ≤ U.heap.size := (Array.getElem?_eq_some_iff.1 hI.l7).1
    exact hK _ _ ((KeepsOthers.alloc _ _).from _) (Kb.alloc _ _) ⟨hI.next (ballocR U _), hp⟩ ⟨U.heap.size, hU, by
      obtain ⟨q0, q1, q2, q3⟩ := Box4.cells (new_at U (.cells #[.int .i64 g.k, .int .i64 g.p, .string g.t, .int .u64 g.n] 33))
      exact ⟨q0, q1, q2, q3⟩, rfl⟩
  case body =>
    rintro l pre ⟨i, g⟩ a' U hl ⟨r, hr⟩ ⟨hI, hp⟩ ⟨Bx, hBx, hat, rfl⟩ hlt
    obtain ⟨k, hk⟩ : ∃ k, pre.length = k := ⟨_, rfl⟩
    rw [hk] at hI hlt
    obtain ⟨y, b', o', hy, rfl, hyat⟩ := (HROW.out.below hI.bl).get (i := k) (by rw [HGL.out]; exact hlt)
    have hsn : ∀ z, (pre ++ [z] <+: numd G) ↔ z = (k, y) := fun z => by
      obtain ⟨u, hu⟩ := hp
      have h1 : (numd G)[k]? = some (k, y) := by rw [numd_at, hy]; rfl
      constructor
      · rintro ⟨v, hv⟩
        rw [← hv, List.getElem?_append_left (by simp; omega), List.getElem?_append_right (by omega), hk] at h1
        simpa using h1
      · rintro rfl
        rw [← hu, List.getElem?_append_right (by omega), hk, Nat.sub_self] at h1
        cases u with
        | nil => simp at h1
        | cons x u => simp at h1; subst h1; exact ⟨u, by rw [← hu]; simp⟩
    have hsize := (Array.getElem?_eq_some_iff.1 hI.l7).1
    obtain ⟨c0, c1, c2, c3⟩ := hat
    obtain ⟨d0, d1, d2, d3⟩ := hyat
    simp only [Nat.zero_add] at c0 c1 c2 c3
    have l4 := hI.l4.cell
    have l5 := hI.l5.cell
    have l7 := hI.l7.cell
    have kz : ¬ (k : Int) ≥ L.length := by omega
    have kz2 : ¬ L.length ≤ k := by omega
    have kz3 : decide (L.length ≤ k) = false := decide_eq_false kz2
    have hmx : Tryz.prog.follows .mixedOrders = true := by kernel_rfl
    have hwn := word_neq g.k g.p g.t g.n y.k y.p y.t y.n
    rw [show (⟨g.k, g.p, g.t, g.n⟩ : Gw) = g from rfl, show (⟨y.k, y.p, y.t, y.n⟩ : Gw) = y from rfl] at hwn
    have HI1 : ∀ n, Hid (GoI b W (.slice (some ⟨b', o', none⟩) L.length c) leave k false (U.drewN n)) := fun n => Lib.hid (hI.next (bdrewN (Below.refl _ _) n))
    have HSN := Lib.hid hsn
    have HKK := Lib.hid hk
    have HYY := Lib.hid hy
    have hkd : ∀ n, KeepsFrom V.heap.size U (U.drewN n) := fun n => ⟨Nat.le_refl _, fun _ _ _ h _ => h⟩
    have hbd : ∀ n, Kb b (b + 4) U (U.drewN n) := fun n => ⟨Nat.le_refl _, fun _ _ h _ _ => h⟩
    have HKD := Lib.hid (And.intro hkd hbd)
    have HWB : Hid (W.heap.size ≤ b) := Lib.hid (by rw [HBW.out]; exact Nat.le_refl _)
    clear hI hp hsn hk hy hr hkd hbd
    have hbad : g ≠ y ∨ i ≠ k → Hid (pf (pre ++ [(i, g)]) = false) := fun h => Lib.hid (by
      cases hq : pf (pre ++ [(i, g)]) with
      | false => rfl
      | true =>
        have := (HSN.out _).1 ((HPF.out _).1 hq)
        injection this with e1 e2
        rcases h with h | h
        · exact absurd e2 h
        · exact absurd e1 h)
    by_cases hik : i = k
    · by_cases hgy : g = y
      · subst hik; subst hgy
        have HOK : Hid (pf (pre ++ [(i, g)]) = true ∧ pre ++ [(i, g)] <+: numd G) := Lib.hid (by
          have := (HSN.out (i, g)).2 rfl
          exact ⟨(HPF.out _).2 this, this⟩)
        rw [eqB_refl] at hwn
        have hw1 : wrap64 ((i : Int) + 1) = (i : Int) + 1 := by unfold wrap64; omega
        clear hbad
        gi_wp2
        gi_cut [31] from 15 (fun v wr => v = .bool false ∧ U.drew = wr)
        case first =>
          gi_region_o
          all_goals
            gi_wp2
            gi_meet
            exact ⟨rfl, rfl⟩
        case rest =>
          obtain ⟨rfl, hwc⟩ := hcut
          have HI2 : Hid (GoI b W (.slice (some ⟨b', o', none⟩) L.length c) leave i false wc) := hwc ▸ HI1 1
          have HKD2 : Hid (KeepsFrom V.heap.size U wc ∧ Kb b (b + 4) U wc) := hwc ▸ Lib.hid (And.intro (HKD.out.1 1) (HKD.out.2 1))
          clear HI1 l4 l5 l7 c0 c1 c2 c3 d0 d1 d2 d3 hsize hwn hwc
          have l7 := HI2.out.l7.cell
          have f7 := HI2.out.l7.frozen
          have HI3 := Lib.hid (HI2.out.setN HWB.out (i + 1))
          have l7b := HI3.out.l7.cell
          have l5b := HI3.out.l5.cell
          have l6f := HI3.out.l6.frozen
          have l6c := HI3.out.l6.cell
          have e1 : ((i + 1 : Nat) : Int) = (i : Int) + 1 := by omega
          rw [e1] at l7b l5b l6f l6c HI3
          have HL : Hid (pre.length + 1 = i + 1) := Lib.hid (by rw [HKK.out])
          by_cases hlv : (i : Int) + 1 = leave
          · have z : ((i : Int) + 1 == leave) = true := by simp [hlv]
            clear hlv
            gi_wp2
            exact ⟨(HKD2.out.1.trans ((KeepsOthers.setCell _ _ _).from _)).trans ((KeepsOthers.setCell _ _ _).from _), ⟨by rw [HOK.out.1]; exact HI3.out.l6.set _, (HI3.out.setR HWB.out true).bl⟩, rfl⟩
          · have z : ((i : Int) + 1 == leave) = false := by simpa using hlv
            clear hlv
            gi_wp2
            exact ⟨HKD2.out.1.trans ((KeepsOthers.setCell _ _ _).from _), HKD2.out.2.trans (Kb.set _ _ (by simp) (by simp)), by rw [List.length_append, show [(i, g)].length = 1 from rfl, HL.out]; exact HI3.out, HOK.out.2⟩
      · have hB := hbad (.inl hgy)
        have hne : Gw.eqB g y = false := by
          cases hq : Gw.eqB g y with
          | false => rfl
          | true =>
            refine absurd ?_ hgy
            simp only [Gw.eqB, Bool.and_eq_true, decide_eq_true_eq] at hq
            obtain ⟨h1, h2, h3, h4⟩ := hq
            cases g; cases y; simp_all
        rw [hne] at hwn
        clear hbad hne hgy
        subst hik
        gi_wp2
        gi_cut [31] from 15 (fun v wr => v = .bool true ∧ U.drew = wr)
        case first =>
          gi_region_o
          all_goals
            gi_wp2
            gi_meet
            exact ⟨rfl, rfl⟩
        case rest =>
          obtain ⟨rfl, hwc⟩ := hcut
          have HI2 : Hid (GoI b W (.slice (some ⟨b', o', none⟩) L.length c) leave i false wc) := hwc ▸ HI1 1
          have HKD2 : Hid (KeepsFrom V.heap.size U wc ∧ Kb b (b + 4) U wc) := hwc ▸ Lib.hid (And.intro (HKD.out.1 1) (HKD.out.2 1))
          clear HI1 l4 l5 l7 c0 c1 c2 c3 d0 d1 d2 d3 hsize hwn hwc
          have l6f := HI2.out.l6.frozen
          have l6c := HI2.out.l6.cell
          gi_wp2
          exact ⟨HKD2.out.1.trans ((KeepsOthers.setCell _ _ _).from _), ⟨by rw [hB.out]; exact HI2.out.l6.set _, (HI2.out.setR HWB.out false).bl⟩, rfl⟩
    · have hB := hbad (.inr hik)
      have z : ((i : Int) != (k : Int)) = true := by simp; omega
      clear hbad hik hwn
      gi_wp2
      gi_cut [31] from 15 (fun v wr => v = .bool true ∧ U.drew = wr)
      case first =>
        gi_region_o
        all_goals
          gi_wp2
          gi_meet
          exact ⟨rfl, rfl⟩
      case rest =>
        obtain ⟨rfl, hwc⟩ := hcut
        have HI2 : Hid (GoI b W (.slice (some ⟨b', o', none⟩) L.length c) leave k false wc) := hwc ▸ HI1 1
        have HKD2 : Hid (KeepsFrom V.heap.size U wc ∧ Kb b (b + 4) U wc) := hwc ▸ Lib.hid (And.intro (HKD.out.1 1) (HKD.out.2 1))
        clear HI1 l4 l5 l7 c0 c1 c2 c3 d0 d1 d2 d3 hsize hwc
        have l6f := HI2.out.l6.frozen
        have l6c := HI2.out.l6.cell
        gi_wp2
        exact ⟨HKD2.out.1.trans ((KeepsOthers.setCell _ _ _).from _), ⟨by rw [hB.out]; exact HI2.out.l6.set _, (HI2.out.setR HWB.out false).bl⟩, rfl⟩
  case done =>
    rintro D ys U hD rfl ⟨hI, _⟩ hKD
    rw [numd_len, HGL.out] at hI
    have l4 := hI.l4.cell
    have l6 := hI.l6.cell
    have l6f := hI.l6.frozen
    have l7 := hI.l7.cell
    have HI := Lib.hid hI
    have HKD := Lib.hid hKD
    clear hI hKD
    gi_wp2
    refine leave_goes ((KeepsOthers.setCell _ _ _).same D _ HKD.out rfl) (HI.out.l6.set _) (HI.out.setR HWB2.out true).bl (by rw [HSZ.out] at hD; rw [HBW.out]; omega) (fun w hw => ?_)
    simp [results, Tryz.results17, go_sem, hw]
  case stop =>
    rintro D cd pre U hD hsp ⟨⟨hE, hBl⟩, rfl⟩ hKD
    rw [(HPF.out pre).2 hsp] at hE
    gi_wp2
    refine leave_goes hKD hE hBl (by rw [HSZ.out] at hD; rw [HBW.out]; omega) (fun w hw => ?_)
    simp [results, Tryz.results17, go_sem, hw]
end Go.Proofs.YtimhhacfjgbomaaGreatDoor
