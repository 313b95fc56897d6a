/-
  THE WALK OF value.all: an iterator over a value and all in it, with how deep each lies: its contract, for every value (a tree of nodes in memory) and every loop body.
-/
import Derived.RangeFuncNested
import Derived.RangeFuncBound
import Derived.RangeFuncCalls
import Derived.RangeFuncLeaves
import Derived.Shelf.Abstract
import Derived.Shelf.RegionOpen
import Derived.WalkKit
import Derived.OwnWalkIn
import Derived.TacticsInMore
import Derived.LoopNIn
import Derived.LoopIn
import Derived.Test.YtlokoepljmlcgaaDoorLib
import Derived.Test.YtlokoepljmlcgaaDoorProg
namespace Go.Proofs.YtlokoepljmlcgaaDoor
set_option linter.unusedSimpArgs false
set_option linter.unusedVariables false
open Go.RowKit Go.Shelf
attribute [local go_sem] Oper.semAt_some

/-- A value alone, as its cells hold it. -/
structure Nd where
  k : Int
  b : Bool
  n : Int
  t : ByteArray
  ka : Option Addr
  kl : Nat
  kc : Nat
  la : Option Addr
  ll : Nat
  lc : Nat
  ks : List ByteArray
def Nd.val (x : Nd) : Value := .agg #[.int .i64 x.k, .bool x.b, .int .i64 x.n, .string x.t, .slice x.ka x.kl x.kc, .slice x.la x.ll x.lc]

/-- Values one behind the other, each with those in it. -/
inductive Fo where
  | nil
  | cons (x : Nd) (c r : Fo)
def Fo.len : Fo → Nat
  | .nil => 0
  | .cons _ _ r => r.len + 1
/-- Its keys lie in blocks below n₀. -/
def Nd.Keys (n₀ : Nat) (W : World) (x : Nd) : Prop := x.kl = x.ks.length ∧ (x.ks = [] ∨ ∃ b' o', x.ka = some ⟨b', o', none⟩ ∧ b' < n₀ ∧ ∀ (i : Nat) (s : ByteArray), x.ks[i]? = some s → W.cell? ⟨b', o' + i, none⟩ = some (.string s))
/-- A value's cells from a place on. -/
def Nd.Cells (W : World) (x : Nd) (b o : Nat) : Prop := W.cell? ⟨b, o, none⟩ = some (.int .i64 x.k) ∧ W.cell? ⟨b, o + 1, none⟩ = some (.bool x.b) ∧ W.cell? ⟨b, o + 2, none⟩ = some (.int .i64 x.n) ∧ W.cell? ⟨b, o + 3, none⟩ = some (.string x.t) ∧
      W.cell? ⟨b, o + 4, none⟩ = some (.slice x.ka x.kl x.kc) ∧ W.cell? ⟨b, o + 5, none⟩ = some (.slice x.la x.ll x.lc)
/-- They lie in memory from a place on, in blocks below n₀. -/
def Fo.At (n₀ : Nat) (W : World) : Nat → Nat → Fo → Prop
  | _, _, .nil => True
  | b, o, .cons x c r => (b < n₀ ∧ x.Cells W b o ∧ x.Keys n₀ W) ∧ (x.ll = c.len ∧ (c = .nil ∨ ∃ b' o', x.la = some ⟨b', o', none⟩ ∧ Fo.At n₀ W b' o' c)) ∧ Fo.At n₀ W b (o + 6) r
/-- What a value's own list holds. -/
def Nd.In (n₀ : Nat) (W : World) (x : Nd) (c : Fo) : Prop := x.ll = c.len ∧ (c = .nil ∨ ∃ b' o', x.la = some ⟨b', o', none⟩ ∧ Fo.At n₀ W b' o' c)

/-- Cells below n₀ that hold a value hold it still. -/
def Cellsy (n₀ : Nat) (A B : World) : Prop := ∀ (p : Addr) (v : Value), p.block < n₀ → A.cell? p = some v → B.cell? p = some v
theorem Cellsy.of_below {n₀ : Nat} {A B : World} (h : Below n₀ A B) : Cellsy n₀ A B := fun p v hp hv => (h.cell (p := p) hp).trans hv
theorem Nd.Keys.keep {n₀ : Nat} {A B : World} (h : Cellsy n₀ A B) {x : Nd} (hk : x.Keys n₀ A) : x.Keys n₀ B :=
  ⟨hk.1, hk.2.elim .inl (fun ⟨b', o', e, hb, hc⟩ => .inr ⟨b', o', e, hb, fun i s hs => h _ _ hb (hc i s hs)⟩)⟩
theorem Nd.Cells.keep {n₀ : Nat} {A B : World} (h : Cellsy n₀ A B) {x : Nd} {b o : Nat} (hb : b < n₀) (hc : x.Cells A b o) : x.Cells B b o :=
  ⟨h _ _ hb hc.1, h _ _ hb hc.2.1, h _ _ hb hc.2.2.1, h _ _ hb hc.2.2.2.1, h _ _ hb hc.2.2.2.2.1, h _ _ hb hc.2.2.2.2.2⟩
theorem Fo.At.keep {n₀ : Nat} {A B : World} (h : Cellsy n₀ A B) : ∀ {b o : Nat} {F : Fo}, Fo.At n₀ A b o F → Fo.At n₀ B b o F
  | _, _, .nil, _ => trivial
  | b, o, .cons x c r, ⟨⟨hb, hx, hk⟩, hc, hr⟩ => by
    refine ⟨⟨hb, hx.keep h hb, hk.keep h⟩, ⟨hc.1, ?_⟩, Fo.At.keep h hr⟩
    rcases hc.2 with e | ⟨b', o', e, hc'⟩
    · exact .inl e
    · exact .inr ⟨b', o', e, Fo.At.keep h hc'⟩
theorem Nd.In.keep {n₀ : Nat} {A B : World} (h : Cellsy n₀ A B) {x : Nd} {c : Fo} (hc : x.In n₀ A c) : x.In n₀ B c :=
  ⟨hc.1, hc.2.elim .inl (fun ⟨b', o', e, h'⟩ => .inr ⟨b', o', e, h'.keep h⟩)⟩

/-- What may turn: cells of the blocks from n₀ up to n₁ alone (and what is no cells). -/
structure Kb (n₀ n₁ : Nat) (A B : World) : Prop where
  size : A.heap.size ≤ B.heap.size
  same : ∀ (k : Nat) (o : Obj), A.heap[k]? = some o → o.isCells = true → (k < n₀ ∨ n₁ ≤ k) → B.heap[k]? = some o
theorem Kb.refl (n₀ n₁ : Nat) (A : World) : Kb n₀ n₁ A A := ⟨Nat.le_refl _, fun _ _ h _ _ => h⟩
theorem Kb.trans {n₀ n₁ : Nat} {A B C : World} (h : Kb n₀ n₁ A B) (k : Kb n₀ n₁ B C) : Kb n₀ n₁ A C :=
  ⟨Nat.le_trans h.size k.size, fun i o hi ho hn => k.same i o (h.same i o hi ho hn) ho hn⟩
theorem Kb.grown {n₀ n₁ : Nat} {A B : World} (h : A.grownBy B none) : Kb n₀ n₁ A B :=
  ⟨h.size, fun i o hi _ _ => (h.block i (Array.getElem?_eq_some_iff.1 hi).1 (by simp)).trans hi⟩
theorem Kb.alloc {n₀ n₁ : Nat} (A : World) (o : Obj) : Kb n₀ n₁ A (A.alloc o) := Kb.grown (World.grownBy_alloc A o none)
theorem Kb.turn {n₀ n₁ : Nat} (A : World) (l : Nat) (o o' : Obj) (_ : n₀ ≤ l) (h : A.heap[l]? = some o) (ho : o.isCells = false) (_ : o.isWalk = false) : Kb n₀ n₁ A (A.putObj l o') :=
  ⟨by simp, fun i u hi hu _ => by
    have hne : i ≠ l := fun e => by subst e; rw [h] at hi; cases hi; rw [hu] at ho; cases ho
    exact (World.putObj_heap_other hne).trans hi⟩
theorem Kb.below {n₀ n₁ : Nat} {A B : World} {m : Nat} (h : Below m A B) (hm : A.heap.size ≤ m) : Kb n₀ n₁ A B :=
  ⟨h.size, fun i o hi _ _ => (h.block i (Nat.lt_of_lt_of_le (Array.getElem?_eq_some_iff.1 hi).1 hm)).trans hi⟩
theorem Kb.cell {n₀ n₁ : Nat} {A B : World} (h : Kb n₀ n₁ A B) {p : Addr} {v : Value} (hv : A.cell? p = some v) (hn : p.block < n₀ ∨ n₁ ≤ p.block) : B.cell? p = some v := by
  obtain ⟨o, ho, hc⟩ := cells_of_cell hv
  exact (World.cell?_of_block ((h.same _ o ho hc hn).trans ho.symm)).trans hv
theorem Kb.cells {n₀ n₁ : Nat} {A B : World} (h : Kb n₀ n₁ A B) : Cellsy n₀ A B := fun p v hp hv => h.cell hv (.inl hp)

/-- All of them, each before those in it, with how deep. -/
def Fo.pre : Nat → Fo → List (Nat × Nd × Fo)
  | _, .nil => []
  | d, .cons x c r => (d, x, c) :: (Fo.pre (d + 1) c ++ Fo.pre d r)
/-- A value and all in it. -/
def Nd.pre (d : Nat) (x : Nd) (c : Fo) : List (Nat × Nd × Fo) := (d, x, c) :: Fo.pre (d + 1) c
theorem Fo.pre_cons (d : Nat) (x : Nd) (c r : Fo) : Fo.pre d (.cons x c r) = Nd.pre d x c ++ Fo.pre d r := rfl

/-- What a round is handed. -/
def encV (e : Nat × Nd × Fo) : Array Value := #[.int .i64 e.1, e.2.1.val]
theorem Fo.len_le (d : Nat) : ∀ F : Fo, F.len ≤ (F.pre d).length
  | .nil => Nat.zero_le _
  | .cons x c r => by
    have := Fo.len_le d r
    simp only [Fo.len, Fo.pre, List.length_cons, List.length_append]
    omega

/-- What is asked of goes at a value. -/
def Goes {α : Type} (F : Fence) (n₀ n₁ N yb gb l : Nat) (encs : α → Array Value) (J Jx : List α → World → Prop) (x : Nd) (c : Fo) : Prop :=
  ∀ (n d : Nat) (ys pre : List α) (W : World), ys.map encs = (Nd.pre d x c).map encV → x.In n₀ W c → J pre W → pre.length + ys.length ≤ N → d ≤ pre.length + 1 →
    n₁ ≤ W.heap.size → W.cell? ⟨yb, 0, none⟩ = some (.func (.yield l) #[] #[]) → W.cell? ⟨gb, 0, none⟩ = some (.func (.func 58) #[] #[.pointer (some ⟨yb, 0, none⟩), .pointer (some ⟨gb, 0, none⟩)]) →
    CallsIn F n Tryd.prog 58 #[x.val, .int .i64 d, .pointer (some ⟨yb, 0, none⟩), .pointer (some ⟨gb, 0, none⟩)] W fun e W' =>
      (e = .returned (.bool true) ∧ J (pre ++ ys) W' ∧ Kb n₀ n₁ W W') ∨ (e = .returned (.bool false) ∧ ∃ q, q <+: ys ∧ Jx (pre ++ q) W')
def GoesAll {α : Type} (F : Fence) (n₀ n₁ N yb gb l : Nat) (encs : α → Array Value) (J Jx : List α → World → Prop) : Fo → Prop
  | .nil => True
  | .cons x c r => Goes F n₀ n₁ N yb gb l encs J Jx x c ∧ GoesAll F n₀ n₁ N yb gb l encs J Jx r

/-- How far the loop over a list has come. -/
structure Going {α : Type} (F : Fence) (n₀ n₁ N yb gb l : Nat) (encs : α → Array Value) (J Jx : List α → World → Prop) (W : World) (y : α) (yr pre : List α) (la : Option Addr) (ll d : Nat) (i : Nat) (wr : World) (R : Fo) (dn rest : List α) : Prop where
  len : i + R.len = ll
  at_ : R = .nil ∨ ∃ b o, la = some ⟨b, o, none⟩ ∧ Fo.At n₀ wr b (o + i * 6) R
  all : GoesAll F n₀ n₁ N yb gb l encs J Jx R
  ys : yr = dn ++ rest
  enc : rest.map encs = (Fo.pre (d + 1) R).map encV
  j : J (pre ++ y :: dn) wr
  k : Kb n₀ n₁ W wr
  cy : wr.cell? ⟨yb, 0, none⟩ = some (.func (.yield l) #[] #[])
  cg : wr.cell? ⟨gb, 0, none⟩ = some (.func (.func 58) #[] #[.pointer (some ⟨yb, 0, none⟩), .pointer (some ⟨gb, 0, none⟩)])

set_option maxRecDepth 100000 in
set_option maxHeartbeats 2000000 in
/-- **goes**: a value and all in it, one by one. -/
theorem goes_step {α : Type} (F : Fence) (hd : F.depth = none) (h58 : F.fn 58) (hro : F.round = none) (l n₀ n₁ N yb gb : Nat) (encs : α → Array Value) (J Jx : List α → World → Prop)
    (hN : N ≤ 1099511627776) (hyb : n₁ ≤ yb) (hgb : n₁ ≤ gb)
    (hJ : ∀ s A B, J s A → A.grownBy B none → J s B)
    (hY : ∀ m pre x W, J pre W → pre.length < N → YieldAt F m Tryd.prog l (encs x) W fun e W' =>
      (e = .returned (.bool true) ∧ J (pre ++ [x]) W' ∧ Kb n₀ n₁ W W') ∨ (e = .returned (.bool false) ∧ Jx (pre ++ [x]) W')) (x : Nd) (c : Fo)
    (ih : GoesAll F n₀ n₁ N yb gb l encs J Jx c) : Goes F n₀ n₁ N yb gb l encs J Jx x c := by
  intro n d ys pre W hys hx hj hl hdd hn cy cg
  obtain ⟨y, yr, rfl⟩ : ∃ y yr, ys = y :: yr := by cases ys with
    | nil => simp [Nd.pre] at hys
    | cons y yr => exact ⟨y, yr, rfl⟩
  simp only [List.map_cons, Nd.pre, List.cons.injEq] at hys
  obtain ⟨hy0, hyr⟩ := hys
  obtain ⟨k, b, nn, t, ka, kl, kc, la, ll, lc, ks⟩ := x
  simp only [Nd.val] at hy0 ⊢
  simp only [encV, Nd.val] at hy0
  have g0 := World.grownBy_alloc W (.cells #[.int .i64 k, .bool b, .int .i64 nn, .string t, .slice ka kl kc, .slice la ll lc] 30) none
  have cb0 : (W.alloc (.cells #[.int .i64 k, .bool b, .int .i64 nn, .string t, .slice ka kl kc, .slice la ll lc] 30)).cell? ⟨W.heap.size, 5, none⟩ = some (.slice la ll lc) := by unfold World.cell?; rw [World.alloc_heap_new W _]; rfl
  have cy1 := cell_kept cy g0 (fun r e => by cases e)
  have cg1 := cell_kept cg g0 (fun r e => by cases e)
  have hy1 := (hY (n - 1) pre y _ (hJ pre W _ hj g0) (by simp at hl; omega)).mono (R' := fun e W' => (e = .returned (.bool true) ∧ (J (pre ++ [y]) W' ∧ Kb n₀ n₁ W W' ∧ W'.cell? ⟨yb, 0, none⟩ = some (.func (.yield l) #[] #[]) ∧
      W'.cell? ⟨gb, 0, none⟩ = some (.func (.func 58) #[] #[.pointer (some ⟨yb, 0, none⟩), .pointer (some ⟨gb, 0, none⟩)])) ∧ W'.cell? ⟨W.heap.size, 5, none⟩ = some (.slice la ll lc)) ∨ (e = .returned (.bool false) ∧ Jx (pre ++ [y]) W'))
    (fun e W' h => h.elim (fun ⟨he, hj, hk⟩ => .inl ⟨he, ⟨hj, (Kb.grown g0).trans hk, hk.cell cy1 (.inr hyb), hk.cell cg1 (.inr hgb)⟩, hk.cell cb0 (.inr hn)⟩) .inr)
  rw [hy0] at hy1
  obtain ⟨fn, tmps, assign, body, hy, hR⟩ := hy1
  clear hj cb0
  have hdc : ∀ k : Nat, (F.depth.isSome = true → 1 ≤ k) := fun k h => by rw [hd] at h; cases h
  refine callsIn_of_wp Tryd.func58 rfl h58 ?_ hro
  simp only [Tryd.ntmps58, List.size_toArray, List.length_cons, List.length_nil, Nat.reduceAdd, Nat.reduceSub, Array.replicate_succ, Array.replicate_zero, List.push_toArray, List.append_toArray, List.nil_append, List.cons_append]
  gi_wp2_with (((try refine ⟨hdc _, ?_⟩); refine hR.mono ?_; clear hR; rintro e W2 (⟨rfl, hJ2, cb2⟩ | ⟨rfl, hx2⟩)))
  · clear hy cy1 cg1 hy0
    gi_loopw [17] (fun p wr => ∃ (i : Nat) (R : Fo) (dn rest : List α), p = .int .i64 i ∧ Going F n₀ n₁ N yb gb l encs J Jx W y yr pre la ll d i wr R dn rest) (fun p _ => ll - (intOf p).toNat)
    case atStart =>
      refine ⟨0, c, [], yr, rfl, ?_⟩
      exact { len := by rw [Nat.zero_add]; exact hx.1.symm, at_ := (hx.keep hJ2.2.1.cells).2.elim .inl (fun ⟨b, o, e, h⟩ => .inr ⟨b, o, e, by simpa using h⟩), all := ih, ys := rfl, enc := hyr, j := hJ2.1, k := hJ2.2.1, cy := hJ2.2.2.1, cg := hJ2.2.2.2 }
    case round =>
      obtain ⟨i, R, dn, rest, rfl, G⟩ := hrel
      have hlen := G.len
      have hyl : ll ≤ 1099511627776 := by
        have h1 := Fo.len_le (d + 1) c
        have h2 : yr.length = (Fo.pre (d + 1) c).length := by simpa using congrArg List.length hyr
        have h3 := hx.1
        simp at hl h3; omega
      cases R with
      | nil =>
        obtain rfl : i = ll := by simpa [Fo.len] using hlen
        clear hlen
        gi_wp2
        go_ret
        obtain rfl : rest = [] := by simpa [Fo.pre] using G.enc
        have hys := G.ys
        rw [List.append_nil] at hys
        subst hys
        exact .inl ⟨rfl, G.j, G.k⟩
      | cons x' c' r' =>
        have hlt : i < ll := by simp [Fo.len] at hlen; omega
        obtain ⟨bb, oo, rfl, ⟨hbb, hcs, hks⟩, hin, hat⟩ : ∃ b o, la = some ⟨b, o, none⟩ ∧ Fo.At n₀ wr b (o + i * 6) (.cons x' c' r') := by
          rcases G.at_ with e | h
          · cases e
          · exact h
        have hin' : Nd.In n₀ wr x' c' := hin
        clear hin
        obtain ⟨dx, rx, rfl, hdx, hrx⟩ : ∃ dx rx, rest = dx ++ rx ∧ dx.map encs = (Nd.pre (d + 1) x' c').map encV ∧ rx.map encs = (Fo.pre (d + 1) r').map encV := by
          have h := G.enc
          rw [Fo.pre_cons, List.map_append] at h
          exact List.map_eq_append_iff.1 h
        obtain ⟨gx, hP⟩ := G.all
        obtain ⟨k', b', nn', t', ka', kl', kc', la', ll', lc', ks'⟩ := x'
        obtain ⟨c0, c1, c2, c3, c4, c5⟩ := hcs
        simp only at c0 c1 c2 c3 c4 c5
        have g2 := World.grownBy_alloc wr (.cells #[.int .i64 k', .bool b', .int .i64 nn', .string t', .slice ka' kl' kc', .slice la' ll' lc'] 30) none
        have cy2 := cell_kept G.cy g2 (fun r e => by cases e)
        have cg2 := cell_kept G.cg g2 (fun r e => by cases e)
        have hys := G.ys
        have hgo := gx (n - 1) (d + 1) dx (pre ++ y :: dn) _ hdx (hin'.keep (Kb.grown g2 : Kb n₀ n₁ _ _).cells) (hJ _ _ _ G.j g2) (by subst hys; simp at hl ⊢; omega) (by simp; omega) (by have := G.k.size; simp; omega) cy2 cg2
        simp only [Nd.val] at hgo
        have hd1 : ((d + 1 : Nat) : Int) = (d : Int) + 1 := by simp
        rw [hd1] at hgo
        have hd2 : d ≤ 1099511627777 := by simp at hl; omega
        have hi2 : i ≤ 1099511627777 := by omega
        replace hgo := hgo.mono (R' := fun e W' => (e = .returned (.bool true) ∧ Going F n₀ n₁ N yb gb l encs J Jx W y yr pre (some ⟨bb, oo, none⟩) ll d (i + 1) W' r' (dn ++ dx) rx) ∨ (e = .returned (.bool false) ∧ ∃ q, q <+: y :: yr ∧ Jx (pre ++ q) W'))
          (fun e W' h => h.elim (fun ⟨he, hj, hk⟩ => .inl ⟨he,
            { len := by simp [Fo.len] at hlen ⊢; omega
              at_ := .inr ⟨bb, oo, rfl, by
                have h1 := (hat.keep (Kb.grown g2 : Kb n₀ n₁ _ _).cells).keep hk.cells
                have h2 : oo + i * 6 + 6 = oo + (i + 1) * 6 := by omega
                rw [h2] at h1; exact h1⟩
              all := hP, ys := by rw [hys]; simp, enc := hrx, j := by simpa using hj, k := (G.k.trans (Kb.grown g2)).trans hk, cy := hk.cell cy2 (.inr hyb), cg := hk.cell cg2 (.inr hgb) }⟩)
            (fun ⟨he, q, ⟨u, hq⟩, hx⟩ => .inr ⟨he, y :: (dn ++ q), ⟨u ++ rx, by rw [hys, ← hq]; simp⟩, by simpa using hx⟩))
        clear gx hP G hys hdx hrx hat hks hin' hd1 hx hyr hJ2 ih hlen
        gi_wp2_with ((try refine ⟨hdc _, ?_⟩); gi_at_call 58; refine hgo.mono ?_; clear hgo; rintro e W3 (⟨rfl, G3⟩ | ⟨rfl, hx3⟩))
        · go_roundw
          case rel => exact ⟨i + 1, r', dn ++ dx, rx, by simp, G3⟩
          case measure => simp [intOf]; omega
        · go_ret
          exact .inr ⟨rfl, hx3⟩
  · go_ret
    exact .inr ⟨rfl, [y], by simp, hx2⟩

end Go.Proofs.YtlokoepljmlcgaaDoor
