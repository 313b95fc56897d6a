/-
  THE WALKS of the reference's wide numbers: the other sign; the sum.
-/
import Derived.Test.YtlokoepljmlcgaaWidf
namespace Go.Proofs.Ytlokoepljmlcgaa
set_option linter.unusedSimpArgs false
set_option linter.unusedVariables false
open Go.RowKit

theorem negated_any (neg : Bool) (a : Option Addr) (n cap : Nat) (w : World) :
    Calls Try.prog 40 #[.agg #[.bool neg, .slice a n cap]] w fun e w' => e = .returned (.agg #[.bool (!neg), .slice a n cap]) ∧ Below w.heap.size w w' := by
  go_enter Try.func40, Try.ntmps40
  go_wp2
  exact bodyPost_ret (v := .agg #[.bool (!neg), .slice a n cap]) (by simp [results, Try.results40, go_sem]) rfl ⟨rfl, (ballocR _ _).alloc (by simp) _⟩

/-- What a sum's walk holds at each round: the boxes of what came in, of what is handed back, of what grows; the digits so far. -/
structure Summing (w wr : World) (T e : TypeId) (na : Bool) (sa : Value) (nb : Bool) (sb : Value) (no : Bool) (ov : Value) (k : Nat) (os : List Int) : Prop where
  A : Box2 wr w.heap.size (.bool na) sa T
  B : Box2 wr (w.heap.size + 1) (.bool nb) sb T
  R : Box2 wr (w.heap.size + 1 + 1) (.bool false) (.slice none 0 0) T
  O : Box2 wr (w.heap.size + 1 + 1 + 1) (.bool no) ov T
  own : wr.ownsRow (w.heap.size + 4) e 1 ov k (os.map (Value.int .i64))
  size : w.heap.size + 4 ≤ wr.heap.size
  below : Below w.heap.size w wr

theorem Summing.drewN {w wr : World} {T e : TypeId} {na : Bool} {sa : Value} {nb : Bool} {sb : Value} {no : Bool} {ov : Value} {k : Nat} {os : List Int} (h : Summing w wr T e na sa nb sb no ov k os) (n : Nat) : Summing w (wr.drewN n) T e na sa nb sb no ov k os :=
  ⟨h.A, h.B, h.R, h.O, h.own, h.size, bdrewN h.below n⟩
/-- Behind an append to what grows, and its store. -/
theorem Summing.step {w wr w1 : World} {T e : TypeId} {na : Bool} {sa : Value} {nb : Bool} {sb : Value} {no : Bool} {ov v' : Value} {k : Nat} {os : List Int} {d : Int} {o : Obj} (h : Summing w wr T e na sa nb sb no ov k os)
    (ho : w1.ownsRow (w.heap.size + 4) e 1 v' (k + 1) (os.map (Value.int .i64) ++ [.int .i64 d])) (hg : (wr.alloc o).grownBy w1 ov.ownBlock) :
    Summing w (w1.setCell ⟨w.heap.size + 1 + 1 + 1, 1, none⟩ v') T e na sa nb sb no v' (k + 1) (os ++ [d]) ∧ Box2 w1 (w.heap.size + 1 + 1 + 1) (.bool no) ov T := by
  have hbb : Below (w.heap.size + 4) wr w1 := below_append (Below.refl _ _) h.size h.own hg
  have h1 := h.A.below hbb (by omega); have h2 := h.B.below hbb (by omega); have h3 := h.R.below hbb (by omega); have h4 := h.O.below hbb (by omega)
  refine ⟨⟨h1.other _ (by dsimp only; omega) _, h2.other _ (by dsimp only; omega) _, h3.other _ (by dsimp only; omega) _, h4.set1 _, ?_, ?_, ?_⟩, h4⟩
  · have : w1.ownsRow (w.heap.size + 4) e 1 v' (k + 1) ((os ++ [d]).map (Value.int .i64)) := by simpa using ho
    exact ownsRow_setCell_below this (by simp) _
  · have := hbb.size; have := h.size; simp [World.setCell]; omega
  · exact (h.below.trans (hbb.mono (by omega))).setCell (by dsimp only; omega) _

/-- At the end: what has grown is laid into what is handed back. -/
theorem Summing.finish {w wr : World} {T e : TypeId} {na : Bool} {sa : Value} {nb : Bool} {sb : Value} {no : Bool} {ov : Value} {k : Nat} {os : List Int} (h : Summing w wr T e na sa nb sb no ov k os) :
    Box2 ((wr.setCell ⟨w.heap.size + 1 + 1, 0, none⟩ (.bool no)).setCell ⟨w.heap.size + 1 + 1, 1, none⟩ ov) (w.heap.size + 1 + 1) (.bool no) ov T ∧
    DigitsAt ((wr.setCell ⟨w.heap.size + 1 + 1, 0, none⟩ (.bool no)).setCell ⟨w.heap.size + 1 + 1, 1, none⟩ ov) ov os ∧
    Below w.heap.size w ((wr.setCell ⟨w.heap.size + 1 + 1, 0, none⟩ (.bool no)).setCell ⟨w.heap.size + 1 + 1, 1, none⟩ ov) :=
  ⟨h.R.both _ _, digitsAt_owns (ownsRow_setCell_below (ownsRow_setCell_below h.own (by dsimp only; omega) _) (by dsimp only; omega) _),
    (h.below.setCell (p := ⟨w.heap.size + 1 + 1, 0, none⟩) (by dsimp only; omega) _).setCell (p := ⟨w.heap.size + 1 + 1, 1, none⟩) (by dsimp only; omega) _⟩
theorem Summing.start (w : World) (T e : TypeId) (na : Bool) (sa : Value) (nb : Bool) (sb : Value) (no : Bool) :
    Summing w ((((w.alloc (.cells #[.bool na, sa] T)).alloc (.cells #[.bool nb, sb] T)).alloc (.cells #[.bool false, .slice none 0 0] T)).alloc (.cells #[.bool no, .slice none 0 0] T)) T e na sa nb sb no (.slice none 0 0) 0 [] := by
  refine ⟨(((Box2.new w _ _ _).alloc _).alloc _).alloc _, ((Box2.second w _ _ _ _).alloc _).alloc _, ?_, ?_, World.ownsRow_nil _ _ _ _, by simp, (((ballocR _ _).alloc (by simp) _).alloc (by simp; omega) _).alloc (by simp; omega) _⟩
  · have := (Box2.second (w.alloc (.cells #[.bool na, sa] T)) (.cells #[.bool nb, sb] T) (.bool false) (.slice none 0 0) T).alloc (.cells #[.bool no, .slice none 0 0] T)
    rwa [World.size_alloc] at this
  · have := Box2.second ((w.alloc (.cells #[.bool na, sa] T)).alloc (.cells #[.bool nb, sb] T)) (.cells #[.bool false, .slice none 0 0] T) (.bool no) (.slice none 0 0) T
    rwa [World.size_alloc, World.size_alloc] at this

set_option maxRecDepth 100000 in
set_option maxHeartbeats 4000000 in
theorem wideAdd_same (neg : Bool) (a : Option Addr) (n cap : Nat) (ds : List Int) (a' : Option Addr) (m cap' : Nat) (es : List Int) (w : World) (hn : Hid (n = ds.length)) (hm : Hid (m = es.length)) (hr : RowAt w a .i64 ds) (hr' : RowAt w a' .i64 es) (hD : Dig ds) (hE : Dig es)
    (hl : n ≤ 1000000) (hl' : m ≤ 1000000) :
    Calls Try.prog 37 #[.agg #[.bool neg, .slice a n cap], .agg #[.bool neg, .slice a' m cap']] w (RetWide (fun ng os => sgv ng os = sgv neg ds + sgv neg es ∧ os.length = max n m + 1) w) := by
  obtain ⟨i0, hi, hz0, hz1, hz2⟩ := info_parts Try.info3
  have HR := Lib.hid hr; have HR' := Lib.hid hr'; have HD := Lib.hid hD; have HE := Lib.hid hE
  clear hr hr' hD hE
  obtain ⟨x, hx⟩ : ∃ x, x = max n m := ⟨_, rfl⟩
  rw [← hx]
  have hxl : x ≤ 1000000 := by omega
  have HX := Lib.hid hx; clear hx
  have hmx : (m = x ∧ n < m) ∨ (n = x ∧ ¬ n < m) := by have := HX.out; omega
  rcases hmx with ⟨rfl, hnm⟩ | ⟨rfl, hnm⟩
  all_goals
    go_enter Try.func37, Try.ntmps37
    go_wp2
    go_loopg [7, 8] (max n m + 1) (fun gk c i wr => ∃ (k : Nat) (cv : Int) (os : List Int) (ov : Value), gk = max n m + 1 - k ∧ k ≤ max n m + 1 ∧ i = .int .i64 k ∧ c = .int .i64 cv ∧ AddAt ds es os k cv ∧ Summing w wr 55 3 neg (.slice a n cap) neg (.slice a' m cap') neg ov k os)
    case atStart => exact ⟨0, 0, [], .slice none 0 0, rfl, by omega, rfl, rfl, addAt_zero _ _, Summing.start _ _ _ _ _ _ _ _⟩
    case round =>
      obtain ⟨k, cv, os, ov, hgk, hk, rfl, rfl, hA, hS⟩ := hrel
      have HK := Lib.hid hgk; have HA := Lib.hid hA; have HS := Lib.hid hS
      clear hgk hA hS
      obtain ⟨av, cap0, rfl⟩ := owns_form HS.out.own
      by_cases hlt : k < max n m + 1
      · have hRr := HR.out.below HS.out.below
        have hRr' := HR'.out.below HS.out.below
        have HN := Lib.hid (addAt_succ HA.out HD.out HE.out)
        have hdg : ∀ w', RowAt w' a .i64 ds → Calls Try.prog 45 #[.slice a n cap, .int .i64 k] w' fun e w'' => e = .returned (.int .i64 (ds.getD k 0)) ∧ w'' = w' := fun w' h => digit_q a n cap k ds w' hn h
        have hdg' : ∀ w', RowAt w' a' .i64 es → Calls Try.prog 45 #[.slice a' m cap', .int .i64 k] w' fun e w'' => e = .returned (.int .i64 (es.getD k 0)) ∧ w'' = w' := fun w' h => digit_q a' m cap' k es w' hm h
        obtain ⟨d0, d1⟩ := HD.out.getD k
        obtain ⟨e0, e1⟩ := HE.out.getD k
        have hc := HA.out.2.2
        obtain ⟨q0, q1, _⟩ := hc
        generalize ds.getD k 0 = x at *
        generalize es.getD k 0 = y at *
        have hw1 : IntKind.i64.wrap (x + y) = x + y := IntWalk.i64_in _ (by omega)
        have hw2 : IntKind.i64.wrap (x + y + cv) = x + y + cv := IntWalk.i64_in _ (by omega)
        have hs0 : 0 ≤ x + y + cv := by omega
        have hDG := Lib.hid hdg; have hDG' := Lib.hid hdg'; clear hdg hdg'
        have HRr := Lib.hid hRr; have HRr' := Lib.hid hRr'; clear hRr hRr'
        have b1 := HS.out.A.c1; have b2 := HS.out.B.c1
        go_wp2_with fail
        go_quiet ((first | (go_at_call_of 45 (Value.slice a n cap); exact Calls.quiet_of_same (hDG.out _ HRr.out)) | (go_at_call_of 45 (Value.slice a' m cap'); exact Calls.quiet_of_same (hDG'.out _ HRr'.out))))
        have HSn := Lib.hid (HS.out.drewN nq)
        obtain ⟨wq, hwq⟩ : ∃ wq, wq = wr.drewN nq := ⟨_, rfl⟩
        rw [← hwq] at HSn ⊢
        clear hwq HS b1 b2
        have o1 := HSn.out.O.c1
        have c3 : k + 1 ≤ maxLen := by unfold maxLen; omega
        have c4 : (k + 1) * 8 ≤ 140737488355328 := by omega
        have HB2 : Hid (w.heap.size + 4 ≤ (wq.alloc (.cells #[.int .i64 ((x + y + cv) % 65536)] 3)).heap.size) := by have := HSn.out.size; show _ ≤ _; simp; omega
        have C3 := Lib.hid c3; have C4 := Lib.hid c4; clear c3 c4
        go_wp2_with ((at_builtin; refine wpList_append_own _ rfl _ _ 53 rfl (w.heap.size + 4) 3 i0 (.int .i64 0) 1 8 Try.underlying53 hi hz0 hz1 hz2 rfl (by decide) _ _ _ rfl (HSn.out.own.alloc _) ⟨wq.heap.size, 0, none⟩ 1 1 [.int .i64 ((x + y + cv) % 65536)] rfl rfl (one_new _ _ _) one_int C3.out C4.out HB2.out ?_; intro v' w1 hown' hgrow _; obtain ⟨av', cv', rfl⟩ := owns_form hown'; have HT := Lib.hid (HSn.out.step hown' hgrow); have t1 := HT.out.2.c1; have t2 := HT.out.2.fr 1))
        go_roundg (max n m + 1 - (k + 1))
        case measure => have := HK.out; omega
        case rel => exact ⟨k + 1, _, _, _, rfl, by omega, by go_num, rfl, HN.out, HT.out.1⟩
      · obtain rfl : k = max n m + 1 := by omega
        have HF := Lib.hid (addAt_end HA.out HD.out HE.out (by have := hn.out; omega) (by have := hm.out; omega))
        have c0 := HS.out.O.c0; have c1 := HS.out.O.c1
        have r0 := HS.out.R.c0; have r1 := HS.out.R.c1
        have g0 := HS.out.R.fr 0; have g1 := HS.out.R.fr 1
        go_wp2
        obtain ⟨hb, hd, hbel⟩ := HS.out.finish
        have k0 := hb.c0; have k1 := hb.c1
        generalize (wr.setCell ⟨w.heap.size + 1 + 1, 0, none⟩ (.bool neg)).setCell ⟨w.heap.size + 1 + 1, 1, none⟩ (.slice av (max n m + 1) cap0) = W at *
        refine bodyPost_ret (v := .agg #[.bool neg, .slice av (max n m + 1) cap0]) (by simp [results, Try.results37, go_sem, k0, k1]) rfl ⟨neg, .slice av (max n m + 1) cap0, os, rfl, hd, HF.out.2.1, ⟨?_, by have := HF.out.2.2; omega⟩, hbel⟩
        unfold sgv
        rw [HF.out.1]
        split <;> omega
end Go.Proofs.Ytlokoepljmlcgaa
