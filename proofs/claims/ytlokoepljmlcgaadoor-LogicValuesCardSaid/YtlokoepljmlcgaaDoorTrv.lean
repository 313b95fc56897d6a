/-
  WALKS: a truth's value, a value as a truth, for values without lists.
-/
import Derived.Test.YtlokoepljmlcgaaDoorScal
namespace Go.Proofs.YtlokoepljmlcgaaDoor
set_option linter.unusedSimpArgs false
set_option linter.unusedVariables false
open Go.RowKit Go.Shelf

/-- A block of six cells, known whole. -/
def Six (w : World) (b : Nat) (x : Nd) (t : TypeId) : Prop := w.heap[b]? = some (.cells #[.int .i64 x.k, .bool x.b, .int .i64 x.n, .string x.t, .slice x.ka x.kl x.kc, .slice x.la x.ll x.lc] t (0, 0))
theorem Six.lt {w : World} {b : Nat} {x : Nd} {t : TypeId} (h : Six w b x t) : b < w.heap.size := (Array.getElem?_eq_some_iff.1 h).1
theorem Six.new (w : World) (x : Nd) (t : TypeId) : Six (w.alloc (.cells #[.int .i64 x.k, .bool x.b, .int .i64 x.n, .string x.t, .slice x.ka x.kl x.kc, .slice x.la x.ll x.lc] t)) w.heap.size x t := World.alloc_heap_new w _
theorem Six.next {w w' : World} {b : Nat} {x : Nd} {t : TypeId} (h : Six w b x t) (hb : Below w.heap.size w w') : Six w' b x t := (hb.block b h.lt).trans h
theorem Six.cells {w : World} {b : Nat} {x : Nd} {t : TypeId} (h : Six w b x t) : x.Cells w b 0 := by
  unfold Six at h
  refine ⟨?_, ?_, ?_, ?_, ?_, ?_⟩ <;> simp [World.cell?, h]
theorem Six.fr {w : World} {b : Nat} {x : Nd} {t : TypeId} (h : Six w b x t) (o : Nat) : w.frozen? ⟨b, o, none⟩ = false := by unfold Six at h; simp [World.frozen?, h]

theorem set_at {w : World} {b i : Nat} {c : Array Value} {t : TypeId} {fz : Nat × Nat} (v : Value) (h : w.heap[b]? = some (.cells c t fz)) : (w.setCell ⟨b, i, none⟩ v).heap[b]? = some (.cells (c.setIfInBounds i v) t fz) := by
  obtain ⟨hlt, hk⟩ := Array.getElem?_eq_some_iff.1 h
  show (w.heap.modify b _)[b]? = _
  rw [Array.getElem?_eq_getElem (by rw [Array.size_modify]; exact hlt), Array.getElem_modify_self, hk]
  rfl
theorem Six.set6 {w : World} {b : Nat} {x : Nd} {t : TypeId} (h : Six w b x t) (y : Nd) (n : Nat) (hn : n ≤ b) :
    Six ((((((w.setCell ⟨b, 0, none⟩ (.int .i64 y.k)).setCell ⟨b, 1, none⟩ (.bool y.b)).setCell ⟨b, 2, none⟩ (.int .i64 y.n)).setCell ⟨b, 3, none⟩ (.string y.t)).setCell ⟨b, 4, none⟩ (.slice y.ka y.kl y.kc)).setCell ⟨b, 5, none⟩ (.slice y.la y.ll y.lc)) b y t ∧
    Below n w ((((((w.setCell ⟨b, 0, none⟩ (.int .i64 y.k)).setCell ⟨b, 1, none⟩ (.bool y.b)).setCell ⟨b, 2, none⟩ (.int .i64 y.n)).setCell ⟨b, 3, none⟩ (.string y.t)).setCell ⟨b, 4, none⟩ (.slice y.ka y.kl y.kc)).setCell ⟨b, 5, none⟩ (.slice y.la y.ll y.lc)) :=
  ⟨set_at _ (set_at _ (set_at _ (set_at _ (set_at _ (set_at _ h))))),
   ((((((Below.refl n w).setCell (p := ⟨b, 0, none⟩) hn _).setCell (p := ⟨b, 1, none⟩) hn _).setCell (p := ⟨b, 2, none⟩) hn _).setCell (p := ⟨b, 3, none⟩) hn _).setCell (p := ⟨b, 4, none⟩) hn _).setCell (p := ⟨b, 5, none⟩) hn _⟩

set_option maxRecDepth 100000 in
theorem value_any (t : Int) (w : World) : Calls Tryd.prog 9 #[.int .i64 t] w fun e w' => e = .returned (tv t).val ∧ Below w.heap.size w w' := by
  have hs := Six.new w (sc 0 false 0) 30
  simp only [sc] at hs
  by_cases h1 : pl t = 1
  · have HN := Lib.hid (fun w => null_any w)
    unfold tv
    rw [if_pos h1]
    simp only [sc, Nd.val] at *
    go_enter Tryd.func9, Tryd.ntmps9
    go_wp2_with (first
      | (go_at_call 31; refine (place_any _ _).mono ?_; rw [h1]; rintro e w' ⟨rfl, rfl⟩)
      | (go_at_call 32; refine (HN.out _).mono ?_; rintro e w2 ⟨rfl, hb2⟩; have S := hs.next hb2; obtain ⟨c0, c1, c2, c3, c4, c5⟩ := S.cells; have f0 := S.fr 0; have f1 := S.fr 1; have f2 := S.fr 2; have f3 := S.fr 3; have f4 := S.fr 4; have f5 := S.fr 5; simp only [Nat.zero_add] at c0 c1 c2 c3 c4 c5))
    obtain ⟨S', hb'⟩ := S.set6 (sc 0 false 0) w.heap.size (Nat.le_refl _)
    have hb3 := ((ballocR w _).trans (hb2.mono (by simp))).trans hb'
    clear hb' hb2
    simp only [sc] at S' hb3
    generalize World.setCell _ ⟨w.heap.size, 5, none⟩ _ = V at S' hb3 ⊢
    clear c0 c1 c2 c3 c4 c5 f0 f1 f2 f3 f4 f5
    obtain ⟨c0, c1, c2, c3, c4, c5⟩ := S'.cells
    simp only [Nat.zero_add] at c0 c1 c2 c3 c4 c5
    exact bodyPost_ret (v := .agg #[.int .i64 0, .bool false, .int .i64 0, .string ⟨#[]⟩, .slice none 0 0, .slice none 0 0]) (by simp [results, Tryd.results9, go_sem, c0, c1, c2, c3, c4, c5]) rfl ⟨rfl, hb3⟩
  · have HN := Lib.hid (fun b w => boolv_any b w)
    unfold tv
    rw [if_neg h1]
    have e1 : (pl t == 1) = false := by simpa using h1
    simp only [sc, Nd.val] at *
    go_enter Tryd.func9, Tryd.ntmps9
    go_wp2_with (first
      | (go_at_call 31; refine (place_any _ _).mono ?_; rintro e w' ⟨rfl, rfl⟩)
      | (go_at_call 33; refine (HN.out _ _).mono ?_; rintro e w2 ⟨rfl, hb2⟩; have S := hs.next hb2; obtain ⟨c0, c1, c2, c3, c4, c5⟩ := S.cells; have f0 := S.fr 0; have f1 := S.fr 1; have f2 := S.fr 2; have f3 := S.fr 3; have f4 := S.fr 4; have f5 := S.fr 5; simp only [Nat.zero_add] at c0 c1 c2 c3 c4 c5))
    obtain ⟨S', hb'⟩ := S.set6 (sc 1 (t == 2) 0) w.heap.size (Nat.le_refl _)
    have hb3 := ((ballocR w _).trans (hb2.mono (by simp))).trans hb'
    clear hb' hb2
    simp only [sc] at S' hb3
    generalize World.setCell _ ⟨w.heap.size, 5, none⟩ _ = V at S' hb3 ⊢
    clear c0 c1 c2 c3 c4 c5 f0 f1 f2 f3 f4 f5
    obtain ⟨c0, c1, c2, c3, c4, c5⟩ := S'.cells
    simp only [Nat.zero_add] at c0 c1 c2 c3 c4 c5
    exact bodyPost_ret (v := .agg #[.int .i64 1, .bool (t == 2), .int .i64 0, .string ⟨#[]⟩, .slice none 0 0, .slice none 0 0]) (by simp [results, Tryd.results9, go_sem, c0, c1, c2, c3, c4, c5]) rfl ⟨rfl, hb3⟩

set_option maxRecDepth 100000 in
theorem rvalue_any (t : Int) (w : World) : Calls Tryd.prog 18 #[.int .i64 t] w fun e w' => e = .returned (tv t).val ∧ Below w.heap.size w w' := by
  have S := Six.new w (tv t) 30
  have hb := ballocR w (.cells #[.int .i64 (tv t).k, .bool (tv t).b, .int .i64 (tv t).n, .string (tv t).t, .slice (tv t).ka (tv t).kl (tv t).kc, .slice (tv t).la (tv t).ll (tv t).lc] 30)
  unfold tv at *
  by_cases h1 : pl t = 1
  · rw [if_pos h1] at *
    simp only [sc, Nd.val] at *
    go_enter Tryd.func18, Tryd.ntmps18
    go_wp2_with (go_at_call 35; refine (known_any _ _).mono ?_; rw [h1]; rintro e w' ⟨rfl, rfl⟩)
    generalize w.alloc (.cells #[.int .i64 0, .bool false, .int .i64 0, .string ⟨#[]⟩, .slice none 0 0, .slice none 0 0] 30) = V at S hb ⊢
    obtain ⟨c0, c1, c2, c3, c4, c5⟩ := S.cells
    simp only [Nat.zero_add] at c0 c1 c2 c3 c4 c5
    exact bodyPost_ret (v := .agg #[.int .i64 0, .bool false, .int .i64 0, .string ⟨#[]⟩, .slice none 0 0, .slice none 0 0]) (by simp [results, Tryd.results18, go_sem, c0, c1, c2, c3, c4, c5]) rfl ⟨rfl, hb⟩
  · rw [if_neg h1] at *
    have e1 : (pl t == 1) = false := by simpa using h1
    simp only [sc, Nd.val] at *
    go_enter Tryd.func18, Tryd.ntmps18
    go_wp2_with (go_at_call 35; refine (known_any _ _).mono ?_; rintro e w' ⟨rfl, rfl⟩)
    generalize w.alloc (.cells #[.int .i64 1, .bool (t == 2), .int .i64 0, .string ⟨#[]⟩, .slice none 0 0, .slice none 0 0] 30) = V at S hb ⊢
    obtain ⟨c0, c1, c2, c3, c4, c5⟩ := S.cells
    simp only [Nat.zero_add] at c0 c1 c2 c3 c4 c5
    exact bodyPost_ret (v := .agg #[.int .i64 1, .bool (t == 2), .int .i64 0, .string ⟨#[]⟩, .slice none 0 0, .slice none 0 0]) (by simp [results, Tryd.results18, go_sem, c0, c1, c2, c3, c4, c5]) rfl ⟨rfl, hb⟩

theorem may_sc (k : Int) (b : Bool) (n : Int) : mayB (sc k b n) = bareB (sc k b n) := by
  have h1 : Lib.validD ([] : List UInt8) = true := by decide
  simp [mayB, sc, h1, keysOK]
theorem check_sc (k : Int) (b : Bool) (n : Int) (W : World) (hT : Lib.Utf8Tabs 0 1 W) :
    Calls Tryd.prog 34 #[(sc k b n).val] W fun e w' => e = .returned (.int .i64 (if bareB (sc k b n) then 0 else 110)) ∧ Below W.heap.size W w' := by
  have hv : checkV (sc k b n) .nil = if bareB (sc k b n) then 0 else 110 := by
    have ho : overL [(1, sc k b n, Fo.nil)] = false := rfl
    simp [checkV, Nd.pre, Fo.pre, may_sc, ho]
  have hmem : ∀ e ∈ Nd.pre 1 (sc k b n) .nil, e = (1, sc k b n, Fo.nil) := by simp [Nd.pre, Fo.pre]
  refine (check_any (sc k b n) .nil W hT ⟨rfl, .inl rfl⟩ (fun e he => ?_) (by simp [Nd.pre, Fo.pre]) 0 (fun e he => ?_) (by simp) (fun e he => ?_)).mono ?_
  · rw [hmem e he]; exact ⟨rfl, .inl rfl⟩
  · rw [hmem e he]; exact Nat.le_refl 0
  · rw [hmem e he]; exact ⟨Nat.le_of_ble_eq_true rfl, Nat.zero_le _, (fun s hs => by cases hs), Nat.zero_le _, Nat.zero_le _⟩
  · rintro e w' ⟨rfl, hb⟩
    exact ⟨by rw [hv], hb⟩

theorem empty_toList : (⟨#[]⟩ : ByteArray).toList = [] := by
  unfold ByteArray.toList ByteArray.toList.loop
  rfl
/-- A value as a truth. -/
def ofT (k : Int) (b : Bool) : Int := if k = 1 then (if b then 2 else 0) else 1
set_option maxRecDepth 100000 in
theorem of_sc (k : Int) (b : Bool) (n : Int) (w : World) (hT : Lib.Utf8Tabs 0 1 w) (hk : (k = 0 ∧ b = false ∧ n = 0) ∨ (k = 1 ∧ n = 0)) :
    Calls Tryd.prog 10 #[(sc k b n).val] w fun e w' => e = .returned (.tuple #[.int .i64 (ofT k b), .bool true]) ∧ Below w.heap.size w w' := by
  have hS := Six.new w (sc k b n) 30
  have hC := Lib.hid (check_sc k b n (w.alloc (.cells #[.int .i64 k, .bool b, .int .i64 n, .string ⟨#[]⟩, .slice none 0 0, .slice none 0 0] 30)) (Utf8Tabs_below hT (ballocR w _)))
  have hb : bareB (sc k b n) = true := by rcases hk with ⟨rfl, rfl, rfl⟩ | ⟨rfl, rfl⟩ <;> simp [bareB, sc, empty_toList]
  rw [hb] at hC
  have hbel := ballocR w (.cells #[.int .i64 k, .bool b, .int .i64 n, .string ⟨#[]⟩, .slice none 0 0, .slice none 0 0] 30)
  clear hb
  simp only [sc, Nd.val, if_true] at *
  rcases hk with ⟨rfl, rfl, rfl⟩ | ⟨rfl, rfl⟩
  · go_enter Tryd.func10, Tryd.ntmps10
    go_wp2_with (go_at_call 34; refine hC.out.mono ?_; rintro e w2 ⟨rfl, hb2⟩; obtain ⟨c0, c1, c2, c3, c4, c5⟩ := (hS.next hb2).cells; simp only [Nat.zero_add] at c0 c1 c2 c3 c4 c5)
    go_ret2
    exact ⟨rfl, hbel.trans (hb2.mono (by simp))⟩
  · cases b
    all_goals
      go_enter Tryd.func10, Tryd.ntmps10
      go_wp2_with (go_at_call 34; refine hC.out.mono ?_; rintro e w2 ⟨rfl, hb2⟩; obtain ⟨c0, c1, c2, c3, c4, c5⟩ := (hS.next hb2).cells; simp only [Nat.zero_add] at c0 c1 c2 c3 c4 c5)
      go_ret2
      exact ⟨rfl, hbel.trans (hb2.mono (by simp))⟩

set_option maxRecDepth 100000 in
theorem alike_sc (k : Int) (b : Bool) (n : Int) (w : World) :
    Calls Tryd.prog 17 #[(sc k b n).val, (sc k b n).val] w fun e w' => e = .returned (.bool true) ∧ Below w.heap.size w w' := by
  simp only [sc, Nd.val] at *
  go_enter Tryd.func17, Tryd.ntmps17
  go_wp2
  go_loop [5] (fun i => i = .int .i64 0) (fun _ => 0)
  case atStart => rfl
  case round =>
    subst hrel
    go_wp2
    go_loop [6] (fun i => i = .int .i64 0) (fun _ => 0)
    case atStart => rfl
    case round =>
      subst hrel
      go_wp2
      go_ret
      exact ⟨rfl, (ballocR w _).alloc (by simp) _⟩
end Go.Proofs.YtlokoepljmlcgaaDoor
