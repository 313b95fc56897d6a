/-
  WALKS: values without texts, keys, lists: compare, equal, Equal.
-/
import Derived.Test.YtlokoepljmlcgaaDoorEqu
namespace Go.Proofs.YtlokoepljmlcgaaDoor
set_option linter.unusedSimpArgs false
set_option linter.unusedVariables false
open Go.RowKit Go.Shelf

theorem cmpI_self (a : Int) : cmpI a a = 0 := by simp [cmpI]
theorem cmpI_zero (a b : Int) : (cmpI a b == 0) = decide (a = b) := by
  unfold cmpI
  split
  · simp; omega
  · split
    · simp; omega
    · simp; omega
theorem or3_eq (c : Int) : orI [0, 0, c] = c := by
  by_cases h : c = 0 <;> simp [orI, h]
theorem or3 (c : Int) (b : Nat) (w : World) (h : RowAt w (some ⟨b, 0, none⟩) .i64 [0, 0, c]) : Calls Tryd.prog 73 #[.slice (some ⟨b, 0, none⟩) 3 3] w fun e w' => e = .returned (.int .i64 c) ∧ w = w' :=
  (cor_any _ 3 3 [0, 0, c] w rfl h (by decide)).mono fun _ _ h => ⟨by rw [← or3_eq c]; exact h.1, h.2⟩
theorem keep6 {wx wy : World} {p0 p1 p2 p3 p4 p5 : Addr} {v0 v1 v2 v3 v4 v5 : Value}
    (h : wx.cell? p0 = some v0 ∧ wx.cell? p1 = some v1 ∧ wx.cell? p2 = some v2 ∧ wx.cell? p3 = some v3 ∧ wx.cell? p4 = some v4 ∧ wx.cell? p5 = some v5) (hb : Below wx.heap.size wx wy) :
    wy.cell? p0 = some v0 ∧ wy.cell? p1 = some v1 ∧ wy.cell? p2 = some v2 ∧ wy.cell? p3 = some v3 ∧ wy.cell? p4 = some v4 ∧ wy.cell? p5 = some v5 :=
  ⟨cell_below h.1 hb, cell_below h.2.1 hb, cell_below h.2.2.1 hb, cell_below h.2.2.2.1 hb, cell_below h.2.2.2.2.1 hb, cell_below h.2.2.2.2.2 hb⟩
theorem row3d (w : World) (a b c : Int) (t : TypeId) : RowAt (w.alloc (.cells #[.int .i64 a, .int .i64 b, .int .i64 c] t)).drew (some ⟨w.heap.size, 0, none⟩) .i64 [a, b, c] := row3 w a b c t

set_option maxRecDepth 100000 in
set_option maxHeartbeats 4000000 in
theorem compare_sc (k n m : Int) (W : World) (h1 : k ≠ 1) (h3 : k ≠ 3) : Calls Tryd.prog 64 #[(sc k false n).val, (sc k false m).val] W fun e w' => e = .returned (.int .i64 (cmpI n m)) ∧ Below W.heap.size W w' := by
  have hX := (Six.new W (sc k false n) 30).next (ballocR _ (.cells #[.int .i64 k, .bool false, .int .i64 m, .string ⟨#[]⟩, .slice none 0 0, .slice none 0 0] 30))
  have hY := Six.new (W.alloc (.cells #[.int .i64 k, .bool false, .int .i64 n, .string ⟨#[]⟩, .slice none 0 0, .slice none 0 0] 30)) (sc k false m) 30
  rw [World.size_alloc] at hY
  have hbel : Below W.heap.size W ((W.alloc (.cells #[.int .i64 k, .bool false, .int .i64 n, .string ⟨#[]⟩, .slice none 0 0, .slice none 0 0] 30)).alloc (.cells #[.int .i64 k, .bool false, .int .i64 m, .string ⟨#[]⟩, .slice none 0 0, .slice none 0 0] 30)) := (ballocR W _).alloc (by simp) _
  have e1 : (k == 1) = false := by simpa using h1
  have e3 : (k == 3) = false := by simpa using h3
  have hcc := cmpI_self (rankV k)
  simp only [sc, Nd.val] at *
  have HX := Lib.hid hX; have HY := Lib.hid hY; have HB := Lib.hid hbel
  clear hX hY hbel h1 h3
  go_enter Tryd.func64, Tryd.ntmps64
  go_wp2_with fail
  go_quiet ((first | (go_at_call 70; exact Calls.quiet_of_same ((rank_any _ _).mono fun _ _ h => ⟨h.1, h.2.symm⟩)) | (go_at_call 69; exact Calls.quiet_of_same ((cmp_any _ _ _).mono fun _ _ h => ⟨h.1, h.2.symm⟩))))
  obtain ⟨x0, x1, x2, x3, x4, x5⟩ := HX.out.cells
  obtain ⟨y0, y1, y2, y3, y4, y5⟩ := HY.out.cells
  simp only [Nat.zero_add] at x0 x2 x4 x5 y2 y4 y5
  go_upto_region 9 with (fail)
  have HBB := Lib.hid (bdrewN HB.out nq)
  generalize hV : (World.drewN _ nq) = V at HBB ⊢
  have hS : V.drew.cell? ⟨W.heap.size, 2, none⟩ = some (.int .i64 n) ∧ V.drew.cell? ⟨W.heap.size, 4, none⟩ = some (.slice none 0 0) ∧ V.drew.cell? ⟨W.heap.size, 5, none⟩ = some (.slice none 0 0) ∧ V.drew.cell? ⟨W.heap.size + 1, 2, none⟩ = some (.int .i64 m) ∧ V.drew.cell? ⟨W.heap.size + 1, 4, none⟩ = some (.slice none 0 0) ∧ V.drew.cell? ⟨W.heap.size + 1, 5, none⟩ = some (.slice none 0 0) := by
    rw [← hV]; exact ⟨x2, x4, x5, y2, y4, y5⟩
  clear hV x0 x1 x2 x3 x4 x5 y0 y1 y2 y3 y4 y5 HX HY HB e1 e3 hcc
  go_region_held3 (fun w' => w'.cell? ⟨W.heap.size, 2, none⟩ = some (.int .i64 n) ∧ w'.cell? ⟨W.heap.size, 4, none⟩ = some (.slice none 0 0) ∧ w'.cell? ⟨W.heap.size, 5, none⟩ = some (.slice none 0 0) ∧ w'.cell? ⟨W.heap.size + 1, 2, none⟩ = some (.int .i64 m) ∧ w'.cell? ⟨W.heap.size + 1, 4, none⟩ = some (.slice none 0 0) ∧ w'.cell? ⟨W.heap.size + 1, 5, none⟩ = some (.slice none 0 0))
    (first | assumption | (exact keep6 (by assumption) (by assumption)) | (exact keep6 (by assumption) (ballocR _ _)))
    (first
    | (go_at_call 74; refine (listsS_nil _ _ _ _ _ _).mono ?_; rintro e w' ⟨rfl, rfl⟩)
    | (go_at_call 75; refine (listsV_nil _ _ _ _ _ _).mono ?_; rintro e w' ⟨rfl, rfl⟩)
    | (go_at_call 76; refine (cmp64_any _ _ _).mono ?_; rintro e w' ⟨rfl, rfl⟩)
    | (go_at_call 73; refine (or3 (cmpI n m) _ _ ?hrow).mono ?_; (case hrow => first | exact row3 _ _ _ _ _ | exact row3d _ _ _ _ _); rintro e w' ⟨rfl, rfl⟩))
  go_wp2
  go_ret
  exact ⟨rfl, (HBB.out.alloc HBB.out.size _).drew⟩

/-- What equal answers of two values that are Null or Int. -/
def eqS (k n k' n' : Int) : Int := if k = 0 ∨ k' = 0 then 1 else if n = n' then 2 else 0
set_option maxRecDepth 100000 in
set_option maxHeartbeats 4000000 in
theorem equal_sc (k n k' m : Int) (W : World) (hk : k = 0 ∨ k = 2) (hk' : k' = 0 ∨ k' = 2) :
    Calls Tryd.prog 50 #[(sc k false n).val, (sc k' false m).val] W fun e w' => e = .returned (.int .i64 (eqS k n k' m)) ∧ Below W.heap.size W w' := by
  have hX := (Six.new W (sc k false n) 30).next (ballocR _ (.cells #[.int .i64 k', .bool false, .int .i64 m, .string ⟨#[]⟩, .slice none 0 0, .slice none 0 0] 30))
  have hY := Six.new (W.alloc (.cells #[.int .i64 k, .bool false, .int .i64 n, .string ⟨#[]⟩, .slice none 0 0, .slice none 0 0] 30)) (sc k' false m) 30
  rw [World.size_alloc] at hY
  have hbel : Below W.heap.size W ((W.alloc (.cells #[.int .i64 k, .bool false, .int .i64 n, .string ⟨#[]⟩, .slice none 0 0, .slice none 0 0] 30)).alloc (.cells #[.int .i64 k', .bool false, .int .i64 m, .string ⟨#[]⟩, .slice none 0 0, .slice none 0 0] 30)) := (ballocR W _).alloc (by simp) _
  have hC := fun w => compare_sc 2 n m w (by decide) (by decide)
  have hz := cmpI_zero n m
  simp only [sc, Nd.val] at *
  have HX := Lib.hid hX; have HY := Lib.hid hY; have HB := Lib.hid hbel; have HC := Lib.hid hC
  clear hX hY hbel hC
  rcases hk with rfl | rfl
  · go_enter Tryd.func50, Tryd.ntmps50
    go_wp2
    go_ret
    exact ⟨ret1 (by simp [eqS]), HB.out⟩
  · rcases hk' with rfl | rfl
    · go_enter Tryd.func50, Tryd.ntmps50
      go_wp2
      go_ret
      exact ⟨ret1 (by simp [eqS]), HB.out⟩
    · go_enter Tryd.func50, Tryd.ntmps50
      go_wp2_with (first
        | (go_at_call 64; refine (HC.out _).mono ?_; rintro e w1 ⟨rfl, hb1⟩)
        | (go_at_call 63; refine (truth_any _ _).mono ?_; rintro e w2 ⟨rfl, rfl⟩))
      all_goals go_ret
      all_goals exact ⟨ret1 (by by_cases h : n = m <;> simp_all [eqS]), HB.out.trans (hb1.mono HB.out.size)⟩

theorem check_fine (k n : Int) (hk : (k = 0 ∧ n = 0) ∨ k = 2) : checkV (sc k false n) .nil = 0 := by
  have ho : overL [(1, sc k false n, Fo.nil)] = false := rfl
  have hb : bareB (sc k false n) = true := by rcases hk with ⟨rfl, rfl⟩ | rfl <;> simp [bareB, sc, empty_toList]
  simp [checkV, Nd.pre, Fo.pre, may_sc, ho, hb]
theorem sized_sc (k n : Int) : Sized (sc k false n) .nil := by
  have hmem : ∀ e ∈ Nd.pre 1 (sc k false n) .nil, e = (1, sc k false n, Fo.nil) := by simp [Nd.pre, Fo.pre]
  refine ⟨by simp [Nd.pre, Fo.pre], fun e he => ?_⟩
  rw [hmem e he]
  exact ⟨Nat.zero_le _, Nat.zero_le _⟩

set_option maxRecDepth 100000 in
set_option maxHeartbeats 4000000 in
theorem Equal_sc (k n k' m : Int) (W : World) (hk : (k = 0 ∧ n = 0) ∨ k = 2) (hk' : (k' = 0 ∧ m = 0) ∨ k' = 2) (hT : Lib.Utf8Tabs 0 1 W) :
    Calls Tryd.prog 36 #[(sc k false n).val, (sc k' false m).val] W fun e w' => e = .returned (.int .i64 (eqS k n k' m)) ∧ Below W.heap.size W w' := by
  have hX := (Six.new W (sc k false n) 30).next (ballocR _ (.cells #[.int .i64 k', .bool false, .int .i64 m, .string ⟨#[]⟩, .slice none 0 0, .slice none 0 0] 30))
  have hY := Six.new (W.alloc (.cells #[.int .i64 k, .bool false, .int .i64 n, .string ⟨#[]⟩, .slice none 0 0, .slice none 0 0] 30)) (sc k' false m) 30
  rw [World.size_alloc] at hY
  have hbel : Below W.heap.size W ((W.alloc (.cells #[.int .i64 k, .bool false, .int .i64 n, .string ⟨#[]⟩, .slice none 0 0, .slice none 0 0] 30)).alloc (.cells #[.int .i64 k', .bool false, .int .i64 m, .string ⟨#[]⟩, .slice none 0 0, .slice none 0 0] 30)) := (ballocR W _).alloc (by simp) _
  have hE := fun w => equal_sc k n k' m w (by omega) (by omega)
  have hZ := World.alloc_heap_new ((W.alloc (.cells #[.int .i64 k, .bool false, .int .i64 n, .string ⟨#[]⟩, .slice none 0 0, .slice none 0 0] 30)).alloc (.cells #[.int .i64 k', .bool false, .int .i64 m, .string ⟨#[]⟩, .slice none 0 0, .slice none 0 0] 30)) (.cells #[.int .i64 k, .bool false, .int .i64 n, .string ⟨#[]⟩, .slice none 0 0, .slice none 0 0, .int .i64 k', .bool false, .int .i64 m, .string ⟨#[]⟩, .slice none 0 0, .slice none 0 0] 30)
  rw [World.size_alloc, World.size_alloc] at hZ
  have hbz := ballocR ((W.alloc (.cells #[.int .i64 k, .bool false, .int .i64 n, .string ⟨#[]⟩, .slice none 0 0, .slice none 0 0] 30)).alloc (.cells #[.int .i64 k', .bool false, .int .i64 m, .string ⟨#[]⟩, .slice none 0 0, .slice none 0 0] 30)) (.cells #[.int .i64 k, .bool false, .int .i64 n, .string ⟨#[]⟩, .slice none 0 0, .slice none 0 0, .int .i64 k', .bool false, .int .i64 m, .string ⟨#[]⟩, .slice none 0 0, .slice none 0 0] 30)
  have hX2 := hX.next hbz
  have hY2 := hY.next hbz
  have hbel2 := hbel.trans (hbz.mono hbel.size)
  have hsz : (((W.alloc (.cells #[.int .i64 k, .bool false, .int .i64 n, .string ⟨#[]⟩, .slice none 0 0, .slice none 0 0] 30)).alloc (.cells #[.int .i64 k', .bool false, .int .i64 m, .string ⟨#[]⟩, .slice none 0 0, .slice none 0 0] 30)).alloc (.cells #[.int .i64 k, .bool false, .int .i64 n, .string ⟨#[]⟩, .slice none 0 0, .slice none 0 0, .int .i64 k', .bool false, .int .i64 m, .string ⟨#[]⟩, .slice none 0 0, .slice none 0 0] 30)).heap.size = W.heap.size + 1 + 1 + 1 := by simp
  have hF : Calls Tryd.prog 49 #[.slice (some ⟨W.heap.size + 1 + 1, 0, none⟩) 2 2] (((W.alloc (.cells #[.int .i64 k, .bool false, .int .i64 n, .string ⟨#[]⟩, .slice none 0 0, .slice none 0 0] 30)).alloc (.cells #[.int .i64 k', .bool false, .int .i64 m, .string ⟨#[]⟩, .slice none 0 0, .slice none 0 0] 30)).alloc (.cells #[.int .i64 k, .bool false, .int .i64 n, .string ⟨#[]⟩, .slice none 0 0, .slice none 0 0, .int .i64 k', .bool false, .int .i64 m, .string ⟨#[]⟩, .slice none 0 0, .slice none 0 0] 30)) fun e w' => e = .returned (.bool true) ∧ Below (((W.alloc (.cells #[.int .i64 k, .bool false, .int .i64 n, .string ⟨#[]⟩, .slice none 0 0, .slice none 0 0] 30)).alloc (.cells #[.int .i64 k', .bool false, .int .i64 m, .string ⟨#[]⟩, .slice none 0 0, .slice none 0 0] 30)).alloc (.cells #[.int .i64 k, .bool false, .int .i64 n, .string ⟨#[]⟩, .slice none 0 0, .slice none 0 0, .int .i64 k', .bool false, .int .i64 m, .string ⟨#[]⟩, .slice none 0 0, .slice none 0 0] 30)).heap.size (((W.alloc (.cells #[.int .i64 k, .bool false, .int .i64 n, .string ⟨#[]⟩, .slice none 0 0, .slice none 0 0] 30)).alloc (.cells #[.int .i64 k', .bool false, .int .i64 m, .string ⟨#[]⟩, .slice none 0 0, .slice none 0 0] 30)).alloc (.cells #[.int .i64 k, .bool false, .int .i64 n, .string ⟨#[]⟩, .slice none 0 0, .slice none 0 0, .int .i64 k', .bool false, .int .i64 m, .string ⟨#[]⟩, .slice none 0 0, .slice none 0 0] 30)) w' := by
    have hfine : fineF (.cons (sc k false n) .nil (.cons (sc k' false m) .nil .nil)) = true := by simp [fineF, Fo.toL, check_fine k n hk, check_fine k' m hk']
    have hV : Vals (((W.alloc (.cells #[.int .i64 k, .bool false, .int .i64 n, .string ⟨#[]⟩, .slice none 0 0, .slice none 0 0] 30)).alloc (.cells #[.int .i64 k', .bool false, .int .i64 m, .string ⟨#[]⟩, .slice none 0 0, .slice none 0 0] 30)).alloc (.cells #[.int .i64 k, .bool false, .int .i64 n, .string ⟨#[]⟩, .slice none 0 0, .slice none 0 0, .int .i64 k', .bool false, .int .i64 m, .string ⟨#[]⟩, .slice none 0 0, .slice none 0 0] 30)).heap.size (((W.alloc (.cells #[.int .i64 k, .bool false, .int .i64 n, .string ⟨#[]⟩, .slice none 0 0, .slice none 0 0] 30)).alloc (.cells #[.int .i64 k', .bool false, .int .i64 m, .string ⟨#[]⟩, .slice none 0 0, .slice none 0 0] 30)).alloc (.cells #[.int .i64 k, .bool false, .int .i64 n, .string ⟨#[]⟩, .slice none 0 0, .slice none 0 0, .int .i64 k', .bool false, .int .i64 m, .string ⟨#[]⟩, .slice none 0 0, .slice none 0 0] 30)) (some ⟨W.heap.size + 1 + 1, 0, none⟩) (.cons (sc k false n) .nil (.cons (sc k' false m) .nil .nil)) := by
      refine ⟨.inr ⟨_, 0, rfl, ⟨by rw [hsz]; omega, ?_, rfl, .inl rfl⟩, ⟨rfl, .inl rfl⟩, ⟨by rw [hsz]; omega, ?_, rfl, .inl rfl⟩, ⟨rfl, .inl rfl⟩, trivial⟩, ?_, by simp [Fo.len]⟩
      · refine ⟨?_, ?_, ?_, ?_, ?_, ?_⟩ <;> (unfold World.cell?; rw [hZ]; rfl)
      · refine ⟨?_, ?_, ?_, ?_, ?_, ?_⟩ <;> (unfold World.cell?; rw [hZ]; rfl)
      · intro p hp
        simp only [Fo.toL, List.mem_cons, List.mem_nil_iff, or_false] at hp
        rcases hp with rfl | rfl
        · exact sized_sc k n
        · exact sized_sc k' m
    have := fine_any 2 2 hV rfl (Nat.le_refl _) (Utf8Tabs_below hT hbel2)
    rw [hfine] at this
    exact this
  simp only [sc, Nd.val] at *
  have HX := Lib.hid hX2; have HY := Lib.hid hY2; have HE := Lib.hid hE; have HF := Lib.hid hF; have HB := Lib.hid hbel2
  clear hX hY hE hZ hbz hX2 hY2 hF hbel hbel2 hsz
  go_enter Tryd.func36, Tryd.ntmps36
  go_wp2_with (first
    | (go_at_call 49; refine HF.out.mono ?_; rintro e w1 ⟨rfl, hb1⟩; obtain ⟨x0, x1, x2, x3, x4, x5⟩ := (HX.out.next hb1).cells; obtain ⟨y0, y1, y2, y3, y4, y5⟩ := (HY.out.next hb1).cells; simp only [Nat.zero_add] at x0 x1 x2 x3 x4 x5 y0 y1 y2 y3 y4 y5)
    | (go_at_call 50; refine (HE.out _).mono ?_; rintro e w2 ⟨rfl, hb2⟩))
  go_ret
  have hb3 := HB.out.trans (hb1.mono HB.out.size)
  exact ⟨rfl, hb3.trans (hb2.mono hb3.size)⟩
end Go.Proofs.YtlokoepljmlcgaaDoor
