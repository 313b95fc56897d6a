/-
  THE WALK of WordsNames.
-/
import Derived.Test.YtimhhacfjgbomaaGreatDoorRtold
namespace Go.Proofs.YtimhhacfjgbomaaGreatDoor
set_option linter.unusedSimpArgs false
set_option linter.unusedVariables false
open Go.RowKit Go.Shelf

theorem keepN {n b : Nat} {W V V' : World} {v0 v1 v2 v3 : Value} (h : Env n V ∧ Below b W V ∧ V.cell? ⟨b, 0, none⟩ = some v0 ∧ V.cell? ⟨b, 1, none⟩ = some v1 ∧ V.cell? ⟨b, 2, none⟩ = some v2 ∧ V.cell? ⟨b, 3, none⟩ = some v3) (hb : Below V.heap.size V V') (hw : W.heap.size = b) :
    Env n V' ∧ Below b W V' ∧ V'.cell? ⟨b, 0, none⟩ = some v0 ∧ V'.cell? ⟨b, 1, none⟩ = some v1 ∧ V'.cell? ⟨b, 2, none⟩ = some v2 ∧ V'.cell? ⟨b, 3, none⟩ = some v3 := by
  obtain ⟨h1, h2, h3, h4, h5, h6⟩ := h
  have hc : ∀ o v, V.cell? ⟨b, o, none⟩ = some v → V'.cell? ⟨b, o, none⟩ = some v := fun o v h => (hb.cell (p := ⟨b, o, none⟩) (World.block_lt_of_cell? V ⟨b, o, none⟩ h)).trans h
  exact ⟨h1.below hb, h2.trans (hb.mono (by have := h2.size; omega)), hc _ _ h3, hc _ _ h4, hc _ _ h5, hc _ _ h6⟩

set_option maxHeartbeats 16000000 in
set_option maxRecDepth 100000 in
theorem names_walk (s : ByteArray) (g : Gw) (key : ByteArray) (W : World) (hL : Laid W) :
    Calls Tryz.prog 4 #[.string s, .agg #[.int .i64 g.k, .int .i64 g.p, .string g.t, .int .u64 g.n], .string key] W fun e W' => e = .returned (.bool true) ∧ Below W.heap.size W W' := by
  obtain ⟨k, p, t, n⟩ := g
  simp only
  have HW : Hid (∀ V, Env W.heap.size V → Calls Tryz.prog 11 #[] V fun e w' => e = .returned (.bool true) ∧ Below V.heap.size V w') := Lib.hid fun V h => works_any V h
  have hb0 := ballocR W (.cells #[.int .i64 k, .int .i64 p, .string t, .int .u64 n] 33)
  have hB4 : Box4 (W.alloc (.cells #[.int .i64 k, .int .i64 p, .string t, .int .u64 n] 33)) W.heap.size k p t n := new_at W _
  have HE0 := Lib.hid ((Env.start hL).below hb0)
  obtain ⟨c0, c1, c2, c3⟩ := hB4.cells
  clear hL hB4
  by_cases h1 : 4000 < s.size
  · have hz : (s.size : Int) > 4000 := by omega
    clear h1
    go_enter Tryz.func4, Tryz.ntmps4
    go_wp2_with (go_at_call 11; refine (HW.out _ HE0.out).mono ?_; rintro e w' ⟨rfl, hb⟩)
    go_ret
    exact ⟨rfl, hb0.trans (hb.mono hb0.size)⟩
  · have hz1 : ¬ (s.size : Int) > 4000 := by omega
    by_cases h2 : 4000 < t.size
    · have hz : (t.size : Int) > 4000 := by omega
      clear h1 h2
      go_enter Tryz.func4, Tryz.ntmps4
      go_wp2_with (go_at_call 11; refine (HW.out _ HE0.out).mono ?_; rintro e w' ⟨rfl, hb⟩)
      go_ret
      exact ⟨rfl, hb0.trans (hb.mono hb0.size)⟩
    · have hz2 : ¬ (t.size : Int) > 4000 := by omega
      by_cases h3 : 4000 < key.size
      · have hz : (key.size : Int) > 4000 := by omega
        clear h1 h2 h3
        go_enter Tryz.func4, Tryz.ntmps4
        go_wp2_with (go_at_call 11; refine (HW.out _ HE0.out).mono ?_; rintro e w' ⟨rfl, hb⟩)
        go_ret
        exact ⟨rfl, hb0.trans (hb.mono hb0.size)⟩
      · have hz3 : ¬ (key.size : Int) > 4000 := by omega
        have x1 := fun V (h : Env W.heap.size V) => name_any s V (by omega) h
        have x2 : ∀ V, Calls Tryz.prog 19 #[.string s] V fun e w' => e = .returned (.bool (nameB s.data.toList)) ∧ Below V.heap.size V w' := fun V => (rname_any s V (by omega)).mono fun e w' h => ⟨h.1, h.2 ▸ Below.refl _ _⟩
        have x3 := fun V (h : Env W.heap.size V) => reserved_any s V (by omega) h
        have x4 := fun V => rres_any s V (by omega)
        have x5 := fun V (h : Env W.heap.size V) => spell_any s V (by omega) h
        have x6 := fun V (h : Env W.heap.size V) => rspell_any s V (by omega) h
        have x7 := fun V => is_any k p t n key V (by omega) (by omega)
        have x8 := fun V => ris_any k p t n key V (by omega) (by omega)
        generalize nameB s.data.toList = NM at *
        generalize resB s.data.toList = RS at *
        generalize isB k t key = IS at *
        generalize (⟨(spellL s.data.toList).toArray⟩ : ByteArray) = SP at *
        have X1 := Lib.hid x1
        have X2 := Lib.hid x2
        have X3 := Lib.hid x3
        have X4 := Lib.hid x4
        have X5 := Lib.hid x5
        have X6 := Lib.hid x6
        have X7 := Lib.hid x7
        have X8 := Lib.hid x8
        clear x1 x2 x3 x4 x5 x6 x7 x8 h1 h2 h3
        obtain ⟨b, hbb⟩ : ∃ b, W.heap.size = b := ⟨_, rfl⟩
        rw [hbb] at c0 c1 c2 c3 hb0
        have HBB := Lib.hid hbb
        go_enter Tryz.func4, Tryz.ntmps4
        go_upto_region 3 with (fail)
        generalize W.alloc (.cells #[.int .i64 k, .int .i64 p, .string t, .int .u64 n] 33) = V at *
        rw [hbb] at HE0 HW X1 X3 X5 X6
        clear hbb
        have hst : Env b V ∧ Below b W V ∧ V.cell? ⟨b, 0, none⟩ = some (.int .i64 k) ∧ V.cell? ⟨b, 1, none⟩ = some (.int .i64 p) ∧ V.cell? ⟨b, 2, none⟩ = some (.string t) ∧ V.cell? ⟨b, 3, none⟩ = some (.int .u64 n) := ⟨HE0.out, hb0, c0, c1, c2, c3⟩
        clear hb0 c0 c1 c2 c3 HE0
        go_region_held3 (fun w' => Env b w' ∧ Below b W w' ∧ w'.cell? ⟨b, 0, none⟩ = some (.int .i64 k) ∧ w'.cell? ⟨b, 1, none⟩ = some (.int .i64 p) ∧ w'.cell? ⟨b, 2, none⟩ = some (.string t) ∧ w'.cell? ⟨b, 3, none⟩ = some (.int .u64 n))
          (first | assumption | (exact keepN (by assumption) (by assumption) HBB.out) | (exact keepN (by assumption) (Below.refl _ _).drew HBB.out))
          (first
            | (go_at_call 18; refine (X1.out _ (And.left (by assumption))).mono ?_; rintro e w' ⟨rfl, hbx⟩)
            | (go_at_call 19; refine (X2.out _).mono ?_; rintro e w' ⟨rfl, hbx⟩)
            | (go_at_call 20; refine (X3.out _ (And.left (by assumption))).mono ?_; rintro e w' ⟨rfl, hbx⟩)
            | (go_at_call 21; refine (X4.out _).mono ?_; rintro e w' ⟨rfl, hbx⟩)
            | (go_at_call 22; refine (X5.out _ (And.left (by assumption))).mono ?_; rintro e w' ⟨rfl, hbx⟩)
            | (go_at_call 23; refine (X6.out _ (And.left (by assumption))).mono ?_; rintro e w' ⟨rfl, hbx⟩)
            | (go_at_call 24; refine (X7.out _).mono ?_; rintro e w' ⟨rfl, hbx⟩)
            | (go_at_call 25; refine (X8.out _).mono ?_; rintro e w' ⟨rfl, hbx⟩)
            | (go_at_call 11; refine (HW.out _ (And.left (by assumption))).mono ?_; rintro e w' ⟨rfl, hbx⟩))
        all_goals
          have hS : Env b w' ∧ Below b W w' ∧ w'.cell? ⟨b, 0, none⟩ = some (.int .i64 k) ∧ w'.cell? ⟨b, 1, none⟩ = some (.int .i64 p) ∧ w'.cell? ⟨b, 2, none⟩ = some (.string t) ∧ w'.cell? ⟨b, 3, none⟩ = some (.int .u64 n) := by assumption
          go_wp2_with fail
          go_ret
          exact ⟨rfl, by rw [HBB.out]; exact hS.2.1⟩
end Go.Proofs.YtimhhacfjgbomaaGreatDoor
