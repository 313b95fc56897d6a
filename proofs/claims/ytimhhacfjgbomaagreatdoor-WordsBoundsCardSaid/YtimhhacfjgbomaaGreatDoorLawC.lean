/-
  THE WALK of works, with which each law of this layer ends.
  FOR THE LAWS' WALKS: Lex and Print as they are called there.
-/
import Derived.Test.YtimhhacfjgbomaaGreatDoorSames
import Derived.Test.YtimhhacfjgbomaaGreatDoorPrints
import Derived.Test.YtimhhacfjgbomaaGreatDoorNames2
import Derived.Test.YtimhhacfjgbomaaGreatDoorWordsP
namespace Go.Proofs.YtimhhacfjgbomaaGreatDoor
set_option linter.unusedSimpArgs false
set_option linter.unusedVariables false
open Go.RowKit Go.Shelf

def wkT : ByteArray := ⟨#[77, 65, 84, 67, 72, 32, 40, 97, 58, 96, 98, 32, 99, 96, 41, 32, 47, 42, 32, 42, 47, 32, 60, 62, 49, 32, 47, 47, 32, 120]⟩
def wkL : List (Wd × Nat) := [(⟨1, [77,65,84,67,72], 0⟩, 0), (⟨5, [40], 0⟩, 6), (⟨1, [97], 0⟩, 7), (⟨5, [58], 0⟩, 8), (⟨2, [98, 32, 99], 0⟩, 9), (⟨5, [41], 0⟩, 14), (⟨5, [60, 62], 0⟩, 22), (⟨4, [], 1⟩, 24)]
theorem wkT_lex : lexL wkT = (wkL, 0, 0) := by decide +kernel
theorem wkL_print : printL (wkL.map gwOf) = ([77, 65, 84, 67, 72, 32, 40, 32, 97, 32, 58, 32, 96, 98, 32, 99, 96, 32, 41, 32, 60, 62, 32, 49], 0) := by decide +kernel
theorem wkU_lex : lexL ⟨#[97, 32, 48, 49]⟩ = ([], 2, 130) := by decide +kernel
theorem wkM_spell : spellL [77, 97, 116, 99, 104] = [96, 77, 97, 116, 99, 104, 96] := by decide +kernel
theorem wkM_is : isB 1 ⟨#[77, 65, 84, 67, 72]⟩ ⟨#[109, 97, 116, 99, 104]⟩ = true := by decide +kernel
theorem wkL_fine : Short (wkL.map gwOf) ∧ (∀ g ∈ wkL.map gwOf, g.n < 18446744073709551616) ∧ (((wkL.map gwOf).map Gw.tell).map fun x => x.length + 1).sum ≤ 549755813888 := by
  unfold Short
  decide +kernel

set_option maxHeartbeats 1000000 in
theorem num_any (n : Int) (w : World) : Calls Tryz.prog 14 #[.int .i64 n] w fun e w' => e = .returned (.int .i64 n) ∧ w = w' := by
  go_enter Tryz.func14, Tryz.ntmps14
  go_wp2
  go_ret
  exact ⟨rfl, rfl⟩
set_option maxHeartbeats 1000000 in
theorem all_any (s : ByteArray) (w : World) : Calls Tryz.prog 16 #[.string s] w fun e w' => e = .returned (.func (.func 34) #[] #[.pointer (some ⟨w.heap.size, 0, none⟩)]) ∧ w' = w.alloc (.cells #[.string s] 9) := by
  have hmf : ∀ (fn : Fn) (first cap : Array Value) (w : World), (Instr.makeFunc fn first cap).run Tryz.prog w = .ok (.func fn first cap) w := fun _ _ _ _ => rfl
  go_enter Tryz.func16, Tryz.ntmps16
  go_wp2
  go_ret
  exact ⟨rfl, rfl⟩

set_option maxHeartbeats 8000000 in
set_option maxRecDepth 100000 in
theorem works_any {n₀ : Nat} (w : World) (hE : Env n₀ w) :
    Calls Tryz.prog 11 #[] w fun e w' => e = .returned (.bool true) ∧ Below w.heap.size w w' := by
  have h1 := lex_any wkT w (by decide) hE
  rw [wkT_lex] at h1
  have h2 : ∀ V, Env n₀ V → Calls Tryz.prog 12 #[.string ⟨#[97, 32, 48, 49]⟩] V (SomeQ ([], 2, 130) V) := fun V h => by
    have := lex_any ⟨#[97, 32, 48, 49]⟩ V (by decide) h
    rw [wkU_lex] at this
    exact this
  have h3 : ∀ V a cap, Gws V a (wkL.map gwOf) → Env n₀ V → Calls Tryz.prog 26 #[.slice a 8 cap] V fun e w' => e = .returned (.tuple #[.string ⟨#[77, 65, 84, 67, 72, 32, 40, 32, 97, 32, 58, 32, 96, 98, 32, 99, 96, 32, 41, 32, 60, 62, 32, 49]⟩, .int .i64 0]) ∧ Below V.heap.size V w' := fun V a cap h hv => by
    have := print_any 8 cap V h rfl wkL_fine.1 wkL_fine.2.1 wkL_fine.2.2 (by decide) hv
    rw [wkL_print] at this
    exact this
  have h4 : ∀ V, Env n₀ V → Calls Tryz.prog 22 #[.string ⟨#[77, 97, 116, 99, 104]⟩] V fun e w' => e = .returned (.string ⟨#[96, 77, 97, 116, 99, 104, 96]⟩) ∧ Below V.heap.size V w' := fun V h => by
    have := spell_any ⟨#[77, 97, 116, 99, 104]⟩ V (by decide) h
    rw [wkM_spell] at this
    exact this
  have h5 : ∀ V, Calls Tryz.prog 24 #[.agg #[.int .i64 1, .int .i64 0, .string ⟨#[77, 65, 84, 67, 72]⟩, .int .u64 0], .string ⟨#[109, 97, 116, 99, 104]⟩] V fun e w' => e = .returned (.bool true) ∧ Below V.heap.size V w' := fun V => by
    have := is_any 1 0 ⟨#[77, 65, 84, 67, 72]⟩ 0 ⟨#[109, 97, 116, 99, 104]⟩ V (by decide) (by decide)
    rw [wkM_is] at this
    exact this
  have H1 := Lib.hid h1
  have H2 := Lib.hid h2
  have H3 := Lib.hid h3
  have H4 := Lib.hid h4
  have H5 := Lib.hid h5
  have HE := Lib.hid hE
  have hnf : ∀ fn first cap w, (binOp .neq 35 (.func fn first cap) .nilFunc).run Tryz.prog w = .ok (.bool true) w := fun _ _ _ _ => by kernel_rfl
  clear h1 h2 h3 h4 h5 hE
  go_enter Tryz.func11, Tryz.ntmps11
  go_wp2_with (go_at_call 12; refine H1.out.mono ?_)
  rintro e w1 ⟨v, rfl, ho, hb⟩
  obtain ⟨av, cv, hv, hG⟩ := gws_owns ho
  have hv : v = .slice av 8 cv := hv
  subst hv
  have HG := Lib.hid hG
  have E1 := Lib.hid (HE.out.below hb)
  have HB1 := Lib.hid hb
  clear ho hG hb H1 HE
  go_wp2_with (go_at_call 26; refine (H3.out _ _ _ HG.out E1.out).mono ?_)
  rintro e w2 ⟨rfl, hb⟩
  have HG2 := Lib.hid (HG.out.below hb)
  have E2 := Lib.hid (E1.out.below hb)
  have HB2 := Lib.hid (HB1.out.trans (hb.mono HB1.out.size))
  clear hb HG E1 HB1 H3
  go_wp2_with (go_at_call 12; refine (H2.out _ E2.out).mono ?_)
  rintro e w3 ⟨v, rfl, ho, hb⟩
  obtain ⟨av2, cv2, rfl⟩ := owns_form ho
  have hG3 := HG2.out.below hb
  have E3 := Lib.hid (E2.out.below hb)
  have HB3 := Lib.hid (HB2.out.trans (hb.mono HB2.out.size))
  clear ho hb HG2 E2 HB2 H2
  rcases hG3 with h | ⟨b, o, rfl, hat⟩
  · exact absurd h (by decide)
  have g0 := hat 0 _ rfl
  have g6 := hat 6 _ rfl
  clear hat
  obtain ⟨c0, c1, c2, c3⟩ := g0
  obtain ⟨d0, d1, d2, d3⟩ := g6
  replace c0 : w3.cell? ⟨b, o, none⟩ = some (.int .i64 1) := c0
  replace c1 : w3.cell? ⟨b, o + 1, none⟩ = some (.int .i64 0) := c1
  replace c2 : w3.cell? ⟨b, o + 2, none⟩ = some (.string ⟨#[77, 65, 84, 67, 72]⟩) := c2
  replace c3 : w3.cell? ⟨b, o + 3, none⟩ = some (.int .u64 0) := c3
  replace d0 : w3.cell? ⟨b, o + 24, none⟩ = some (.int .i64 5) := d0
  replace d1 : w3.cell? ⟨b, o + 24 + 1, none⟩ = some (.int .i64 22) := d1
  replace d2 : w3.cell? ⟨b, o + 24 + 2, none⟩ = some (.string ⟨#[60, 62]⟩) := d2
  replace d3 : w3.cell? ⟨b, o + 24 + 3, none⟩ = some (.int .u64 0) := d3
  go_wp2_with (first
    | (go_at_call 14; refine (num_any _ _).mono ?_; rintro e w' ⟨rfl, rfl⟩)
    | (go_at_call 16; refine (all_any ⟨#[]⟩ _).mono ?_; rintro e w4 ⟨rfl, rfl⟩))
  have hat : Gw.At ⟨1, 0, ⟨#[77, 65, 84, 67, 72]⟩, 0⟩ w3 b o := ⟨c0, c1, c2, c3⟩
  have hb4 := ballocR w3 (.cells #[.string ⟨#[]⟩] 9)
  have E4 := E3.out.below hb4
  refine (H4.out _ E4).mono ?_
  rintro e w5 ⟨rfl, hb5⟩
  have hb6 := hb4.trans (hb5.mono hb4.size)
  obtain ⟨k0, k1, k2, k3⟩ := hat.below hb6
  have HB6 := Lib.hid (HB3.out.trans (hb6.mono HB3.out.size))
  have k3 : w5.cell? ⟨b, o + 3, none⟩ = some (.int .u64 0) := k3
  clear hat hb4 E4 hb5 hb6 c0 c1 c2 c3 d0 d1 d2 d3
  go_wp2_with (go_at_call 24; refine (H5.out _).mono ?_; rintro e w6 ⟨rfl, hb⟩)
  go_ret
  exact ⟨rfl, HB6.out.trans (hb.mono HB6.out.size)⟩
end Go.Proofs.YtimhhacfjgbomaaGreatDoor
namespace Go.Proofs.YtimhhacfjgbomaaGreatDoor
set_option linter.unusedSimpArgs false
set_option linter.unusedVariables false
open Go.RowKit Go.Shelf

theorem lexL_none {s : ByteArray} (hs : s.size ≤ 1048576) (h : (scan s.data.toList 0).2 = none) : lexL s = ((scan s.data.toList 0).1, 0, 0) := by
  have e : lexR s = ((scan s.data.toList 0).1, 0, 0) := by unfold lexR; rw [if_neg (by omega), h]
  unfold lexL
  rw [e]; rfl
theorem lexL_some {s : ByteArray} {n : Nat} (hs : s.size ≤ 1048576) (h : (scan s.data.toList 0).2 = some n) : lexL s = ([], n, 130) := by
  have e : lexR s = ((scan s.data.toList 0).1, n, 130) := by unfold lexR; rw [if_neg (by omega), h]
  unfold lexL
  rw [e]; rfl
/-- How Lex ends. -/
def LexQ (r : List (Wd × Nat) × Nat × Nat) (W : World) (e : Ending) (w' : World) : Prop :=
  ∃ a cap, e = .returned (.tuple #[.slice a r.1.length cap, .int .i64 r.2.1, .int .i64 r.2.2]) ∧ Gws w' a (r.1.map gwOf) ∧ Below W.heap.size W w'
theorem lexg_any {n₀ : Nat} (s : ByteArray) (W : World) (hs : s.size ≤ 281474976710656) (hE : Env n₀ W) : Calls Tryz.prog 12 #[.string s] W (LexQ (lexL s) W) :=
  (lex_any s W hs hE).mono fun e w' ⟨v, h1, h2, h3⟩ => by
    obtain ⟨a, cap, rfl, hg⟩ := gws_owns h2
    exact ⟨a, cap, h1, hg, h3⟩
theorem word_neq (k p : Int) (t : ByteArray) (n : Nat) (k' p' : Int) (t' : ByteArray) (n' : Nat) (w : World) :
    (binOp .neq 33 (.agg #[.int .i64 k, .int .i64 p, .string t, .int .u64 n]) (.agg #[.int .i64 k', .int .i64 p', .string t', .int .u64 n'])).run Tryz.prog w = .ok (.bool (!Gw.eqB ⟨k, p, t, n⟩ ⟨k', p', t', n'⟩)) w := by
  unfold Gw.eqB
  simp only
  rw [ba_dec, nat_dec]
  by_cases h1 : k = k'
  · by_cases h2 : p = p'
    · by_cases h3 : t.toList = t'.toList
      · by_cases h4 : (n : Int) = n'
        · go_simp
        · go_simp
      · go_simp
    · go_simp
  · go_simp
theorem eqB_refl (g : Gw) : Gw.eqB g g = true := by simp [Gw.eqB]
/-- A zero word in a block, and a word put over it. -/
theorem Box4.put {w : World} {b : Nat} {k p n : Int} {t : ByteArray} (h : Box4 w b k p t n) (g : Gw) :
    Box4 ((((w.setCell ⟨b, 0, none⟩ (.int .i64 g.k)).setCell ⟨b, 1, none⟩ (.int .i64 g.p)).setCell ⟨b, 2, none⟩ (.string g.t)).setCell ⟨b, 3, none⟩ (.int .u64 g.n)) b g.k g.p g.t g.n := (((h.set0 _).set1 _).set2 _).set3 _
end Go.Proofs.YtimhhacfjgbomaaGreatDoor
