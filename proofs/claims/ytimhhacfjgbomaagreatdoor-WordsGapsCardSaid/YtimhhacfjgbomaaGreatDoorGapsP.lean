/-
  PLAIN WORDS OF LAYER 3: words laid one by one with gaps between. No program in sight.
-/
import Derived.Test.YtimhhacfjgbomaaGreatDoorBackP
import Derived.Laws.BitsLemmas
namespace Go.Proofs.YtimhhacfjgbomaaGreatDoor
set_option linter.unusedSimpArgs false
set_option linter.unusedVariables false
open Go.Lib

theorem and3 (n : Int) : bits .and .i64 n 3 = n % 4 := by
  have h3 : (BitVec.ofInt 64 3).toNat = 2 ^ 2 - 1 := by decide
  have key : (BitVec.ofInt 64 n &&& BitVec.ofInt 64 3).toNat = (n % ((2 ^ 64 : Nat) : Int)).toNat % 2 ^ 2 := by
    rw [BitVec.toNat_and, BitVec.toNat_ofInt, h3, Nat.and_two_pow_sub_one_eq_mod]
  show IntKind.i64.wrap ((BitVec.ofInt 64 n &&& BitVec.ofInt 64 3).toNat : Nat) = n % 4
  rw [key, IntKind.wrap_i64]
  omega
/-- Which gap is laid ahead of the word at i. -/
def gapN (zs : List Int) (i : Nat) : Nat := if i < zs.length then (zs.getD i 0 % 4).toNat else 0
theorem gapN_lt (zs : List Int) (i : Nat) : gapN zs i < 4 := by unfold gapN; split <;> omega
/-- The words, each with its gap. -/
def gapd (zs : List Int) : Nat → List Gw → List (Nat × Wd)
  | _, [] => []
  | i, g :: r => (gapN zs i, g.wd) :: gapd zs (i + 1) r
theorem gapd_snoc (zs : List Int) (g : Gw) : ∀ (l : List Gw) (i : Nat), gapd zs i (l ++ [g]) = gapd zs i l ++ [(gapN zs (i + l.length), g.wd)]
  | [], i => rfl
  | x :: l, i => by
    rw [List.cons_append, gapd, gapd_snoc zs g l (i + 1), gapd]
    simp only [List.cons_append, List.length_cons]
    rw [show i + 1 + l.length = i + (l.length + 1) by omega]
theorem gapd_mem (zs : List Int) : ∀ {l : List Gw} {i : Nat}, (∀ g ∈ l, g.may = true) → ∀ p ∈ gapd zs i l, p.2.may = true
  | [], _, _, p, hp => by cases hp
  | g :: l, i, h, p, hp => by
    rcases List.mem_cons.1 hp with rfl | hp
    · exact Gw.wd_may (h g List.mem_cons_self)
    · exact gapd_mem zs (fun g hg => h g (List.mem_cons_of_mem _ hg)) p hp
theorem gapd_words (zs : List Int) : ∀ (l : List Gw) (i : Nat), (gapd zs i l).map (·.2) = l.map Gw.wd
  | [], _ => rfl
  | g :: l, i => by rw [gapd, List.map_cons, gapd_words zs l (i + 1), List.map_cons]
/-- .. as they lie: the text, and where each word begins. -/
def laid (zs : List Int) (l : List Gw) : List (List UInt8 × Wd) := (gapd zs 0 l).map fun p => (gapT p.1, p.2)
def gtext (zs : List Int) (l : List Gw) : List UInt8 := layL (laid zs l)
def gplace (zs : List Int) (l : List Gw) : List Int := (layAt 0 (laid zs l)).map fun p => (p.2 : Int)
theorem laid_next (zs : List Int) {l : List Gw} {j : Nat} {g : Gw} (h : l[j]? = some g) : laid zs (l.take (j + 1)) = laid zs (l.take j) ++ [(gapT (gapN zs j), g.wd)] := by
  have hlt := (List.getElem?_eq_some_iff.1 h).1
  unfold laid
  rw [List.take_add_one, h]
  simp only [Option.toList_some]
  rw [gapd_snoc, List.map_append, Nat.zero_add, List.length_take, Nat.min_eq_left (Nat.le_of_lt hlt)]
  rfl
theorem gtext_next (zs : List Int) {l : List Gw} {j : Nat} {g : Gw} (h : l[j]? = some g) (hm : g.may = true) : gtext zs (l.take (j + 1)) = gtext zs (l.take j) ++ (gapT (gapN zs j) ++ g.tell) := by
  unfold gtext
  rw [laid_next zs h, layL_snoc]
  rw [Gw.wd_tell hm]
theorem gplace_next (zs : List Int) {l : List Gw} {j : Nat} {g : Gw} (h : l[j]? = some g) : gplace zs (l.take (j + 1)) = gplace zs (l.take j) ++ [(((gtext zs (l.take j)).length + (gapT (gapN zs j)).length : Nat) : Int)] := by
  unfold gplace gtext
  rw [laid_next zs h, layAt_snoc, List.map_append, Nat.zero_add]
  rfl
theorem gplace_len (zs : List Int) (l : List Gw) : (gplace zs l).length = l.length := by
  unfold gplace laid
  rw [List.length_map, layAt_len, List.length_map]
  have := congrArg List.length (gapd_words zs l 0)
  simpa using this
theorem gtext_len (zs : List Int) : ∀ (l : List Gw), (∀ g ∈ l, g.may = true) → (gtext zs l).length ≤ 12 * l.length + ((l.map Gw.tell).map fun x => x.length + 1).sum := by
  have key : ∀ (l : List Gw) (i : Nat), (∀ g ∈ l, g.may = true) → (layL ((gapd zs i l).map fun p => (gapT p.1, p.2))).length ≤ 12 * l.length + ((l.map Gw.tell).map fun x => x.length + 1).sum := by
    intro l
    induction l with
    | nil => intro i _; simp [gapd, layL]
    | cons g l ih =>
      intro i hm
      have h1 := ih (i + 1) (fun g hg => hm g (List.mem_cons_of_mem _ hg))
      have h2 := gapT_len (gapN zs i)
      have h3 := Gw.wd_tell (hm g List.mem_cons_self)
      rw [gapd, List.map_cons, layL]
      simp only [List.length_append, List.length_cons, List.map_cons, List.sum_cons]
      rw [h3]
      omega
  intro l hm
  exact key l 0 hm
/-- **Gaps change nothing but places.** -/
theorem gaps_read (zs : List Int) {l : List Gw} (hm : ∀ g ∈ l, g.may = true) :
    (∃ k : List (Wd × Nat), scan (gtext zs l ++ [10, 32, 47, 47]) 0 = (k, none) ∧ sameL (k.map gwOf) l = true ∧ k.map (fun p => (p.2 : Int)) = gplace zs l) ∧
    (∃ k, scan (gtext zs l ++ [32, 35]) 0 = (k, some ((gtext zs l).length + 1))) ∧ (∃ k, scan (gtext zs l ++ [32, 47, 42, 32, 42]) 0 = (k, some ((gtext zs l).length + 1))) := by
  have h := gaps_law (gapd zs 0 l) (gapd_mem zs hm)
  refine ⟨⟨layAt 0 (laid zs l), ?_, ?_, rfl⟩, ⟨layAt 0 (laid zs l) ++ [], ?_⟩, ⟨layAt 0 (laid zs l) ++ [], ?_⟩⟩
  · have := h [10, 32, 47, 47] (gappy_10 _)
    rw [tail_ok, List.append_nil] at this
    exact this
  · have e : (layAt 0 (laid zs l)).map (·.1) = l.map Gw.wd := by
      rw [layAt_words]
      unfold laid
      rw [List.map_map]
      exact gapd_words zs l 0
    have h1 := sameL_wd hm e
    have hl := sameL_len h1
    rw [sameL_all _ _ hl.symm]
    rw [sameL_all _ _ hl] at h1
    intro i hi hi'
    have := h1 i hi' hi
    unfold Gw.same at this ⊢
    simp only [Bool.and_eq_true, decide_eq_true_eq] at this ⊢
    exact ⟨this.1.symm, this.2.1.symm, this.2.2.symm⟩
  · have := h [32, 35] (gappy_32 _)
    rw [tail_hash] at this
    exact this
  · have := h [32, 47, 42, 32, 42] (gappy_32 _)
    rw [tail_open] at this
    exact this
end Go.Proofs.YtimhhacfjgbomaaGreatDoor
