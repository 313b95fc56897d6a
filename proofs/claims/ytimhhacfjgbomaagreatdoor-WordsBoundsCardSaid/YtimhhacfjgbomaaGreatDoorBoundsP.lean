/-
  PLAIN: a text of full stops; the words of the bounds.
-/
import Derived.Test.YtimhhacfjgbomaaGreatDoorLawC
namespace Go.Proofs.YtimhhacfjgbomaaGreatDoor
set_option linter.unusedSimpArgs false
set_option linter.unusedVariables false
open Go.RowKit Go.Shelf

def dot : Wd := ⟨5, [46], 0⟩
theorem dots_word (n : Nat) : word1 (List.replicate (n + 1) (46 : UInt8)) = some (dot, 1) := by
  have h : List.replicate (n + 1) (46 : UInt8) = 46 :: List.replicate n 46 := rfl
  rw [h, w1_sign (by decide)]
  have h2 : two (46 :: List.replicate n (46 : UInt8)) = false := by
    unfold two
    simp [List.isPrefixOf]
  rw [if_neg (by rw [h2]; decide)]
  rfl
theorem dots_skip (n : Nat) : skip (List.replicate n (46 : UInt8)) = (0, true) := by
  cases n with
  | zero => rfl
  | succ n =>
    apply skip_noGap
    show gap1 (46 :: List.replicate n 46) = (0, true)
    unfold gap1
    simp only
    rw [if_neg (by decide), if_neg (by simp [List.isPrefixOf]), if_neg (by simp [List.isPrefixOf])]
theorem dots_scan : ∀ (n a : Nat), (scan (List.replicate n 46) a).2 = none ∧ (scan (List.replicate n 46) a).1.map (·.1) = List.replicate n dot
  | 0, a => ⟨rfl, rfl⟩
  | n + 1, a => by
    have e : scan (List.replicate (n + 1) 46) a = ((dot, a) :: (scan (List.replicate n 46) (a + 1)).1, (scan (List.replicate n 46) (a + 1)).2) := by
      rw [scan_A, dots_skip, if_neg (by simp), List.drop_zero, Nat.add_zero]
      exact scanA_word a (dots_word n)
    rw [e]
    obtain ⟨h1, h2⟩ := dots_scan n (a + 1)
    exact ⟨h1, by simp only [List.map_cons, h2]; rfl⟩
theorem dots_join : ∀ m : Nat, ((List.replicate m ([46] : List UInt8)).flatMap (fun x => 32 :: x)).length = 2 * m
  | 0 => rfl
  | m + 1 => by
    have := dots_join m
    rw [List.replicate_succ, List.flatMap_cons, List.length_append, this]
    simp; omega
/-- Words of memory that are all full stops, but for their places. -/
def Dots (l : List Gw) : Prop := ∀ g ∈ l, g.k = 5 ∧ g.t = ⟨#[46]⟩ ∧ g.n = 0
theorem dots_may {l : List Gw} (h : Dots l) : ∀ g ∈ l, g.may = true := fun g hg => by
  obtain ⟨h1, h2, h3⟩ := h g hg
  unfold Gw.may
  rw [h1, h2, h3]
  decide
theorem dots_tell {l : List Gw} (h : Dots l) : l.map Gw.tell = List.replicate l.length [46] := by
  rw [List.eq_replicate_iff]
  refine ⟨by simp, fun x hx => ?_⟩
  obtain ⟨g, hg, rfl⟩ := List.mem_map.1 hx
  obtain ⟨h1, h2, h3⟩ := h g hg
  unfold Gw.tell
  rw [h1, h2, h3]
  rfl
theorem dots_len {l : List Gw} (h : Dots l) : (joinL (l.map Gw.tell)).length = 2 * l.length - 1 := by
  unfold joinL
  rw [dots_tell h, List.length_drop, dots_join]
theorem dots_print {l : List Gw} (h : Dots l) (hs : 2 * l.length - 1 ≤ 1048576) : ∃ T, printL l = (T, 0) ∧ T.length = 2 * l.length - 1 :=
  ⟨_, printL_ok (dots_may h) (by rw [dots_len h]; exact hs), dots_len h⟩
theorem dots_long {l : List Gw} (h : Dots l) (hs : 1048576 < 2 * l.length - 1) : printL l = ([], 3) := by
  have hm : l.any (fun g => !g.may) = false := by
    rw [List.any_eq_false]
    intro g hg
    rw [dots_may h g hg]; decide
  have hl := dots_len h
  unfold printL
  rw [hm]
  simp only [Bool.false_eq_true, if_false]
  rw [if_pos (by rw [hl]; exact hs)]
theorem dots_of {l : List (Wd × Nat)} {n : Nat} (h : l.map (·.1) = List.replicate n dot) : Dots (l.map gwOf) ∧ l.length = n := by
  refine ⟨fun g hg => ?_, by have := congrArg List.length h; simpa using this⟩
  obtain ⟨p, hp, rfl⟩ := List.mem_map.1 hg
  have : p.1 ∈ List.replicate n dot := by rw [← h]; exact List.mem_map.2 ⟨p, hp, rfl⟩
  have e := (List.mem_replicate.1 this).2
  unfold gwOf
  rw [e]
  exact ⟨rfl, rfl, rfl⟩
/-- The name of sixty-four letters. -/
def nm : ByteArray := ⟨(List.replicate 64 97).toArray⟩
def bT1 : ByteArray := nm ++ ⟨#[32, 96]⟩ ++ nm ++ ⟨#[96, 32, 57, 50, 50, 51, 51, 55, 50, 48, 51, 54, 56, 53, 52, 55, 55, 53, 56, 48, 56]⟩
def bT2 : ByteArray := ⟨#[46, 32]⟩ ++ nm ++ ⟨#[97]⟩
def bT3 : ByteArray := ⟨#[46, 32, 57, 50, 50, 51, 51, 55, 50, 48, 51, 54, 56, 53, 52, 55, 55, 53, 56, 48, 57]⟩
def bT4 : ByteArray := ⟨#[46, 32, 96]⟩ ++ nm ++ ⟨#[97, 96]⟩
theorem bT1_lex : lexL bT1 = ([(⟨1, nm.data.toList, 0⟩, 0), (⟨2, nm.data.toList, 0⟩, 65), (⟨4, [], 9223372036854775808⟩, 132)], 0, 0) := by decide +kernel
theorem bT2_lex : lexL bT2 = ([], 2, 130) := by decide +kernel
theorem bT3_lex : lexL bT3 = ([], 2, 130) := by decide +kernel
theorem bT4_lex : lexL bT4 = ([], 2, 130) := by decide +kernel
theorem nm_name : nameB nm.data.toList = true := by decide +kernel
theorem nm_name2 : nameB (nm ++ ⟨#[97]⟩).data.toList = false := by decide +kernel
theorem desc_res : resB [100, 101, 115, 99, 101, 110, 100, 105, 110, 103] = true := by decide +kernel
theorem asc_res : resB [65, 115, 99, 101, 110, 100, 105, 110, 103] = true := by decide +kernel
end Go.Proofs.YtimhhacfjgbomaaGreatDoor
