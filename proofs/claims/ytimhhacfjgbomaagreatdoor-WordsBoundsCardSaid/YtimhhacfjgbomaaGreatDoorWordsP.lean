/-
  PLAIN WORDS OF LAYER 3: gaps, words, all words of a text, by definition, over lists of bytes. No program in sight.
  PLAIN WORDS OF LAYER 3: how a word is told; a word that is told is read as it was. No program in sight.
  PLAIN WORDS OF LAYER 3: what is read may be told; words laid with gaps between; two texts with a line end between. No program in sight.
  PLAIN WORDS OF LAYER 3: names as they are written, reserved ones, keywords. No program in sight.
  PLAIN WORDS OF LAYER 3: places, signs, words printed side by side, words that are the same. No program in sight.
  PLAIN WORDS OF LAYER 3: what the laws of this layer say, of the plain functions. No program in sight.
  PLAIN WORDS OF LAYER 3: where words lie; what Lex answers of a short text. No program in sight.
  PLAIN WORDS OF LAYER 3: what the document's answer works out, beside the plain functions. No program in sight.
-/
import Derived.Lib.ValidU
import Derived.Lib.RuneBytes
import Derived.Lib.IndexMore
import Derived.Lib.ItoaNum
import Derived.Lib.ValidLaws
import Derived.Lib.Case
namespace Go.Proofs.YtimhhacfjgbomaaGreatDoor
set_option linter.unusedSimpArgs false
set_option linter.unusedVariables false
open Go.Lib

def letN (c : Nat) : Bool := decide (97 ≤ c ∧ c ≤ 122) || decide (65 ≤ c ∧ c ≤ 90) || decide (c = 95)
def digN (c : Nat) : Bool := decide (48 ≤ c ∧ c ≤ 57)
def blankN (c : Nat) : Bool := decide (c = 32) || decide (c = 9) || decide (c = 10) || decide (c = 13)
/-- The signs of one byte. -/
def signs : List UInt8 := [40, 41, 91, 93, 123, 125, 44, 46, 58, 124, 61, 60, 62, 43, 45, 42, 47, 37, 36]
def signN (c : Nat) : Bool := signs.any fun x => x.toNat == c
/-- What a byte may begin: 1 a name, 2 a number, 3 a text, 4 a quoted name, 5 a sign, 0 nothing. -/
def cls (c : Nat) : Nat := if letN c then 1 else if digN c then 2 else if c = 39 ∨ c = 34 then 3 else if c = 96 then 4 else if signN c then 5 else 0

/-- Up to the line's end. -/
def lineL : List UInt8 → Nat
  | [] => 0
  | c :: r => if c = 10 then 0 else lineL r + 1
/-- Where the comment ends. -/
def endL : List UInt8 → Option Nat
  | [] => none
  | c :: r => if [42, 47].isPrefixOf (c :: r) then some 0 else (endL r).map (· + 1)
/-- How much of a gap begins here (0: none); false: a comment that has no end. -/
def gap1 (u : List UInt8) : Nat × Bool :=
  match u with
  | [] => (0, true)
  | c :: _ =>
    if blankN c.toNat then (1, true)
    else if [47, 47].isPrefixOf u then (lineL u, true)
    else if [47, 42].isPrefixOf u then (match endL (u.drop 2) with | some n => (n + 4, true) | none => (0, false))
    else (0, true)
def skipF : Nat → List UInt8 → Nat × Bool
  | 0, _ => (0, true)
  | f + 1, u => if (gap1 u).1 = 0 then gap1 u else ((gap1 u).1 + (skipF f (u.drop (gap1 u).1)).1, (skipF f (u.drop (gap1 u).1)).2)
/-- All gaps that begin here. -/
def skip (u : List UInt8) : Nat × Bool := skipF u.length u

theorem lineL_le : ∀ u, lineL u ≤ u.length
  | [] => Nat.le_refl _
  | c :: r => by unfold lineL; split <;> simp; exact lineL_le r
theorem lineL_index : ∀ u : List UInt8, (indexByte u 10 = -1 ∧ lineL u = u.length) ∨ (indexByte u 10 = lineL u ∧ lineL u < u.length)
  | [] => .inl ⟨rfl, rfl⟩
  | c :: r => by
    unfold indexByte lineL
    by_cases h : c = 10
    · right; simp [h]
    · have h' : (c == 10) = false := by simpa using h
      rcases lineL_index r with ⟨h1, h2⟩ | ⟨h1, h2⟩
      · left; simp [h', h, h1, h2]
      · right
        have : ((lineL r : Int) == -1) = false := by rw [beq_eq_false_iff_ne]; omega
        simp [h', h, h1, this, h2]
theorem endL_index : ∀ u : List UInt8, (index u [42, 47] = -1 ∧ endL u = none) ∨ ∃ n : Nat, index u [42, 47] = n ∧ endL u = some n ∧ n + 2 ≤ u.length
  | [] => .inl ⟨rfl, rfl⟩
  | c :: r => by
    unfold index endL
    by_cases h : [42, 47].isPrefixOf (c :: r) = true
    · right
      refine ⟨0, by rw [if_pos h]; rfl, by rw [if_pos h], ?_⟩
      have := (List.isPrefixOf_iff_prefix.1 h).length_le
      simpa using this
    · rcases endL_index r with ⟨h1, h2⟩ | ⟨n, h1, h2, h3⟩
      · left; rw [if_neg h, if_neg h, h1, h2]; exact ⟨rfl, rfl⟩
      · right
        have : ((n : Int) == -1) = false := by rw [beq_eq_false_iff_ne]; omega
        refine ⟨n + 1, by rw [if_neg h, h1]; simp [this], by rw [if_neg h, h2]; rfl, by simp; omega⟩
theorem gap1_le (u : List UInt8) : (gap1 u).1 ≤ u.length := by
  unfold gap1
  split
  · exact Nat.le_refl _
  · rename_i c r
    split
    · simp
    · split
      · exact lineL_le _
      · split
        · rename_i h
          have hl := (List.isPrefixOf_iff_prefix.1 h).length_le
          rcases endL_index ((c :: r).drop 2) with ⟨_, h2⟩ | ⟨n, _, h2, h3⟩
          · rw [h2]; simp
          · rw [h2]; simp at h3 hl ⊢; omega
        · exact Nat.zero_le _
theorem gap1_bad {u : List UInt8} (h : (gap1 u).2 = false) : (gap1 u).1 = 0 := by
  unfold gap1 at *
  split
  · rfl
  · rename_i c r
    simp only at h ⊢
    split
    · rename_i h1; rw [if_pos h1] at h; cases h
    · rename_i h1; rw [if_neg h1] at h
      split
      · rename_i h2; rw [if_pos h2] at h; cases h
      · rename_i h2; rw [if_neg h2] at h
        split
        · rename_i h3; rw [if_pos h3] at h
          cases he : endL ((c :: r).drop 2) with
          | none => rfl
          | some n => rw [he] at h; cases h
        · rfl
theorem skipF_le : ∀ f u, (skipF f u).1 ≤ u.length
  | 0, _ => Nat.zero_le _
  | f + 1, u => by
    unfold skipF
    split
    · exact gap1_le u
    · have h1 := gap1_le u
      have h2 := skipF_le f (u.drop (gap1 u).1)
      simp only [List.length_drop] at h2
      simp only; omega
/-- More fuel than bytes is for nothing. -/
theorem skipF_fuel : ∀ f g u, u.length ≤ f → u.length ≤ g → skipF f u = skipF g u
  | 0, 0, _, _, _ => rfl
  | 0, g + 1, u, h, _ => by
    have : u = [] := List.eq_nil_of_length_eq_zero (by omega)
    subst this
    unfold skipF
    simp [gap1]
  | f + 1, 0, u, _, h => by
    have : u = [] := List.eq_nil_of_length_eq_zero (by omega)
    subst this
    simp [skipF, gap1]
  | f + 1, g + 1, u, h, h' => by
    unfold skipF
    by_cases h0 : (gap1 u).1 = 0
    · rw [if_pos h0, if_pos h0]
    · have hl := gap1_le u
      rw [if_neg h0, if_neg h0, skipF_fuel f g (u.drop (gap1 u).1) (by simp; omega) (by simp; omega)]
theorem skip_eq (u : List UInt8) : skip u = if (gap1 u).1 = 0 then gap1 u else ((gap1 u).1 + (skip (u.drop (gap1 u).1)).1, (skip (u.drop (gap1 u).1)).2) := by
  unfold skip
  rw [skipF_fuel u.length (u.length + 1) u (Nat.le_refl _) (Nat.le_succ _)]
  show (if (gap1 u).1 = 0 then gap1 u else _) = _
  split
  · rfl
  · rw [skipF_fuel u.length (u.drop (gap1 u).1).length (u.drop (gap1 u).1) (by simp) (Nat.le_refl _)]
theorem skip_le (u : List UInt8) : (skip u).1 ≤ u.length := skipF_le _ _
theorem skip_nil : skip [] = (0, true) := rfl

/-- Letters and digits, as far as they go. -/
def runB (c : UInt8) : Bool := letN c.toNat || digN c.toNat
def runL (u : List UInt8) : List UInt8 := u.takeWhile runB
/-- A number to the base ten. -/
def numV (u : List UInt8) : Nat := u.foldl (fun n c => 10 * n + (c.toNat - 48)) 0
/-- A digit to the base 16. -/
def hexN (c : Nat) : Option Nat := if 48 ≤ c ∧ c ≤ 57 then some (c - 48) else if 97 ≤ c ∧ c ≤ 102 then some (c - 87) else if 65 ≤ c ∧ c ≤ 70 then some (c - 55) else none
def hex4 (a b c d : UInt8) : Option Nat :=
  match hexN a.toNat, hexN b.toNat, hexN c.toNat, hexN d.toNat with
  | some w, some x, some y, some z => some (16 * (16 * (16 * w + x) + y) + z)
  | _, _, _, _ => none
/-- Four digits' rune, as bytes. -/
def rune4 (a b c d : UInt8) : Option (List UInt8) :=
  match hex4 a b c d with
  | some n => if 55296 ≤ n ∧ n ≤ 57343 then none else some (encodeRune n)
  | none => none
/-- What a byte behind a backslash means. -/
def esc1 (c : UInt8) : Option UInt8 := if c = 92 ∨ c = 39 ∨ c = 34 then some c else if c = 110 then some 10 else if c = 116 then some 9 else if c = 114 then some 13 else none
/-- A text up to behind its closing sign. -/
def textL (q : UInt8) : List UInt8 → Option (List UInt8 × Nat)
  | [] => none
  | c :: r =>
    if c = q then some ([], 1)
    else if c = 92 then
      match r with
      | [] => none
      | d :: r' =>
        match esc1 d with
        | some x => (textL q r').map fun p => (x :: p.1, p.2 + 2)
        | none =>
          if d = 117 then
            match r' with
            | a :: b :: e :: f :: r'' =>
              match rune4 a b e f with
              | some bs => (textL q r'').map fun p => (bs ++ p.1, p.2 + 6)
              | none => none
            | _ => none
          else none
    else (textL q r).map fun p => (c :: p.1, p.2 + 1)
/-- A quoted name up to behind its closing sign. -/
def quotL : List UInt8 → Option (List UInt8 × Nat)
  | [] => none
  | c :: r =>
    if c = 96 then
      match r with
      | [] => some ([], 1)
      | d :: r' => if d = 96 then (quotL r').map fun p => (96 :: p.1, p.2 + 2) else some ([], 1)
    else (quotL r).map fun p => (c :: p.1, p.2 + 1)
/-- May it be a name? -/
def nameB (t : List UInt8) : Bool := decide (1 ≤ t.length) && decide (t.length ≤ 64) && validD t && !t.contains 0

/-- A word's kind, text, number. -/
structure Wd where
  k : Nat
  t : List UInt8
  n : Nat
  deriving DecidableEq
def two (u : List UInt8) : Bool := [60, 62].isPrefixOf u || [60, 61].isPrefixOf u || [62, 61].isPrefixOf u
def numB (t : List UInt8) : Bool := t.all (fun c => digN c.toNat) && (t == [48] || t.head? != some 48) && decide (numV t ≤ 9223372036854775808)
/-- The word that begins here, and how long it is. -/
def word1 (u : List UInt8) : Option (Wd × Nat) :=
  match u with
  | [] => none
  | c :: r =>
    if cls c.toNat = 1 then (if (runL u).length ≤ 64 then some (⟨1, runL u, 0⟩, (runL u).length) else none)
    else if cls c.toNat = 2 then (if numB (runL u) then some (⟨4, [], numV (runL u)⟩, (runL u).length) else none)
    else if cls c.toNat = 3 then (match textL c r with | some p => if validD p.1 then some (⟨3, p.1, 0⟩, p.2 + 1) else none | none => none)
    else if cls c.toNat = 4 then (match quotL r with | some p => if nameB p.1 then some (⟨2, p.1, 0⟩, p.2 + 1) else none | none => none)
    else if cls c.toNat = 5 then (if two u then some (⟨5, u.take 2, 0⟩, 2) else some (⟨5, u.take 1, 0⟩, 1))
    else none
/-- All words, each with its place; where the first is that can't be read. -/
def scanF : Nat → List UInt8 → Nat → List (Wd × Nat) × Option Nat
  | 0, _, _ => ([], none)
  | f + 1, u, at_ =>
    if (skip u).2 = false then ([], some (at_ + (skip u).1))
    else match u.drop (skip u).1 with
      | [] => ([], none)
      | c :: r => match word1 (c :: r) with
        | none => ([], some (at_ + (skip u).1))
        | some (w, n) => ((w, at_ + (skip u).1) :: (scanF f ((c :: r).drop n) (at_ + (skip u).1 + n)).1, (scanF f ((c :: r).drop n) (at_ + (skip u).1 + n)).2)
def scan (u : List UInt8) (at_ : Nat) : List (Wd × Nat) × Option Nat := scanF (u.length + 1) u at_

theorem textL_len (q : UInt8) : ∀ (m : Nat) (u : List UInt8), u.length ≤ m → ∀ p, textL q u = some p → 1 ≤ p.2 ∧ p.2 ≤ u.length
  | m, [], _, p, h => by simp [textL] at h
  | 0, c :: r, hm, p, h => by simp at hm
  | m + 1, c :: r, hm, p, h => by
    unfold textL at h
    split at h
    · cases h; simp
    · split at h
      · split at h
        · cases h
        · rename_i d r'
          split at h
          · obtain ⟨p', h1, rfl⟩ := Option.map_eq_some_iff.1 h
            have := textL_len q m r' (by simp at hm; omega) p' h1
            simp; omega
          · split at h
            · split at h
              · rename_i a b e f r''
                split at h
                · obtain ⟨p', h1, rfl⟩ := Option.map_eq_some_iff.1 h
                  have := textL_len q m r'' (by simp at hm; omega) p' h1
                  simp; omega
                · cases h
              · cases h
            · cases h
      · obtain ⟨p', h1, rfl⟩ := Option.map_eq_some_iff.1 h
        have := textL_len q m r (by simp at hm; omega) p' h1
        simp; omega
theorem quotL_len : ∀ (m : Nat) (u : List UInt8), u.length ≤ m → ∀ p, quotL u = some p → 1 ≤ p.2 ∧ p.2 ≤ u.length
  | m, [], _, p, h => by simp [quotL] at h
  | 0, c :: r, hm, p, h => by simp at hm
  | m + 1, c :: r, hm, p, h => by
    unfold quotL at h
    split at h
    · split at h
      · cases h; simp
      · rename_i d r'
        split at h
        · obtain ⟨p', h1, rfl⟩ := Option.map_eq_some_iff.1 h
          have := quotL_len m r' (by simp at hm; omega) p' h1
          simp; omega
        · cases h; simp
    · obtain ⟨p', h1, rfl⟩ := Option.map_eq_some_iff.1 h
      have := quotL_len m r (by simp at hm; omega) p' h1
      simp; omega
theorem runL_le (u : List UInt8) : (runL u).length ≤ u.length := (List.takeWhile_sublist _).length_le
theorem cls_run {c : UInt8} (h : cls c.toNat = 1 ∨ cls c.toNat = 2) : runB c = true := by
  unfold cls at h
  unfold runB
  by_cases h1 : letN c.toNat = true
  · simp [h1]
  · by_cases h2 : digN c.toNat = true
    · simp [h2]
    · rw [if_neg h1, if_neg h2] at h
      split at h
      · omega
      · split at h
        · omega
        · split at h <;> omega
theorem word1_len {u : List UInt8} {w : Wd} {n : Nat} (h : word1 u = some (w, n)) : 1 ≤ n ∧ n ≤ u.length := by
  unfold word1 at h
  split at h
  · cases h
  · rename_i c r
    split at h
    · rename_i hc
      split at h
      · cases h
        have h1 := cls_run (.inl hc)
        refine ⟨?_, runL_le _⟩
        simp [runL, h1]
      · cases h
    · split at h
      · rename_i hc
        split at h
        · cases h
          have h1 := cls_run (.inr hc)
          refine ⟨?_, runL_le _⟩
          simp [runL, h1]
        · cases h
      · split at h
        · split at h
          · rename_i p hp
            split at h
            · cases h
              have := textL_len c r.length r (Nat.le_refl _) p hp
              simp; omega
            · cases h
          · cases h
        · split at h
          · split at h
            · rename_i p hp
              split at h
              · cases h
                have := quotL_len r.length r (Nat.le_refl _) p hp
                simp; omega
              · cases h
            · cases h
          · split at h
            · split at h
              · rename_i ht
                cases h
                refine ⟨by omega, ?_⟩
                unfold two at ht
                simp only [Bool.or_eq_true] at ht
                rcases ht with (ht | ht) | ht <;> simpa using (List.isPrefixOf_iff_prefix.1 ht).length_le
              · cases h; simp
            · cases h
theorem scanF_fuel : ∀ f g u a, u.length < f → u.length < g → scanF f u a = scanF g u a
  | 0, _, u, _, h, _ => absurd h (Nat.not_lt_zero _)
  | _ + 1, 0, u, _, _, h => absurd h (Nat.not_lt_zero _)
  | f + 1, g + 1, u, a, h, h' => by
    unfold scanF
    split
    · rfl
    · have hs := skip_le u
      split
      · rfl
      · rename_i c r hd
        have hl := congrArg List.length hd
        simp only [List.length_drop, List.length_cons] at hl
        split
        · rfl
        · rename_i w n hw
          have := word1_len hw
          rw [scanF_fuel f g _ _ (by simp at this ⊢; omega) (by simp at this ⊢; omega)]
/-- One step. -/
theorem scan_eq (u : List UInt8) (a : Nat) : scan u a = if (skip u).2 = false then ([], some (a + (skip u).1))
    else match u.drop (skip u).1 with
      | [] => ([], none)
      | c :: r => match word1 (c :: r) with
        | none => ([], some (a + (skip u).1))
        | some (w, n) => ((w, a + (skip u).1) :: (scan ((c :: r).drop n) (a + (skip u).1 + n)).1, (scan ((c :: r).drop n) (a + (skip u).1 + n)).2) := by
  unfold scan
  conv => lhs; unfold scanF
  split
  · rfl
  · split
    · rfl
    · rename_i c r hd
      have hl := congrArg List.length hd
      simp only [List.length_drop, List.length_cons] at hl
      split
      · rfl
      · rename_i w n hw
        have := word1_len hw
        rw [scanF_fuel u.length (((c :: r).drop n).length + 1) _ _ (by simp at this ⊢; omega) (by simp)]
end Go.Proofs.YtimhhacfjgbomaaGreatDoor
namespace Go.Proofs.YtimhhacfjgbomaaGreatDoor
set_option linter.unusedSimpArgs false
set_option linter.unusedVariables false
open Go.Lib

/-- All signs, the longer ones ahead. -/
def signL : List (List UInt8) := [60, 62] :: [60, 61] :: [62, 61] :: signs.map (fun c => [c])
/-- A text that reads as a name. -/
def plainB (t : List UInt8) : Bool := match t with
  | [] => false
  | c :: _ => decide (cls c.toNat = 1) && decide (runL t = t) && nameB t
/-- May a word be? -/
def mayB (k : Int) (t : List UInt8) (n : Nat) : Bool :=
  if k = 1 then decide (n = 0) && plainB t
  else if k = 2 then decide (n = 0) && nameB t
  else if k = 3 then decide (n = 0) && validD t
  else if k = 4 then decide (t = []) && decide (n ≤ 9223372036854775808)
  else if k = 5 then signL.contains t && decide (n = 0)
  else false
def twice (c : UInt8) : List UInt8 := if c = 96 then [96, 96] else [c]
/-- A name between quotes. -/
def betweenL (t : List UInt8) : List UInt8 := 96 :: (t.flatMap twice ++ [96])
def hexD (n : Nat) : UInt8 := if n < 10 then UInt8.ofNat (48 + n) else UInt8.ofNat (87 + n)
def escB (c : UInt8) : List UInt8 :=
  if c = 39 then [92, 39] else if c = 92 then [92, 92] else if c = 10 then [92, 110] else if c = 9 then [92, 116] else if c = 13 then [92, 114]
  else if c.toNat < 32 ∨ c.toNat = 127 then [92, 117, 48, 48, hexD (c.toNat / 16), hexD (c.toNat % 16)] else [c]
/-- A text between quotes. -/
def quoteL (t : List UInt8) : List UInt8 := if validD t then 39 :: (t.flatMap escB ++ [39]) else []
/-- A word as it is told. -/
def tellL (k : Int) (t : List UInt8) (n : Nat) : List UInt8 := if k = 2 then betweenL t else if k = 3 then quoteL t else if k = 4 then decDigits n else t

theorem byte_all {P : UInt8 → Prop} (h : ∀ i : Fin 256, P (UInt8.ofNat i.val)) (c : UInt8) : P c := by
  have := h ⟨c.toNat, c.toNat_lt⟩
  simpa using this

/-! ### texts -/
def escOK (c : UInt8) : Bool := match escB c with
  | [d] => d == c && c != 39 && c != 92
  | [a, d] => a == 92 && (esc1 d == some c)
  | [a, u, x, y, z, t] => a == 92 && u == 117 && x == 48 && y == 48 && (rune4 48 48 z t == some [c])
  | _ => false
theorem escOK_all (c : UInt8) : escOK c = true := by
  refine byte_all (P := fun c => escOK c = true) ?_ c
  decide +kernel
theorem textL_esc (c : UInt8) (u : List UInt8) : textL 39 (escB c ++ u) = (textL 39 u).map fun p => (c :: p.1, p.2 + (escB c).length) := by
  have h := escOK_all c
  unfold escOK at h
  split at h
  · rename_i d he
    simp only [Bool.and_eq_true, beq_iff_eq, bne_iff_ne] at h
    obtain ⟨⟨rfl, h1⟩, h2⟩ := h
    rw [he]
    simp only [List.cons_append, List.nil_append, List.length_cons, List.length_nil, Nat.zero_add]
    conv => lhs; unfold textL
    rw [if_neg h1, if_neg h2]
  · rename_i a d he
    simp only [Bool.and_eq_true, beq_iff_eq] at h
    obtain ⟨rfl, h2⟩ := h
    rw [he]
    simp only [List.cons_append, List.nil_append, List.length_cons, List.length_nil, Nat.zero_add]
    conv => lhs; unfold textL
    rw [if_neg (by decide), if_pos rfl]
    simp only [h2]
  · rename_i a b x y z t he
    simp only [Bool.and_eq_true, beq_iff_eq] at h
    obtain ⟨⟨⟨⟨rfl, rfl⟩, rfl⟩, rfl⟩, h2⟩ := h
    rw [he]
    simp only [List.cons_append, List.nil_append, List.length_cons, List.length_nil, Nat.zero_add]
    conv => lhs; unfold textL
    rw [if_neg (by decide), if_pos rfl]
    simp only [show esc1 117 = none from by decide, if_true, h2, List.cons_append, List.nil_append]
  · cases h
theorem textL_quote : ∀ (t u : List UInt8), textL 39 (t.flatMap escB ++ 39 :: u) = some (t, (t.flatMap escB).length + 1)
  | [], u => by show textL 39 (39 :: u) = _; unfold textL; rw [if_pos rfl]; rfl
  | c :: t, u => by
    rw [List.flatMap_cons, List.append_assoc, textL_esc, textL_quote t u]
    simp only [Option.map_some, List.length_append]
    congr 2
    omega
theorem escB_len (c : UInt8) : 1 ≤ (escB c).length ∧ (escB c).length ≤ 6 := by
  unfold escB; (repeat' split) <;> simp
theorem flatEsc_len : ∀ t : List UInt8, t.length ≤ (t.flatMap escB).length ∧ (t.flatMap escB).length ≤ 6 * t.length
  | [] => by simp
  | c :: t => by
    have h1 := escB_len c
    have h2 := flatEsc_len t
    rw [List.flatMap_cons, List.length_append, List.length_cons]; omega

/-! ### quoted names -/
theorem quotL_twice : ∀ (t u : List UInt8), u.head? ≠ some 96 → quotL (t.flatMap twice ++ 96 :: u) = some (t, (t.flatMap twice).length + 1)
  | [], [], _ => by simp [quotL]
  | [], c :: u, h => by
    have : c ≠ 96 := fun e => h (by simp [e])
    simp [quotL, this]
  | c :: t, u, h => by
    rw [List.flatMap_cons, List.append_assoc]
    have ih := quotL_twice t u h
    by_cases hc : c = 96
    · subst hc
      have : twice 96 = [96, 96] := by decide
      rw [this]
      simp only [List.cons_append, List.nil_append]
      conv => lhs; unfold quotL
      simp only [if_true, ih, Option.map_some, List.length_cons]
    · have : twice c = [c] := by unfold twice; rw [if_neg hc]
      rw [this]
      simp only [List.cons_append, List.nil_append]
      conv => lhs; unfold quotL
      rw [if_neg hc, ih]
      simp only [Option.map_some, List.length_cons]
theorem twice_len (c : UInt8) : 1 ≤ (twice c).length ∧ (twice c).length ≤ 2 := by unfold twice; split <;> simp
theorem flatTwice_len : ∀ t : List UInt8, t.length ≤ (t.flatMap twice).length ∧ (t.flatMap twice).length ≤ 2 * t.length
  | [] => by simp
  | c :: t => by
    have h1 := twice_len c
    have h2 := flatTwice_len t
    rw [List.flatMap_cons, List.length_append, List.length_cons]; omega

/-! ### runs -/
theorem run_mem : ∀ {u : List UInt8}, ∀ c ∈ runL u, runB c = true
  | [], c, h => by simp [runL] at h
  | d :: r, c, h => by
    unfold runL at h
    cases hd : runB d with
    | false => rw [List.takeWhile_cons_of_neg (by rw [hd]; simp)] at h; cases h
    | true =>
      rw [List.takeWhile_cons_of_pos hd] at h
      rcases List.mem_cons.1 h with rfl | h
      · exact hd
      · exact run_mem (u := r) c h
theorem runL_self {t : List UInt8} (h : ∀ c ∈ t, runB c = true) : runL t = t := by
  have := List.takeWhile_append_of_pos (p := runB) (l₂ := []) h
  simpa [runL] using this
theorem runL_append (t u : List UInt8) (ht : runL t = t) (hu : ∀ c, u.head? = some c → runB c = false) : runL (t ++ u) = t := by
  have h1 : ∀ c ∈ t, runB c = true := by rw [← ht]; exact run_mem
  unfold runL at *
  rw [List.takeWhile_append_of_pos h1]
  cases u with
  | nil => simp
  | cons c r => rw [List.takeWhile_cons_of_neg (by rw [hu c rfl]; simp), List.append_nil]
theorem runL_idem (u : List UInt8) : runL (runL u) = runL u := runL_self run_mem
theorem runB_ascii {c : UInt8} (h : runB c = true) : c.toNat < 128 ∧ c ≠ 0 := by
  revert h
  refine byte_all (P := fun c => runB c = true → c.toNat < 128 ∧ c ≠ 0) ?_ c
  decide +kernel
theorem validD_run {t : List UInt8} (h : ∀ c ∈ t, runB c = true) : validD t = true := by
  rw [validD_ascii t.length t (by rw [List.take_length]; exact fun b hb => (runB_ascii (h b hb)).1), List.drop_length]; rfl
theorem nameB_run {t : List UInt8} (h : ∀ c ∈ t, runB c = true) (h1 : t ≠ []) (h2 : t.length ≤ 64) : nameB t = true := by
  unfold nameB
  have h3 : 1 ≤ t.length := by cases t with
    | nil => exact absurd rfl h1
    | cons => simp
  have h4 : t.contains 0 = false := by
    rw [Bool.eq_false_iff]
    intro e
    exact (runB_ascii (h 0 (by simpa using e))).2 rfl
  simp [h3, h2, validD_run h]
  simpa using h4

/-! ### numbers -/
theorem numV_snoc (l : List UInt8) (c : UInt8) : numV (l ++ [c]) = 10 * numV l + (c.toNat - 48) := by unfold numV; rw [List.foldl_append]; rfl
theorem dig_toNat {d : Nat} (h : d < 10) : (UInt8.ofNat (48 + d)).toNat = 48 + d := by
  rw [UInt8.toNat_ofNat_of_lt' (by simp [UInt8.size]; omega)]
theorem dec_num (u : Nat) : numV (decDigits u) = u ∧ (decDigits u).all (fun c => digN c.toNat) = true ∧ (decDigits u = [48] ∨ (decDigits u).head? ≠ some 48) := by
  induction u using Nat.strongRecOn with
  | _ u ih =>
    by_cases h : u < 10
    · rw [decDigits_one h]
      refine ⟨?_, ?_, ?_⟩
      · show 10 * 0 + _ = _; rw [dig_toNat h]; omega
      · simp only [List.all_cons, List.all_nil, Bool.and_true, dig_toNat h, digN]; simp; omega
      · by_cases h0 : u = 0
        · left; subst h0; rfl
        · right; intro e
          have := congrArg UInt8.toNat (Option.some.inj e)
          rw [dig_toNat h] at this
          simp at this; omega
    · obtain ⟨h1, h2, h3⟩ := ih (u / 10) (by omega)
      have e : decDigits u = decDigits (u / 10) ++ [UInt8.ofNat (48 + u % 10)] := by rw [decDigits, dif_neg h]
      have hne : decDigits (u / 10) ≠ [] := by
        intro e; have := congrArg List.length e; rw [decDigits_length] at this; have := nDigits_pos (u / 10); simp at *; omega
      rw [e]
      refine ⟨?_, ?_, ?_⟩
      · rw [numV_snoc, h1, dig_toNat (by omega)]; omega
      · rw [List.all_append, h2]; simp only [List.all_cons, List.all_nil, Bool.and_true, dig_toNat (show u % 10 < 10 by omega), digN]; simp; omega
      · right
        obtain ⟨c, r, hc⟩ := List.exists_cons_of_ne_nil hne
        rw [hc]
        simp only [List.cons_append, List.head?_cons]
        rcases h3 with h3 | h3
        · exfalso
          have := h1
          rw [h3] at this
          have h4 : numV [48] = 0 := by decide
          omega
        · rw [hc] at h3; simpa using h3
theorem dec_ne (u : Nat) : decDigits u ≠ [] := by
  intro e; have := congrArg List.length e; rw [decDigits_length] at this; have := nDigits_pos u; simp at *; omega
theorem dig_run {c : Nat} (h : digN c = true) : cls c = 2 := by
  unfold digN at h
  simp at h
  unfold cls letN digN
  have h1 : decide (97 ≤ c ∧ c ≤ 122) = false := by simp; omega
  have h2 : decide (65 ≤ c ∧ c ≤ 90) = false := by simp; omega
  have h3 : decide (c = 95) = false := by simp; omega
  simp [h1, h2, h3, h]
theorem dec_len {u : Nat} (h : u < 10 ^ 20) : (decDigits u).length ≤ 20 := by
  rw [decDigits_length]
  rcases Nat.lt_or_ge 20 (nDigits u) with h1 | h1
  · exfalso
    have h2 : ∀ (k u : Nat), k < nDigits u → 10 ^ k ≤ u ∨ k = 0 := by
      intro k
      induction k with
      | zero => intro u _; right; rfl
      | succ k ih =>
        intro u hk
        left
        by_cases hu : u < 10
        · rw [nDigits_small hu] at hk; omega
        · rw [nDigits_big hu] at hk
          rcases ih (u / 10) (by omega) with h | h
          · rw [Nat.pow_succ]; omega
          · subst h; omega
    rcases h2 20 u h1 with h | h
    · omega
    · omega
  · exact h1

/-! ### a word read as it was told -/
/-- What may stand behind a word: nothing, or a blank. -/
def Gappy (u : List UInt8) : Prop := ∀ c, u.head? = some c → c = 32 ∨ c = 9 ∨ c = 10 ∨ c = 13
theorem Gappy.nil : Gappy [] := fun c h => by cases h
theorem Gappy.run {u : List UInt8} (h : Gappy u) : ∀ c, u.head? = some c → runB c = false := fun c hc => by
  rcases h c hc with rfl | rfl | rfl | rfl <;> decide
theorem mayB_kind {k : Int} {t : List UInt8} {n : Nat} (h : mayB k t n = true) : k = 1 ∨ k = 2 ∨ k = 3 ∨ k = 4 ∨ k = 5 := by
  unfold mayB at h
  by_cases h1 : k = 1; · simp [h1]
  by_cases h2 : k = 2; · simp [h2]
  by_cases h3 : k = 3; · simp [h3]
  by_cases h4 : k = 4; · simp [h4]
  by_cases h5 : k = 5; · simp [h5]
  simp [h1, h2, h3, h4, h5] at h
theorem cls39 : cls (39 : UInt8).toNat = 3 := by decide
theorem cls96 : cls (96 : UInt8).toNat = 4 := by decide
theorem sign_two : ∀ t ∈ signL, t.length ≤ 2 := by decide
theorem sign_read (t u : List UInt8) (h : signL.contains t = true) (hu : Gappy u) : word1 (t ++ u) = some (⟨5, t, 0⟩, t.length) := by
  have hg : ∀ c r, u = c :: r → c ≠ 62 ∧ c ≠ 61 := fun c r e => by
    rcases hu c (by rw [e]; rfl) with rfl | rfl | rfl | rfl <;> decide
  simp only [List.contains_eq_mem, decide_eq_true_eq] at h
  cases u with
  | nil =>
    rw [List.append_nil]
    have hall : ∀ t ∈ signL, word1 t = some (⟨5, t, 0⟩, t.length) := by decide +kernel
    exact hall t h
  | cons c r =>
    have h1 := hg c r rfl
    simp only [signL, signs, List.map_cons, List.map_nil, List.mem_cons, List.not_mem_nil, or_false] at h
    rcases h with rfl | rfl | rfl | rfl | rfl | rfl | rfl | rfl | rfl | rfl | rfl | rfl | rfl | rfl | rfl | rfl | rfl | rfl | rfl | rfl | rfl | rfl <;>
      (unfold word1; simp only [List.cons_append, List.nil_append]; rw [if_neg (by decide), if_neg (by decide), if_neg (by decide), if_neg (by decide), if_pos (by decide)]; simp [two, List.isPrefixOf, h1.1.symm, h1.2.symm])
/-- **A word that is told is read as it was.** -/
theorem word1_tell {k : Int} {t : List UInt8} {n : Nat} (h : mayB k t n = true) (u : List UInt8) (hu : Gappy u) :
    word1 (tellL k t n ++ u) = some (⟨k.toNat, t, n⟩, (tellL k t n).length) := by
  have h96 : u.head? ≠ some 96 := fun e => by rcases hu 96 e with h | h | h | h <;> cases h
  rcases mayB_kind h with rfl | rfl | rfl | rfl | rfl
  · simp only [mayB, if_true, Bool.and_eq_true, decide_eq_true_eq] at h
    obtain ⟨rfl, hp⟩ := h
    unfold plainB at hp
    cases t with
    | nil => cases hp
    | cons c r =>
      simp only [Bool.and_eq_true, decide_eq_true_eq] at hp
      obtain ⟨⟨h1, h2⟩, h3⟩ := hp
      have h4 : (c :: r).length ≤ 64 := by unfold nameB at h3; simp at h3; simpa using h3.1.1
      have h5 := runL_append (c :: r) u h2 hu.run
      unfold tellL word1
      simp only [show ¬ (1 : Int) = 2 by decide, show ¬ (1 : Int) = 3 by decide, show ¬ (1 : Int) = 4 by decide, if_false, List.cons_append]
      rw [if_pos h1]
      rw [List.cons_append] at h5
      rw [h5, if_pos h4]
      rfl
  · simp only [mayB, if_true, Bool.and_eq_true, decide_eq_true_eq, show ¬ (2 : Int) = 1 by decide, if_false] at h
    obtain ⟨rfl, hp⟩ := h
    unfold tellL betweenL word1
    simp only [if_true, List.cons_append, List.append_assoc, List.nil_append]
    rw [if_neg (by rw [cls96]; decide), if_neg (by rw [cls96]; decide), if_neg (by rw [cls96]; decide), if_pos cls96, quotL_twice t u h96]
    simp only [hp, if_true, List.length_cons, List.length_append, List.length_nil]
    rfl
  · simp only [mayB, if_true, Bool.and_eq_true, decide_eq_true_eq, show ¬ (3 : Int) = 1 by decide, show ¬ (3 : Int) = 2 by decide, if_false] at h
    obtain ⟨rfl, hp⟩ := h
    unfold tellL quoteL word1
    simp only [if_true, hp, List.cons_append, List.append_assoc, List.nil_append, show ¬ (3 : Int) = 2 by decide, if_false]
    rw [if_neg (by rw [cls39]; decide), if_neg (by rw [cls39]; decide), if_pos cls39, textL_quote t u]
    simp only [hp, if_true, List.length_cons, List.length_append, List.length_nil]
    rfl
  · simp only [mayB, if_true, Bool.and_eq_true, decide_eq_true_eq, show ¬ (4 : Int) = 1 by decide, show ¬ (4 : Int) = 2 by decide, show ¬ (4 : Int) = 3 by decide, if_false] at h
    obtain ⟨rfl, hn⟩ := h
    obtain ⟨h1, h2, h3⟩ := dec_num n
    have hl : ∀ c ∈ decDigits n, runB c = true := fun c hc => cls_run (.inr (dig_run (List.all_eq_true.1 h2 c hc)))
    have hr : runL (decDigits n) = decDigits n := by
      unfold runL
      have := List.takeWhile_append_of_pos (p := runB) (l₂ := []) hl
      simpa using this
    have h5 := runL_append (decDigits n) u hr hu.run
    have h6 : numB (decDigits n) = true := by
      unfold numB
      rw [h1, h2]
      rcases h3 with h3 | h3
      · simp [h3, hn]
      · simp [hn]; right; exact h3
    unfold tellL
    simp only [show ¬ (4 : Int) = 2 by decide, show ¬ (4 : Int) = 3 by decide, if_false, if_true]
    cases hd : decDigits n with
    | nil => exact absurd hd (dec_ne n)
    | cons c r =>
      have hc : cls c.toNat = 2 := dig_run (List.all_eq_true.1 h2 c (by rw [hd]; simp))
      rw [hd] at h5 h6 h1
      unfold word1
      simp only [List.cons_append]
      rw [List.cons_append] at h5
      rw [if_neg (by rw [hc]; decide), if_pos hc, h5, if_pos h6, h1]
      rfl
  · simp only [mayB, if_true, Bool.and_eq_true, decide_eq_true_eq, show ¬ (5 : Int) = 1 by decide, show ¬ (5 : Int) = 2 by decide, show ¬ (5 : Int) = 3 by decide, show ¬ (5 : Int) = 4 by decide, if_false] at h
    obtain ⟨hs, rfl⟩ := h
    exact sign_read t u hs hu
/-- No gap begins where a word is told. -/
theorem head_word1 {c : UInt8} {r : List UInt8} {p : Wd × Nat} (h : word1 (c :: r) = some p) : cls c.toNat ≠ 0 := by
  intro e
  unfold word1 at h
  simp [e] at h
theorem blank_cls (c : UInt8) (h : cls c.toNat ≠ 0) : blankN c.toNat = false := by
  revert h
  refine byte_all (P := fun c => cls c.toNat ≠ 0 → blankN c.toNat = false) ?_ c
  decide +kernel
/-- Nothing of a gap begins. -/
def NoGap (u : List UInt8) : Prop := gap1 u = (0, true)
theorem tell_ne {k : Int} {t : List UInt8} {n : Nat} (h : mayB k t n = true) : 1 ≤ (tellL k t n).length := by
  have h1 := word1_tell h [] Gappy.nil
  exact (word1_len h1).1
theorem tell_noGap {k : Int} {t : List UInt8} {n : Nat} (h : mayB k t n = true) (u : List UInt8) (hu : Gappy u) : NoGap (tellL k t n ++ u) := by
  have h1 := word1_tell h u hu
  have h0 := tell_ne h
  cases hd : tellL k t n with
  | nil => rw [hd] at h0; simp at h0
  | cons c r =>
    rw [hd, List.cons_append] at h1
    have hb := blank_cls c (head_word1 h1)
    unfold NoGap gap1
    simp only [List.cons_append, hb]
    have hs : ∀ x : UInt8, x = 47 ∨ x = 42 → [47, x].isPrefixOf (c :: (r ++ u)) = false := by
      intro x hx
      rw [Bool.eq_false_iff]
      intro hp
      simp only [List.isPrefixOf_cons_cons, Bool.and_eq_true, beq_iff_eq] at hp
      obtain ⟨rfl, hp⟩ := hp
      -- the sign '/'
      have : tellL k t n = [47] := by
        rcases mayB_kind h with rfl | rfl | rfl | rfl | rfl
        · exfalso
          simp only [mayB, if_true, Bool.and_eq_true] at h
          have h2 := h.2
          have e : t = 47 :: r := by simpa [tellL] using hd
          rw [e] at h2
          unfold plainB at h2
          simp only [Bool.and_eq_true, decide_eq_true_eq] at h2
          exact absurd h2.1.1 (by decide)
        · exfalso; simp [tellL, betweenL] at hd
        · exfalso
          simp only [mayB, if_true, Bool.and_eq_true, show ¬ (3 : Int) = 1 by decide, show ¬ (3 : Int) = 2 by decide, if_false] at h
          simp [tellL, quoteL, h.2] at hd
        · exfalso
          have h2 := (dec_num n).2.1
          have e : decDigits n = 47 :: r := by simpa [tellL] using hd
          rw [e] at h2
          simp [digN] at h2
        · have e : t = 47 :: r := by simpa [tellL] using hd
          simp only [mayB, show ¬ (5 : Int) = 1 by decide, show ¬ (5 : Int) = 2 by decide, show ¬ (5 : Int) = 3 by decide, show ¬ (5 : Int) = 4 by decide, if_false, if_true, Bool.and_eq_true] at h
          have h2 := h.1
          rw [hd]
          have hall : ∀ t ∈ signL, t.head? = some 47 → t = [47] := by decide
          have := hall t (by simpa using h2) (by rw [e]; rfl)
          rw [e] at this
          exact this
      rw [this] at hd
      have hr : r = [] := by simpa using hd.symm
      subst hr
      rw [List.nil_append] at hp
      cases u with
      | nil => simp at hp
      | cons y u' =>
        simp only [List.isPrefixOf_cons_cons, Bool.and_eq_true, beq_iff_eq] at hp
        have := hu y rfl
        rw [← hp.1] at this
        rcases hx with rfl | rfl <;> rcases this with h | h | h | h <;> cases h
    rw [if_neg (by simp), hs 47 (.inl rfl), hs 42 (.inr rfl)]
    rfl
theorem skip_noGap {u : List UInt8} (h : NoGap u) : skip u = (0, true) := by
  rw [skip_eq, h]; rfl
end Go.Proofs.YtimhhacfjgbomaaGreatDoor
namespace Go.Proofs.YtimhhacfjgbomaaGreatDoor
set_option linter.unusedSimpArgs false
set_option linter.unusedVariables false
open Go.Lib

/-! ### what is read may be told -/
def Wd.may (w : Wd) : Bool := mayB w.k w.t w.n
def Wd.tell (w : Wd) : List UInt8 := tellL w.k w.t w.n
theorem textL_out (q : UInt8) : ∀ (m : Nat) (u : List UInt8), u.length ≤ m → ∀ p, textL q u = some p → p.1.length ≤ p.2
  | m, [], _, p, h => by simp [textL] at h
  | 0, c :: r, hm, p, h => by simp at hm
  | m + 1, c :: r, hm, p, h => by
    unfold textL at h
    split at h
    · cases h; simp
    · split at h
      · split at h
        · cases h
        · rename_i d r'
          split at h
          · obtain ⟨p', h1, rfl⟩ := Option.map_eq_some_iff.1 h
            have := textL_out q m r' (by simp at hm; omega) p' h1
            simp; omega
          · split at h
            · split at h
              · rename_i a b e f r''
                split at h
                · rename_i bs hbs
                  obtain ⟨p', h1, rfl⟩ := Option.map_eq_some_iff.1 h
                  have := textL_out q m r'' (by simp at hm; omega) p' h1
                  have h4 : bs.length ≤ 4 := by
                    unfold rune4 at hbs
                    split at hbs
                    · split at hbs
                      · cases hbs
                      · cases hbs
                        unfold encodeRune encodeRuneZ
                        rw [List.length_map]
                        (repeat' split) <;> simp
                    · cases hbs
                  simp; omega
                · cases h
              · cases h
            · cases h
      · obtain ⟨p', h1, rfl⟩ := Option.map_eq_some_iff.1 h
        have := textL_out q m r (by simp at hm; omega) p' h1
        simp; omega
theorem quotL_out : ∀ (m : Nat) (u : List UInt8), u.length ≤ m → ∀ p, quotL u = some p → p.1.length ≤ p.2
  | m, [], _, p, h => by simp [quotL] at h
  | 0, c :: r, hm, p, h => by simp at hm
  | m + 1, c :: r, hm, p, h => by
    unfold quotL at h
    split at h
    · split at h
      · cases h; simp
      · rename_i d r'
        split at h
        · obtain ⟨p', h1, rfl⟩ := Option.map_eq_some_iff.1 h
          have := quotL_out m r' (by simp at hm; omega) p' h1
          simp; omega
        · cases h; simp
    · obtain ⟨p', h1, rfl⟩ := Option.map_eq_some_iff.1 h
      have := quotL_out m r (by simp at hm; omega) p' h1
      simp; omega
theorem sign_one : ∀ c : UInt8, cls c.toNat = 5 → signL.contains [c] = true := by
  refine byte_all ?_
  decide +kernel
theorem pow20 : 9223372036854775808 < 10 ^ 20 := by decide
/-- **What is read may be told**, and is not much longer then. -/
theorem word1_may {u : List UInt8} {w : Wd} {n : Nat} (h : word1 u = some (w, n)) : w.may = true ∧ (1 ≤ w.k ∧ w.k ≤ 5) ∧ w.tell.length ≤ 20 * n := by
  have hn := word1_len h
  unfold word1 at h
  split at h
  · cases h
  · rename_i c r
    split at h
    · rename_i hc
      split at h
      · rename_i hl
        cases h
        have h1 := cls_run (.inl hc)
        have h2 : runL (c :: r) = c :: runL r := by unfold runL; rw [List.takeWhile_cons_of_pos h1]
        refine ⟨?_, ⟨by simp, by simp⟩, ?_⟩
        · unfold Wd.may mayB
          simp only [Int.natCast_one, if_true, decide_true, Bool.true_and]
          have h3 := runL_idem (c :: r)
          have h4 : nameB (runL (c :: r)) = true := nameB_run run_mem (by rw [h2]; simp) hl
          unfold plainB
          rw [h2] at h3 h4 ⊢
          simp only [hc, h3, h4, decide_true, Bool.and_self]
        · have e : (⟨1, runL (c :: r), 0⟩ : Wd).tell = runL (c :: r) := rfl
          rw [e]; omega
      · cases h
    · split at h
      · rename_i hc
        split at h
        · rename_i hb
          cases h
          unfold numB at hb
          simp only [Bool.and_eq_true, decide_eq_true_eq] at hb
          refine ⟨?_, ⟨by simp, by simp⟩, ?_⟩
          · unfold Wd.may mayB
            simp [hb.2]
          · have e : (⟨4, [], numV (runL (c :: r))⟩ : Wd).tell = decDigits (numV (runL (c :: r))) := rfl
            rw [e]
            have := dec_len (u := numV (runL (c :: r))) (by have := hb.2; have := pow20; omega)
            omega
        · cases h
      · split at h
        · split at h
          · rename_i p hp
            split at h
            · rename_i hv
              cases h
              refine ⟨?_, ⟨by simp, by simp⟩, ?_⟩
              · unfold Wd.may mayB
                simp [hv]
              · have e : (⟨3, p.1, 0⟩ : Wd).tell = quoteL p.1 := rfl
                rw [e]
                unfold quoteL
                rw [if_pos hv]
                have h1 := flatEsc_len p.1
                have h2 := textL_out c r.length r (Nat.le_refl _) p hp
                simp only [List.length_cons, List.length_append, List.length_nil]
                omega
            · cases h
          · cases h
        · split at h
          · split at h
            · rename_i p hp
              split at h
              · rename_i hv
                cases h
                refine ⟨?_, ⟨by simp, by simp⟩, ?_⟩
                · unfold Wd.may mayB
                  simp [hv]
                · have e : (⟨2, p.1, 0⟩ : Wd).tell = betweenL p.1 := rfl
                  rw [e]
                  unfold betweenL
                  have h1 := flatTwice_len p.1
                  have h2 := quotL_out r.length r (Nat.le_refl _) p hp
                  simp only [List.length_cons, List.length_append, List.length_nil]
                  omega
              · cases h
            · cases h
          · split at h
            · rename_i hc
              split at h
              · rename_i ht
                cases h
                refine ⟨?_, ⟨by simp, by simp⟩, ?_⟩
                · unfold Wd.may mayB
                  unfold two at ht
                  simp only [Bool.or_eq_true] at ht
                  have e : signL.contains ((c :: r).take 2) = true := by
                    rcases ht with (ht | ht) | ht
                    all_goals
                      obtain ⟨x, hx⟩ := List.isPrefixOf_iff_prefix.1 ht
                      rw [← hx]
                      simp only [List.cons_append, List.nil_append, List.take_succ_cons, List.take_zero]
                      decide
                  simpa using e
                · have e : (⟨5, (c :: r).take 2, 0⟩ : Wd).tell = (c :: r).take 2 := rfl
                  rw [e]
                  have := List.length_take_le 2 (c :: r)
                  omega
              · cases h
                refine ⟨?_, ⟨by simp, by simp⟩, ?_⟩
                · unfold Wd.may mayB
                  have := sign_one c hc
                  simpa using this
                · have e : (⟨5, (c :: r).take 1, 0⟩ : Wd).tell = (c :: r).take 1 := rfl
                  rw [e]
                  have := List.length_take_le 1 (c :: r)
                  omega
            · cases h
/-- So all words of a text. -/
theorem scan_may : ∀ (m : Nat) (u : List UInt8) (a : Nat), u.length ≤ m → (∀ p ∈ (scan u a).1, p.1.may = true ∧ 1 ≤ p.1.k ∧ p.1.k ≤ 5) ∧ ((scan u a).1.map fun p => p.1.tell.length + 1).sum ≤ 21 * u.length ∧ (scan u a).1.length ≤ u.length := by
  intro m
  induction m with
  | zero =>
    intro u a h
    have : u = [] := List.eq_nil_of_length_eq_zero (by omega)
    subst this
    refine ⟨?_, ?_, ?_⟩ <;> simp [scan, scanF, skip_nil]
  | succ m ih =>
    intro u a h
    rw [scan_eq]
    split
    · refine ⟨?_, ?_, ?_⟩ <;> simp
    · split
      · refine ⟨?_, ?_, ?_⟩ <;> simp
      · rename_i c r hd
        have hl := congrArg List.length hd
        simp only [List.length_drop, List.length_cons] at hl
        split
        · refine ⟨?_, ?_, ?_⟩ <;> simp
        · rename_i w n hw
          have h1 := word1_len hw
          have h2 := word1_may hw
          simp only [List.length_cons] at h1
          obtain ⟨i1, i2, i3⟩ := ih ((c :: r).drop n) (a + (skip u).1 + n) (by simp; omega)
          simp only [List.length_drop, List.length_cons] at i2 i3
          refine ⟨?_, ?_, ?_⟩
          · intro p hp
            rcases List.mem_cons.1 hp with rfl | hp
            · exact ⟨h2.1, h2.2.1⟩
            · exact i1 p hp
          · simp only [List.map_cons, List.sum_cons]; omega
          · simp only [List.length_cons]; omega

/-! ### words laid with gaps between -/
/-- A gap: whatever begins behind it, all of it is passed over. -/
def GapOf (g : List UInt8) : Prop := ∀ u, u ≠ [] → NoGap u → skip (g ++ u) = (g.length, true)
def layL : List (List UInt8 × Wd) → List UInt8
  | [] => []
  | p :: r => p.1 ++ (p.2.tell ++ layL r)
def layAt : Nat → List (List UInt8 × Wd) → List (Wd × Nat)
  | _, [] => []
  | a, p :: r => (p.2, a + p.1.length) :: layAt (a + p.1.length + p.2.tell.length) r
theorem Wd.may_k {w : Wd} (h : w.may = true) : ((w.k : Int)).toNat = w.k := by simp
theorem scan_lay : ∀ (l : List (List UInt8 × Wd)) (tail : List UInt8) (a : Nat), (∀ p ∈ l, GapOf p.1 ∧ p.2.may = true) → (∀ p ∈ l.tail, ∀ u, Gappy (p.1 ++ u)) → Gappy tail →
    scan (layL l ++ tail) a = (layAt a l ++ (scan tail (a + (layL l).length)).1, (scan tail (a + (layL l).length)).2)
  | [], tail, a, _, _, _ => by simp [layL, layAt]
  | p :: r, tail, a, h1, h2, h3 => by
    obtain ⟨g, w⟩ := p
    have hg := h1 _ (List.mem_cons_self)
    simp only at hg
    have hgap : Gappy (layL r ++ tail) := by
      cases r with
      | nil => exact h3
      | cons q r' =>
        have := h2 q (by simp)
        simp only [layL, List.append_assoc]
        exact this _
    have ht := word1_tell hg.2 (layL r ++ tail) hgap
    have hn := tell_noGap hg.2 (layL r ++ tail) hgap
    have h0 : 1 ≤ w.tell.length := tell_ne hg.2
    have hne : tellL w.k w.t w.n ++ (layL r ++ tail) ≠ [] := fun e => by
      have := congrArg List.length e
      simp only [List.length_append, List.length_nil] at this
      unfold Wd.tell at h0; omega
    have hs := hg.1 _ hne hn
    rw [scan_eq]
    simp only [layL, List.append_assoc]
    unfold Wd.tell at *
    rw [hs, if_neg (by simp), List.drop_left]
    cases hd : tellL w.k w.t w.n ++ (layL r ++ tail) with
    | nil => exact absurd hd hne
    | cons c r' =>
      simp only
      rw [← hd, ht]
      simp only [Wd.may_k hg.2, List.drop_left]
      have ih := scan_lay r tail (a + g.length + (tellL w.k w.t w.n).length) (fun q hq => h1 q (List.mem_cons_of_mem _ hq)) (fun q hq => h2 q (by
        simp only [List.tail_cons]
        exact List.mem_of_mem_tail hq)) h3
      rw [ih]
      simp only [layAt, Wd.tell, List.cons_append, List.length_append, Nat.add_assoc]
theorem layAt_words (a : Nat) (l : List (List UInt8 × Wd)) : (layAt a l).map (·.1) = l.map (·.2) := by
  induction l generalizing a with
  | nil => rfl
  | cons p r ih => simp [layAt, ih]
theorem scan_nil (a : Nat) : scan [] a = ([], none) := by rw [scan_eq]; rfl

/-! ### gaps -/
theorem gapOf_nil : GapOf [] := fun u _ h => skip_noGap h
theorem gapOf_blank {c : UInt8} {g : List UInt8} (hc : blankN c.toNat = true) (hg : GapOf g) : GapOf (c :: g) := fun u hne hu => by
  have h1 : gap1 (c :: g ++ u) = (1, true) := by unfold gap1; simp [hc]
  rw [skip_eq, h1, if_neg (by simp)]
  simp only [List.cons_append, List.drop_succ_cons, List.drop_zero, hg u hne hu, List.length_cons]
  rw [Nat.add_comm]
theorem gapOf_line {l g : List UInt8} (hl : lineL (47 :: 47 :: l ++ [10]) = l.length + 2) (hg : GapOf (10 :: g)) : GapOf (47 :: 47 :: l ++ (10 :: g)) := fun u hne hu => by
  have e : ∀ (x y : List UInt8), lineL (x ++ [10]) = x.length → lineL (x ++ (10 :: y)) = x.length := by
    intro x y
    induction x with
    | nil => intro _; rfl
    | cons c r ih =>
      intro h
      simp only [List.cons_append] at h ⊢
      unfold lineL at h ⊢
      by_cases hc : c = 10
      · rw [if_pos hc] at h; simp at h
      · rw [if_neg hc] at h ⊢
        rw [ih (by simpa using h)]; rfl
  have h1 : gap1 (47 :: 47 :: l ++ (10 :: g) ++ u) = (l.length + 2, true) := by
    unfold gap1
    simp only [List.cons_append, List.append_assoc]
    rw [if_neg (by decide), if_pos (by simp [List.isPrefixOf])]
    have := e (47 :: 47 :: l) (g ++ u) (by simpa using hl)
    simp only [List.cons_append, List.length_cons] at this
    rw [this]
  rw [skip_eq, h1, if_neg (by simp)]
  have hd : (47 :: 47 :: l ++ (10 :: g) ++ u).drop (l.length + 2) = 10 :: g ++ u := by
    have : 47 :: 47 :: l ++ (10 :: g) ++ u = (47 :: 47 :: l) ++ (10 :: g ++ u) := by simp
    rw [this]
    exact List.drop_left' (by simp)
  simp only [hd, hg u hne hu, List.length_cons, List.length_append]
theorem gapOf_block {l g : List UInt8} (hl : endL (l ++ [42, 47]) = some l.length) (hg : GapOf g) : GapOf (47 :: 42 :: l ++ (42 :: 47 :: g)) := fun u hne hu => by
  have e : ∀ (x y : List UInt8), endL (x ++ [42, 47]) = some x.length → endL (x ++ (42 :: 47 :: y)) = some x.length := by
    intro x y
    induction x with
    | nil => intro _; simp [endL, List.isPrefixOf]
    | cons c r ih =>
      intro h
      simp only [List.cons_append] at h ⊢
      unfold endL at h ⊢
      have hp : ∀ z : List UInt8, [42, 47].isPrefixOf (c :: (r ++ (42 :: 47 :: z))) = [42, 47].isPrefixOf (c :: (r ++ [42, 47])) := by
        intro z
        cases r <;> simp [List.isPrefixOf]
      rw [hp]
      split at h
      · cases h
      · rename_i hn
        rw [if_neg hn]
        obtain ⟨k, h2, h3⟩ := Option.map_eq_some_iff.1 h
        have : k = r.length := by simpa using h3
        subst this
        rw [ih h2]; rfl
  have h1 : gap1 (47 :: 42 :: l ++ (42 :: 47 :: g) ++ u) = (l.length + 4, true) := by
    unfold gap1
    simp only [List.cons_append, List.append_assoc, List.drop_succ_cons, List.drop_zero]
    rw [if_neg (by decide), if_neg (by simp [List.isPrefixOf]), if_pos (by simp [List.isPrefixOf])]
    have := e l (g ++ u) hl
    rw [this]
  rw [skip_eq, h1, if_neg (by simp)]
  have hd : (47 :: 42 :: l ++ (42 :: 47 :: g) ++ u).drop (l.length + 4) = g ++ u := by
    have : 47 :: 42 :: l ++ (42 :: 47 :: g) ++ u = (47 :: 42 :: l ++ [42, 47]) ++ (g ++ u) := by simp
    rw [this]
    exact List.drop_left' (by simp)
  simp only [hd, hg u hne hu, List.length_cons, List.length_append]
  congr 1; omega

/-! ### two texts with a line end between -/
theorem lineL_join : ∀ u v : List UInt8, lineL (u ++ 10 :: v) = lineL u
  | [], v => rfl
  | c :: r, v => by
    simp only [List.cons_append]
    unfold lineL
    rw [lineL_join r v]
theorem endL_join : ∀ (u v : List UInt8) (n : Nat), endL u = some n → endL (u ++ v) = some n
  | [], v, n, h => by cases h
  | c :: r, v, n, h => by
    simp only [List.cons_append]
    unfold endL at h ⊢
    split at h
    · rename_i hp
      have : [42, 47].isPrefixOf (c :: (r ++ v)) = true := List.isPrefixOf_iff_prefix.2 ((List.isPrefixOf_iff_prefix.1 hp).trans (by rw [← List.cons_append]; exact List.prefix_append _ _))
      rw [if_pos this]; exact h
    · rename_i hp
      obtain ⟨k, h1, h2⟩ := Option.map_eq_some_iff.1 h
      have hle : k + 2 ≤ r.length := by
        rcases endL_index r with ⟨_, h3⟩ | ⟨m, _, h3, h4⟩
        · rw [h3] at h1; cases h1
        · rw [h3] at h1; cases h1; exact h4
      have : ¬ [42, 47].isPrefixOf (c :: (r ++ v)) = true := by
        intro hq
        apply hp
        cases r with
        | nil => simp at hle
        | cons d r' => simpa [List.isPrefixOf] using hq
      rw [if_neg this, endL_join r v k h1, ← h, h1]
theorem prefix2_join {x y : UInt8} (hy : y ≠ 10) (c : UInt8) (r v : List UInt8) : [x, y].isPrefixOf (c :: (r ++ 10 :: v)) = [x, y].isPrefixOf (c :: r) := by
  cases r with
  | nil =>
    have : (y == 10) = false := by simpa using hy
    simp [List.isPrefixOf, this]
  | cons d r' => simp [List.isPrefixOf]
theorem gap1_join {u : List UInt8} (hne : u ≠ []) (h : (gap1 u).2 = true) (v : List UInt8) : gap1 (u ++ 10 :: v) = gap1 u := by
  cases u with
  | nil => exact absurd rfl hne
  | cons c r =>
    unfold gap1 at h ⊢
    simp only [List.cons_append] at h ⊢
    rw [prefix2_join (by decide), prefix2_join (by decide), ← List.cons_append, lineL_join]
    split
    · rfl
    · rename_i h1; rw [if_neg h1] at h
      split
      · rfl
      · rename_i h2; rw [if_neg h2] at h
        split
        · rename_i h3; rw [if_pos h3] at h
          cases hd : endL ((c :: r).drop 2) with
          | none => rw [hd] at h; cases h
          | some n =>
            have hl := (List.isPrefixOf_iff_prefix.1 h3).length_le
            have e : (c :: r ++ 10 :: v).drop 2 = (c :: r).drop 2 ++ 10 :: v := by
              rw [List.drop_append_of_le_length (by simpa using hl)]
            rw [e, endL_join _ _ _ hd]
        · rfl
theorem skip_join : ∀ (m : Nat) (u v : List UInt8), u.length ≤ m → (skip u).2 = true →
    (((skip u).1 < u.length → skip (u ++ 10 :: v) = skip u) ∧ ((skip u).1 = u.length → skip (u ++ 10 :: v) = (u.length + 1 + (skip v).1, (skip v).2))) := by
  intro m
  induction m with
  | zero =>
    intro u v h hs
    have : u = [] := List.eq_nil_of_length_eq_zero (by omega)
    subst this
    refine ⟨fun h => absurd h (by simp), fun _ => ?_⟩
    have h1 : gap1 ([] ++ 10 :: v) = (1, true) := by unfold gap1; simp [blankN]
    rw [skip_eq, h1, if_neg (by simp)]
    simp
  | succ m ih =>
    intro u v h hs
    by_cases hne : u = []
    · subst hne
      refine ⟨fun h => absurd h (by simp), fun _ => ?_⟩
      have h1 : gap1 ([] ++ 10 :: v) = (1, true) := by unfold gap1; simp [blankN]
      rw [skip_eq, h1, if_neg (by simp)]
      simp
    · have hsk := skip_eq u
      have hb : (gap1 u).2 = true := by
        cases hg : (gap1 u).2 with
        | true => rfl
        | false =>
          rw [if_pos (gap1_bad hg)] at hsk
          rw [hsk, hg] at hs; cases hs
      have hj := gap1_join hne hb v
      have hle := gap1_le u
      rw [skip_eq (u ++ 10 :: v), hj]
      by_cases h0 : (gap1 u).1 = 0
      · rw [if_pos h0] at hsk ⊢
        rw [hsk]
        refine ⟨fun _ => rfl, fun e => ?_⟩
        rw [h0] at e
        exact absurd (List.eq_nil_of_length_eq_zero e.symm) hne
      · rw [if_neg h0] at hsk ⊢
        rw [List.drop_append_of_le_length hle]
        have hs2 : (skip (u.drop (gap1 u).1)).2 = true := by rw [hsk] at hs; exact hs
        obtain ⟨i1, i2⟩ := ih (u.drop (gap1 u).1) v (by simp; omega) hs2
        simp only [List.length_drop] at i1 i2
        rw [hsk]
        simp only
        refine ⟨fun hlt => ?_, fun he => ?_⟩
        · rw [i1 (by omega)]
        · rw [i2 (by omega)]
          simp only
          congr 1; omega
theorem runL_join (u v : List UInt8) : runL (u ++ 10 :: v) = runL u := by
  unfold runL
  induction u with
  | nil => rw [List.nil_append, List.takeWhile_cons_of_neg (by decide)]; rfl
  | cons c r ih =>
    rw [List.cons_append]
    cases hc : runB c with
    | true => rw [List.takeWhile_cons_of_pos hc, List.takeWhile_cons_of_pos hc, ih]
    | false => rw [List.takeWhile_cons_of_neg (by rw [hc]; simp), List.takeWhile_cons_of_neg (by rw [hc]; simp)]
theorem textL_join (q : UInt8) : ∀ (m : Nat) (u v : List UInt8), u.length ≤ m → ∀ p, textL q u = some p → textL q (u ++ v) = some p
  | m, [], _, _, p, h => by simp [textL] at h
  | 0, c :: r, _, hm, p, h => by simp at hm
  | m + 1, c :: r, v, hm, p, h => by
    rw [List.cons_append]
    unfold textL at h ⊢
    split at h
    · rename_i hc; rw [if_pos hc]; exact h
    · rename_i hc; rw [if_neg hc]
      split at h
      · rename_i hb; rw [if_pos hb]
        split at h
        · cases h
        · rename_i d r'
          simp only [List.cons_append]
          split at h
          · rename_i x hx
            obtain ⟨p', h1, rfl⟩ := Option.map_eq_some_iff.1 h
            rw [textL_join q m r' v (by simp at hm; omega) p' h1]; rfl
          · rename_i hx
            split at h
            · rename_i hd
              rw [if_pos hd]
              split at h
              · rename_i a b e f r''
                simp only [List.cons_append]
                split at h
                · rename_i bs hbs
                  obtain ⟨p', h1, rfl⟩ := Option.map_eq_some_iff.1 h
                  rw [textL_join q m r'' v (by simp at hm; omega) p' h1]; rfl
                · cases h
              · cases h
            · cases h
      · rename_i hb; rw [if_neg hb]
        obtain ⟨p', h1, rfl⟩ := Option.map_eq_some_iff.1 h
        rw [textL_join q m r v (by simp at hm; omega) p' h1]; rfl
theorem quotL_join : ∀ (m : Nat) (u v : List UInt8), u.length ≤ m → ∀ p, quotL u = some p → quotL (u ++ 10 :: v) = some p
  | m, [], _, _, p, h => by simp [quotL] at h
  | 0, c :: r, _, hm, p, h => by simp at hm
  | m + 1, c :: r, v, hm, p, h => by
    rw [List.cons_append]
    unfold quotL at h ⊢
    split at h
    · rename_i hc; rw [if_pos hc]
      split at h
      · cases h
        simp only [List.nil_append]
        rw [if_neg (by decide)]
      · rename_i d r'
        simp only [List.cons_append]
        split at h
        · rename_i hd; rw [if_pos hd]
          obtain ⟨p', h1, rfl⟩ := Option.map_eq_some_iff.1 h
          rw [quotL_join m r' v (by simp at hm; omega) p' h1]; rfl
        · rename_i hd; rw [if_neg hd]; exact h
    · rename_i hc; rw [if_neg hc]
      obtain ⟨p', h1, rfl⟩ := Option.map_eq_some_iff.1 h
      rw [quotL_join m r v (by simp at hm; omega) p' h1]; rfl
theorem word1_join {u v : List UInt8} {w : Wd} {n : Nat} (h : word1 u = some (w, n)) : word1 (u ++ 10 :: v) = some (w, n) := by
  unfold word1 at h ⊢
  split at h
  · cases h
  · rename_i c r
    have hr := runL_join (c :: r) v
    simp only [List.cons_append] at hr ⊢
    rw [hr]
    split at h
    · rename_i hc; rw [if_pos hc]; exact h
    · rename_i hc; rw [if_neg hc]
      split at h
      · rename_i hc; rw [if_pos hc]; exact h
      · rename_i hc; rw [if_neg hc]
        split at h
        · rename_i hc; rw [if_pos hc]
          split at h
          · rename_i p hp
            rw [textL_join c r.length r (10 :: v) (Nat.le_refl _) p hp]; exact h
          · cases h
        · rename_i hc; rw [if_neg hc]
          split at h
          · rename_i hc; rw [if_pos hc]
            split at h
            · rename_i p hp
              rw [quotL_join r.length r v (Nat.le_refl _) p hp]; exact h
            · cases h
          · rename_i hc; rw [if_neg hc]
            split at h
            · rename_i hc; rw [if_pos hc]
              have h2 : two (c :: (r ++ 10 :: v)) = two (c :: r) := by
                unfold two
                rw [prefix2_join (by decide), prefix2_join (by decide), prefix2_join (by decide)]
              rw [h2]
              split at h
              · rename_i ht
                rw [if_pos ht]
                have hl : 2 ≤ (c :: r).length := by
                  unfold two at ht
                  simp only [Bool.or_eq_true] at ht
                  rcases ht with (ht | ht) | ht <;> simpa using (List.isPrefixOf_iff_prefix.1 ht).length_le
                cases r with
                | nil => simp at hl
                | cons d r' => simpa using h
              · rename_i ht; rw [if_neg ht]; simpa using h
            · cases h
/-- **The words of two texts with a line end between.** -/
theorem scan_join : ∀ (m : Nat) (u v : List UInt8) (a : Nat), u.length ≤ m → (scan u a).2 = none →
    scan (u ++ 10 :: v) a = ((scan u a).1 ++ (scan v (a + u.length + 1)).1, (scan v (a + u.length + 1)).2) := by
  intro m
  induction m with
  | zero =>
    intro u v a h hn
    have : u = [] := List.eq_nil_of_length_eq_zero (by omega)
    subst this
    have hs := (skip_join 0 [] v (by simp) rfl).2 rfl
    rw [scan_nil, scan_eq ([] ++ 10 :: v), hs, scan_eq v]
    simp only [List.length_nil, Nat.zero_add, List.nil_append]
    have e : (10 :: v).drop (1 + (skip v).1) = v.drop (skip v).1 := by rw [Nat.add_comm]; rfl
    simp only [e, Nat.add_assoc, Nat.add_zero]
  | succ m ih =>
    intro u v a h hn
    rw [scan_eq u] at hn ⊢
    have hsk : (skip u).2 = true := by
      cases hs : (skip u).2 with
      | true => rfl
      | false => rw [hs, if_pos rfl] at hn; cases hn
    rw [if_neg (by rw [hsk]; simp)] at hn ⊢
    have hle := skip_le u
    have hj := skip_join u.length u v (Nat.le_refl _) hsk
    rcases Nat.lt_or_ge (skip u).1 u.length with hlt | hge
    · have hs := hj.1 hlt
      rw [scan_eq (u ++ 10 :: v), hs, if_neg (by rw [hsk]; simp), List.drop_append_of_le_length hle]
      cases hd : u.drop (skip u).1 with
      | nil => have := congrArg List.length hd; simp at this; omega
      | cons c r =>
        rw [hd] at hn
        simp only [List.cons_append] at hn ⊢
        have hl := congrArg List.length hd
        simp only [List.length_drop, List.length_cons] at hl
        cases hw : word1 (c :: r) with
        | none => rw [hw] at hn; cases hn
        | some p =>
          obtain ⟨w, n⟩ := p
          have hwj := word1_join (v := v) hw
          rw [List.cons_append] at hwj
          rw [hw] at hn
          simp only at hn
          have h1 := word1_len hw
          simp only [List.length_cons] at h1
          have i := ih ((c :: r).drop n) v (a + (skip u).1 + n) (by simp; omega) hn
          simp only [hwj]
          rw [← List.cons_append, List.drop_append_of_le_length (by simpa using h1.2), i]
          have e : a + (skip u).1 + n + ((c :: r).drop n).length + 1 = a + u.length + 1 := by simp; omega
          rw [e]
          simp
    · have hs := hj.2 (by omega)
      have he : (skip u).1 = u.length := by omega
      rw [he, List.drop_length]
      rw [scan_eq (u ++ 10 :: v), hs, scan_eq v]
      have e : (u ++ 10 :: v).drop (u.length + 1 + (skip v).1) = v.drop (skip v).1 := by
        have : u ++ 10 :: v = (u ++ [10]) ++ v := by simp
        rw [this, ← List.drop_drop]
        congr 1
        exact List.drop_left' (by simp)
      simp only [e, List.nil_append]
      have e2 : a + (u.length + 1 + (skip v).1) = a + u.length + 1 + (skip v).1 := by omega
      rw [e2]
end Go.Proofs.YtimhhacfjgbomaaGreatDoor
namespace Go.Proofs.YtimhhacfjgbomaaGreatDoor
set_option linter.unusedSimpArgs false
set_option linter.unusedVariables false
open Go.Lib

/-- The reserved words. -/
def kws : List (List UInt8) := [[97,110,100], [97,115], [97,115,99], [97,115,99,101,110,100,105,110,103], [98,121], [99,97,115,101], [99,111,110,116,97,105,110,115], [99,114,101,97,116,101], [100,101,108,101,116,101], [100,101,115,99], [100,101,115,99,101,110,100,105,110,103], [100,101,116,97,99,104], [100,105,115,116,105,110,99,116], [101,108,115,101], [101,110,100], [101,110,100,115], [102,97,108,115,101], [105,110], [105,115], [108,105,109,105,116], [109,97,116,99,104], [110,111,116], [110,117,108,108], [111,110], [111,112,116,105,111,110,97,108], [111,114], [111,114,100,101,114], [114,101,109,111,118,101], [114,101,116,117,114,110], [115,101,116], [115,107,105,112], [115,116,97,114,116,115], [116,104,101,110], [116,114,117,101], [117,110,119,105,110,100], [119,104,101,110], [119,104,101,114,101], [119,105,116,104], [120,111,114]]
/-- The text that Reserved looks into. -/
def kwsText : List UInt8 := 32 :: kws.flatMap (fun w => w ++ [32])
def lowB (c : UInt8) : UInt8 := if 65 ≤ c.toNat ∧ c.toNat ≤ 90 then c + 32 else c
def lowL (t : List UInt8) : List UInt8 := t.map lowB
/-- Is a text a reserved name? -/
def resB (t : List UInt8) : Bool := plainB t && contains kwsText (32 :: (lowL t ++ [32]))

theorem contains_cons (c : UInt8) (r sub : List UInt8) : contains (c :: r) sub = (sub.isPrefixOf (c :: r) || contains r sub) := by
  unfold contains
  conv => lhs; unfold index
  have h := index_ge r sub
  by_cases hp : sub.isPrefixOf (c :: r) = true
  · simp [hp]
  · simp only [hp, if_false, Bool.false_or]
    by_cases h1 : index r sub = -1
    · simp [h1]
    · have h2 : (index r sub == -1) = false := by simpa using h1
      simp [h2]; omega
theorem contains_nil {c : UInt8} {sub : List UInt8} : contains [] (c :: sub) = false := rfl
/-- A sign that opens what is looked for is nowhere in the first part. -/
theorem contains_past : ∀ (a b sub : List UInt8) (c : UInt8), c ∉ a → contains (a ++ b) (c :: sub) = contains b (c :: sub)
  | [], b, sub, c, _ => rfl
  | x :: a, b, sub, c, h => by
    rw [List.cons_append, contains_cons, contains_past a b sub c (fun e => h (List.mem_cons_of_mem _ e))]
    have : (c == x) = false := by
      rw [beq_eq_false_iff_ne]; rintro rfl; exact h List.mem_cons_self
    simp [List.isPrefixOf, this]
theorem prefix_word : ∀ (x w : List UInt8) (u : List UInt8) (c : UInt8), c ∉ x → c ∉ w → (x ++ [c]).isPrefixOf (w ++ c :: u) = (x == w)
  | [], [], u, c, _, _ => by simp [List.isPrefixOf]
  | [], y :: w, u, c, _, h => by
    have : (c == y) = false := by rw [beq_eq_false_iff_ne]; rintro rfl; exact h List.mem_cons_self
    simp [List.isPrefixOf, this]
  | y :: x, [], u, c, h, _ => by
    have : (y == c) = false := by rw [beq_eq_false_iff_ne]; rintro rfl; exact h List.mem_cons_self
    simp [List.isPrefixOf, this]
  | y :: x, z :: w, u, c, h, h' => by
    have ih := prefix_word x w u c (fun e => h (List.mem_cons_of_mem _ e)) (fun e => h' (List.mem_cons_of_mem _ e))
    simp only [List.cons_append, List.isPrefixOf_cons_cons, ih]
    by_cases hyz : y = z
    · subst hyz; simp
    · have : (y == z) = false := by simpa using hyz
      simp [this]
/-- A word is in the text just if it is in the list. -/
theorem contains_words (x : List UInt8) (hx : (32 : UInt8) ∉ x) : ∀ ws : List (List UInt8), (∀ w ∈ ws, (32 : UInt8) ∉ w) → contains (32 :: ws.flatMap (fun w => w ++ [32])) (32 :: (x ++ [32])) = ws.any (fun w => x == w)
  | [], _ => by
    rw [List.flatMap_nil, contains_cons, contains_nil]
    cases x <;> simp [List.isPrefixOf]
  | w :: ws, h => by
    have ih := contains_words x hx ws (fun v hv => h v (List.mem_cons_of_mem _ hv))
    rw [List.flatMap_cons, contains_cons]
    have e : w ++ [32] ++ ws.flatMap (fun w => w ++ [32]) = w ++ (32 :: ws.flatMap (fun w => w ++ [32])) := by simp
    rw [e, contains_past w _ _ 32 (h w List.mem_cons_self), ih, List.any_cons]
    congr 1
    simp only [List.isPrefixOf_cons_cons, beq_self_eq_true, Bool.true_and]
    exact prefix_word x w _ 32 hx (h w List.mem_cons_self)
theorem kws_ok : ∀ w ∈ kws, (32 : UInt8) ∉ w := by decide
theorem low_run {c : UInt8} (h : runB c = true) : lowB c ≠ 32 := by
  revert h
  refine byte_all (P := fun c => runB c = true → lowB c ≠ 32) ?_ c
  decide +kernel
theorem resB_any (t : List UInt8) : resB t = (plainB t && kws.any (fun w => lowL t == w)) := by
  unfold resB
  cases hp : plainB t with
  | false => rfl
  | true =>
    rw [Bool.true_and, Bool.true_and]
    have hr : ∀ c ∈ t, runB c = true := by
      unfold plainB at hp
      cases t with
      | nil => cases hp
      | cons c r =>
        simp only [Bool.and_eq_true, decide_eq_true_eq] at hp
        rw [← hp.1.2]; exact run_mem
    exact contains_words (lowL t) (by
      intro h
      obtain ⟨c, hc, e⟩ := List.mem_map.1 h
      exact low_run (hr c hc) e) kws kws_ok
theorem kws_plain : ∀ w ∈ kws, w ≠ [] ∧ w.length ≤ 64 ∧ w.all (fun c => decide (97 ≤ c.toNat ∧ c.toNat ≤ 122)) = true := by decide
theorem low_letter {c : UInt8} (h : 97 ≤ (lowB c).toNat ∧ (lowB c).toNat ≤ 122) : cls c.toNat = 1 ∧ runB c = true := by
  revert h
  refine byte_all (P := fun c => (97 ≤ (lowB c).toNat ∧ (lowB c).toNat ≤ 122) → cls c.toNat = 1 ∧ runB c = true) ?_ c
  decide +kernel
/-- What is in the list, in whatever letters, is plain. -/
theorem kws_any_plain {t : List UInt8} (h : kws.any (fun w => lowL t == w) = true) : plainB t = true := by
  obtain ⟨w, hw, e⟩ := List.any_eq_true.1 h
  have e' : lowL t = w := by simpa using e
  obtain ⟨h1, h2, h3⟩ := kws_plain w hw
  rw [← e'] at h1 h2 h3
  have hl : (lowL t).length = t.length := List.length_map _
  have hall : ∀ c ∈ t, cls c.toNat = 1 ∧ runB c = true := fun c hc => low_letter (by
    have := List.all_eq_true.1 h3 (lowB c) (List.mem_map.2 ⟨c, hc, rfl⟩)
    simpa using this)
  have hne : t ≠ [] := fun e => h1 (by rw [e]; rfl)
  have hr := runL_self (fun c hc => (hall c hc).2)
  have hn := nameB_run (fun c hc => (hall c hc).2) hne (by omega)
  unfold plainB
  cases t with
  | nil => exact absurd rfl hne
  | cons c r => simp [(hall c List.mem_cons_self).1, hr, hn]
theorem resB_list (t : List UInt8) : resB t = kws.any (fun w => lowL t == w) := by
  rw [resB_any]
  cases h : kws.any (fun w => lowL t == w) with
  | false => simp
  | true => rw [kws_any_plain h]; rfl

/-- A name as it is written. -/
def spellL (t : List UInt8) : List UInt8 := if nameB t then (if plainB t && !resB t then t else betweenL t) else []
theorem nameB_plain {t : List UInt8} (h : plainB t = true) : nameB t = true := by
  unfold plainB at h
  cases t with
  | nil => cases h
  | cons c r => simp only [Bool.and_eq_true] at h; exact h.2
/-- One word alone. -/
theorem scan_one {w : Wd} (h : w.may = true) : scan w.tell 0 = ([(w, 0)], none) := by
  have := scan_lay [([], w)] [] 0 (by intro p hp; simp only [List.mem_singleton] at hp; subst hp; exact ⟨gapOf_nil, h⟩) (by intro p hp; simp at hp) Gappy.nil
  simpa [layL, layAt, scan_nil] using this
/-- **A name is read as it is written.** -/
theorem scan_spell {t : List UInt8} (h : nameB t = true) : scan (spellL t) 0 = ([(⟨if plainB t && !resB t then 1 else 2, t, 0⟩, 0)], none) := by
  unfold spellL
  rw [if_pos h]
  split
  · rename_i hp
    simp only [Bool.and_eq_true] at hp
    have := scan_one (w := ⟨1, t, 0⟩) (by unfold Wd.may mayB; simp [hp.1])
    exact this
  · have := scan_one (w := ⟨2, t, 0⟩) (by unfold Wd.may mayB; simp [h])
    exact this
/-- What is read as one name that is the whole text is plain. -/
theorem scan_name_plain {t : List UInt8} {n a : Nat} (h : nameB t = true) (hs : scan t 0 = ([(⟨1, t, n⟩, a)], none)) : plainB t = true := by
  rw [scan_eq] at hs
  split at hs
  · cases hs
  · split at hs
    · cases hs
    · rename_i c r hd
      split at hs
      · cases hs
      · rename_i w m hw
        have e : w = ⟨1, t, n⟩ := by
          have := congrArg (fun x => x.1.map (·.1)) hs
          simp at this
          exact this.1
        have hm := (word1_may hw).1
        rw [e] at hm
        unfold Wd.may mayB at hm
        simp at hm
        exact hm.2
end Go.Proofs.YtimhhacfjgbomaaGreatDoor
namespace Go.Proofs.YtimhhacfjgbomaaGreatDoor
set_option linter.unusedSimpArgs false
set_option linter.unusedVariables false
open Go.Lib

/-- A text further behind. -/
theorem scan_shift : ∀ (m : Nat) (u : List UInt8) (a k : Nat), u.length ≤ m → scan u (a + k) = ((scan u a).1.map (fun p => (p.1, p.2 + k)), (scan u a).2.map (· + k)) := by
  intro m
  induction m with
  | zero =>
    intro u a k h
    have : u = [] := List.eq_nil_of_length_eq_zero (by omega)
    subst this
    rw [scan_nil, scan_nil]; rfl
  | succ m ih =>
    intro u a k h
    rw [scan_eq, scan_eq u a]
    have hs := skip_le u
    by_cases h1 : (skip u).2 = false
    · rw [if_pos h1, if_pos h1]
      simp; omega
    · rw [if_neg h1, if_neg h1]
      cases hd : u.drop (skip u).1 with
      | nil => rfl
      | cons c r =>
        have hl := congrArg List.length hd
        simp only [List.length_drop, List.length_cons] at hl
        simp only
        cases hw : word1 (c :: r) with
        | none => simp; omega
        | some p =>
          obtain ⟨w, n⟩ := p
          have h2 := word1_len hw
          have e1 : a + k + (skip u).1 = a + (skip u).1 + k := by omega
          have e2 : a + (skip u).1 + k + n = a + (skip u).1 + n + k := by omega
          simp only
          rw [e1, e2, ih ((c :: r).drop n) (a + (skip u).1 + n) k (by simp at h2 ⊢; omega)]
          rfl
/-- One sign alone. -/
theorem sign_scan (t : List UInt8) : signL.contains t = (decide ((scan t 0).2 = none) && decide ((scan t 0).1 = [(⟨5, t, 0⟩, 0)])) := by
  rw [Bool.eq_iff_iff]
  simp only [Bool.and_eq_true, decide_eq_true_eq]
  constructor
  · intro h
    have h1 := scan_one (w := ⟨5, t, 0⟩) (by unfold Wd.may mayB; simp; exact (List.contains_iff_mem.1 h))
    have h2 : (⟨5, t, 0⟩ : Wd).tell = t := rfl
    rw [h2] at h1
    rw [h1]; exact ⟨rfl, rfl⟩
  · rintro ⟨_, h⟩
    have hm := ((scan_may t.length t 0 (Nat.le_refl _)).1 (⟨5, t, 0⟩, 0) (by rw [h]; exact List.mem_cons_self)).1
    unfold Wd.may mayB at hm
    simp at hm
    exact List.contains_iff_mem.2 hm
theorem sign_short {t : List UInt8} (h : signL.contains t = true) : t.length ≤ 2 := sign_two t (List.contains_iff_mem.1 h)

/-- A word in memory: any kind, any place. -/
structure Gw where
  k : Int
  p : Int
  t : ByteArray
  n : Nat
def Gw.may (g : Gw) : Bool := mayB g.k g.t.data.toList g.n
def Gw.tell (g : Gw) : List UInt8 := tellL g.k g.t.data.toList g.n
/-- Texts side by side, a blank between. -/
def joinL (l : List (List UInt8)) : List UInt8 := (l.flatMap (fun x => 32 :: x)).drop 1
theorem joinL_nil : joinL [] = [] := rfl
theorem joinL_snoc (l : List (List UInt8)) (x : List UInt8) : joinL (l ++ [x]) = joinL l ++ ((if l = [] then [] else [32]) ++ x) := by
  unfold joinL
  rw [List.flatMap_append]
  cases l with
  | nil => simp
  | cons a l => simp
theorem joinL_cons (x : List UInt8) (l : List (List UInt8)) : joinL (x :: l) = x ++ l.flatMap (fun x => 32 :: x) := by simp [joinL]
/-- What Print answers. -/
def printL (l : List Gw) : List UInt8 × Nat :=
  if l.any (fun g => !g.may) then ([], 2) else if 1048576 < (joinL (l.map Gw.tell)).length then ([], 3) else (joinL (l.map Gw.tell), 0)
/-- The same but for their places? -/
def Gw.same (a b : Gw) : Bool := decide (a.k = b.k) && (decide (a.t = b.t) && decide (a.n = b.n))
def sameL : List Gw → List Gw → Bool
  | [], [] => true
  | a :: l, b :: k => a.same b && sameL l k
  | _, _ => false
theorem sameL_len : ∀ {l k : List Gw}, sameL l k = true → l.length = k.length
  | [], [], _ => rfl
  | a :: l, b :: k, h => by
    simp only [sameL, Bool.and_eq_true] at h
    simp [sameL_len h.2]
  | [], _ :: _, h => by cases h
  | _ :: _, [], h => by cases h
theorem sameL_all : ∀ (l k : List Gw), l.length = k.length → (sameL l k = true ↔ ∀ i (h : i < l.length) (h' : i < k.length), l[i].same k[i] = true)
  | [], [], _ => by simp [sameL]
  | a :: l, b :: k, h => by
    have ih := sameL_all l k (by simpa using h)
    simp only [sameL, Bool.and_eq_true, ih]
    constructor
    · rintro ⟨h1, h2⟩ i hi hi'
      cases i with
      | zero => exact h1
      | succ i => exact h2 i (by simpa using hi) (by simpa using hi')
    · intro h1
      exact ⟨h1 0 (by simp) (by simp), fun i hi hi' => h1 (i + 1) (by simpa using hi) (by simpa using hi')⟩
  | [], _ :: _, h => by simp at h
  | _ :: _, [], h => by simp at h
theorem Gw.same_refl (g : Gw) : g.same g = true := by simp [Gw.same]

/-- A word read, in memory. -/
def gwOf (p : Wd × Nat) : Gw := ⟨p.1.k, p.2, ⟨p.1.t.toArray⟩, p.1.n⟩
theorem gwOf_may (p : Wd × Nat) : (gwOf p).may = p.1.may := rfl
theorem gwOf_tell (p : Wd × Nat) : (gwOf p).tell = p.1.tell := rfl
/-- A word of memory that may be, as one that is read. -/
def Gw.wd (g : Gw) : Wd := ⟨g.k.toNat, g.t.data.toList, g.n⟩
theorem Gw.wd_k {g : Gw} (h : g.may = true) : (g.k.toNat : Int) = g.k := by
  rcases mayB_kind h with h | h | h | h | h <;> rw [h] <;> rfl
theorem Gw.wd_may {g : Gw} (h : g.may = true) : g.wd.may = true := by
  have e := Gw.wd_k h
  unfold Wd.may Gw.wd
  simp only
  rw [e]; exact h
theorem Gw.wd_tell {g : Gw} (h : g.may = true) : g.wd.tell = g.tell := by
  have e := Gw.wd_k h
  unfold Wd.tell Gw.wd
  simp only
  rw [e]; rfl
theorem gw_same_wd {g : Gw} (h : g.may = true) (a : Nat) : g.same (gwOf (g.wd, a)) = true ∧ (gwOf (g.wd, a)).same g = true := by
  have e := Gw.wd_k h
  unfold gwOf Gw.same Gw.wd
  simp only
  rw [e]; simp

/-- Words with a blank between, as they lie. -/
def blanked : List Wd → List (List UInt8 × Wd)
  | [] => []
  | w :: r => ([], w) :: r.map (fun v => ([32], v))
theorem layL_flat : ∀ r : List Wd, layL (r.map (fun v => ([32], v))) = (r.map Wd.tell).flatMap (fun x => 32 :: x)
  | [] => rfl
  | w :: r => by
    rw [List.map_cons, layL, layL_flat r]; simp
theorem layL_blanked (l : List Wd) : layL (blanked l) = joinL (l.map Wd.tell) := by
  cases l with
  | nil => rfl
  | cons w r => rw [blanked, layL, layL_flat, List.map_cons, joinL_cons]; simp
theorem blanked_words (l : List Wd) : (blanked l).map (·.2) = l := by
  cases l with
  | nil => rfl
  | cons w r => simp [blanked, Function.comp_def]
theorem gapOf_32 : GapOf [32] := gapOf_blank (by decide) gapOf_nil
theorem gappy_32 (u : List UInt8) : Gappy (32 :: u) := fun c h => by cases h; exact .inl rfl
/-- **Words are read as they were told.** -/
theorem scan_print {l : List Wd} (h : ∀ w ∈ l, w.may = true) : ∃ k : List (Wd × Nat), scan (joinL (l.map Wd.tell)) 0 = (k, none) ∧ k.map (·.1) = l := by
  have hp : ∀ p ∈ blanked l, GapOf p.1 ∧ p.2.may = true := by
    intro p hp
    cases l with
    | nil => cases hp
    | cons w r =>
      rcases List.mem_cons.1 hp with rfl | hp
      · exact ⟨gapOf_nil, h w List.mem_cons_self⟩
      · obtain ⟨v, hv, rfl⟩ := List.mem_map.1 hp
        exact ⟨gapOf_32, h v (List.mem_cons_of_mem _ hv)⟩
  have ht : ∀ p ∈ (blanked l).tail, ∀ u, Gappy (p.1 ++ u) := by
    intro p hp
    cases l with
    | nil => cases hp
    | cons w r =>
      obtain ⟨v, _, rfl⟩ := List.mem_map.1 hp
      exact fun u => gappy_32 u
  have := scan_lay (blanked l) [] 0 hp ht Gappy.nil
  rw [List.append_nil, scan_nil, layL_blanked, List.append_nil] at this
  exact ⟨_, this, by rw [layAt_words, blanked_words]⟩
theorem twice_flat_len (t : List UInt8) : (betweenL t).length ≤ 2 * t.length + 2 := by
  have := flatTwice_len t
  unfold betweenL
  rw [List.length_cons, List.length_append, List.length_singleton]; omega
theorem quote_len (t : List UInt8) : (quoteL t).length ≤ 6 * t.length + 2 := by
  have := flatEsc_len t
  unfold quoteL
  split
  · rw [List.length_cons, List.length_append, List.length_singleton]; omega
  · exact Nat.zero_le _
theorem tell_len {k : Int} {t : List UInt8} {n : Nat} (h : n < 10 ^ 20) : (tellL k t n).length ≤ 6 * t.length + 20 := by
  unfold tellL
  split
  · have := twice_flat_len t; omega
  · split
    · have := quote_len t; omega
    · split
      · have := dec_len h; omega
      · omega
theorem join_len : ∀ l : List (List UInt8), (joinL l).length ≤ (l.map fun x => x.length + 1).sum := by
  intro l
  have : ∀ l : List (List UInt8), (l.flatMap (fun x => 32 :: x)).length = (l.map fun x => x.length + 1).sum := by
    intro l
    induction l with
    | nil => rfl
    | cons a l ih => rw [List.flatMap_cons, List.length_append, ih, List.map_cons, List.sum_cons]; rfl
  unfold joinL
  rw [List.length_drop, this]; omega
end Go.Proofs.YtimhhacfjgbomaaGreatDoor
namespace Go.Proofs.YtimhhacfjgbomaaGreatDoor
set_option linter.unusedSimpArgs false
set_option linter.unusedVariables false
open Go.Lib

theorem sameL_wd : ∀ {l : List Gw} {k : List (Wd × Nat)}, (∀ g ∈ l, g.may = true) → k.map (·.1) = l.map Gw.wd → sameL l (k.map gwOf) = true
  | [], [], _, _ => rfl
  | g :: l, p :: k, h, e => by
    simp only [List.map_cons, List.cons.injEq] at e
    simp only [List.map_cons, sameL, Bool.and_eq_true]
    refine ⟨?_, sameL_wd (fun g hg => h g (List.mem_cons_of_mem _ hg)) e.2⟩
    have := (gw_same_wd (h g List.mem_cons_self) p.2).1
    rw [← e.1] at this
    exact this
  | [], _ :: _, _, e => by simp at e
  | _ :: _, [], _, e => by simp at e
theorem sameL_read : ∀ {l k : List (Wd × Nat)}, k.map (·.1) = l.map (·.1) → sameL (l.map gwOf) (k.map gwOf) = true
  | [], [], _ => rfl
  | p :: l, q :: k, e => by
    simp only [List.map_cons, List.cons.injEq] at e
    simp only [List.map_cons, sameL, Bool.and_eq_true]
    refine ⟨?_, sameL_read e.2⟩
    unfold gwOf Gw.same
    rw [e.1]; simp
  | [], _ :: _, e => by simp at e
  | _ :: _, [], e => by simp at e
theorem tells_read (l : List (Wd × Nat)) : (l.map gwOf).map Gw.tell = (l.map (·.1)).map Wd.tell := by
  rw [List.map_map, List.map_map]; rfl
theorem tells_wd : ∀ {l : List Gw}, (∀ g ∈ l, g.may = true) → (l.map Gw.wd).map Wd.tell = l.map Gw.tell
  | [], _ => rfl
  | g :: l, h => by
    simp only [List.map_cons]
    rw [Gw.wd_tell (h g List.mem_cons_self), tells_wd (fun g hg => h g (List.mem_cons_of_mem _ hg))]
/-- Words are read as they were told. -/
theorem back_words {l : List Gw} (h : ∀ g ∈ l, g.may = true) : ∃ k, scan (joinL (l.map Gw.tell)) 0 = (k, none) ∧ sameL l (k.map gwOf) = true := by
  have h1 : ∀ w ∈ l.map Gw.wd, w.may = true := by
    intro w hw
    obtain ⟨g, hg, rfl⟩ := List.mem_map.1 hw
    exact Gw.wd_may (h g hg)
  obtain ⟨k, hk, hm⟩ := scan_print h1
  rw [tells_wd h] at hk
  exact ⟨k, hk, sameL_wd h hm⟩
theorem any_may {l : List Gw} (h : l.any (fun g => !g.may) = false) : ∀ g ∈ l, g.may = true := by
  intro g hg
  have := List.any_eq_false.1 h g hg
  simpa using this
theorem printL_ok {l : List Gw} (h : ∀ g ∈ l, g.may = true) (hs : (joinL (l.map Gw.tell)).length ≤ 1048576) : printL l = (joinL (l.map Gw.tell), 0) := by
  unfold printL
  have : l.any (fun g => !g.may) = false := by
    rw [List.any_eq_false]; intro g hg; simp [h g hg]
  rw [this, if_neg (by decide), if_neg (by omega)]
/-- A text's words are those of their telling. -/
theorem back_text {t : List UInt8} (ht : t.length ≤ 4000) (hn : (scan t 0).2 = none) : ∃ T again, printL ((scan t 0).1.map gwOf) = (T, 0) ∧ T.length ≤ 84000 ∧ scan T 0 = (again, none) ∧ sameL ((scan t 0).1.map gwOf) (again.map gwOf) = true ∧ printL (again.map gwOf) = (T, 0) := by
  obtain ⟨h1, h2, h3⟩ := scan_may t.length t 0 (Nat.le_refl _)
  obtain ⟨l, hl⟩ : ∃ l, (scan t 0).1 = l := ⟨_, rfl⟩
  rw [hl] at h1 h2 h3 ⊢
  have hm : ∀ w ∈ l.map (·.1), w.may = true := by
    intro w hw
    obtain ⟨p, hp, rfl⟩ := List.mem_map.1 hw
    exact (h1 p hp).1
  obtain ⟨k, hk, hkm⟩ := scan_print hm
  have hlen : (joinL ((l.map (·.1)).map Wd.tell)).length ≤ 84000 := by
    refine Nat.le_trans (join_len _) ?_
    have e : ((l.map (·.1)).map Wd.tell).map (fun x => x.length + 1) = l.map fun p => p.1.tell.length + 1 := by
      rw [List.map_map, List.map_map]; rfl
    rw [e]; omega
  have hg : ∀ (k : List (Wd × Nat)), (∀ w ∈ k.map (·.1), w.may = true) → ∀ g ∈ k.map gwOf, g.may = true := by
    intro k hk g hg
    obtain ⟨p, hp, rfl⟩ := List.mem_map.1 hg
    exact hk p.1 (List.mem_map.2 ⟨p, hp, rfl⟩)
  refine ⟨joinL ((l.map (·.1)).map Wd.tell), k, ?_, hlen, hk, sameL_read hkm, ?_⟩
  · rw [printL_ok (hg l hm) (by rw [tells_read]; omega), tells_read]
  · rw [printL_ok (hg k (by rw [hkm]; exact hm)) (by rw [tells_read, hkm]; omega), tells_read, hkm]
/-- How long the telling is. -/
theorem joined_len : ∀ l : List Gw, (∀ g ∈ l, g.n < 10 ^ 20) → ((l.map Gw.tell).map fun x => x.length + 1).sum ≤ 6 * (l.map fun g => g.t.size).sum + 21 * l.length
  | [], _ => by simp
  | g :: l, h => by
    have h1 := joined_len l (fun g hg => h g (List.mem_cons_of_mem _ hg))
    have h2 := tell_len (k := g.k) (t := g.t.data.toList) (h g List.mem_cons_self)
    have h3 : g.t.data.toList.length = g.t.size := rfl
    simp only [List.map_cons, List.sum_cons, List.length_cons]
    unfold Gw.tell at *
    omega

/-! ### names -/
theorem spell_law {t : List UInt8} (h : nameB t = true) :
    (plainB t = true ∧ resB t = false ∧ spellL t = t ∧ lowL t ≠ [109, 97, 116, 99, 104] ∧ scan (spellL t) 0 = ([(⟨1, t, 0⟩, 0)], none)) ∨
    ((∀ n a, scan t 0 = ([(⟨1, t, n⟩, a)], none) → resB t = true) ∧ scan (spellL t) 0 = ([(⟨2, t, 0⟩, 0)], none)) := by
  have hs := scan_spell h
  by_cases hp : (plainB t && !resB t) = true
  · left
    rw [if_pos hp] at hs
    have hp' := hp
    simp only [Bool.and_eq_true, Bool.not_eq_true'] at hp'
    refine ⟨hp'.1, hp'.2, by unfold spellL; rw [if_pos h, if_pos hp], ?_, hs⟩
    intro e
    have := resB_list t
    rw [hp'.2, e] at this
    exact absurd this (by decide)
  · right
    rw [if_neg hp] at hs
    refine ⟨fun n a hn => ?_, hs⟩
    have := scan_name_plain h hn
    rw [this] at hp
    simpa using hp
theorem spell_len (t : List UInt8) : (spellL t).length ≤ 2 * t.length + 2 := by
  unfold spellL
  split
  · split
    · omega
    · exact twice_flat_len t
  · exact Nat.zero_le _

/-! ### gaps -/
def gapT (g : Nat) : List UInt8 := if g = 0 then [32] else if g = 1 then [10] else if g = 2 then [32, 47, 42, 32, 39, 32, 47, 47, 32, 42, 42, 47] else [9, 13, 32, 47, 47, 32, 97, 34, 91, 47, 42, 10]
theorem gapT_len (g : Nat) : (gapT g).length ≤ 12 := by
  unfold gapT; split; decide; split; decide; split <;> decide
theorem gapT_gap (g : Nat) : GapOf (gapT g) := by
  unfold gapT
  split
  · exact gapOf_32
  · split
    · exact gapOf_blank (by decide) gapOf_nil
    · split
      · exact gapOf_blank (by decide) (gapOf_block (l := [32, 39, 32, 47, 47, 32, 42]) (g := []) (by decide) gapOf_nil)
      · exact gapOf_blank (by decide) (gapOf_blank (by decide) (gapOf_blank (by decide) (gapOf_line (l := [32, 97, 34, 91, 47, 42]) (g := []) (by decide) (gapOf_blank (by decide) gapOf_nil))))
theorem gapT_gappy (g : Nat) (u : List UInt8) : Gappy (gapT g ++ u) := by
  unfold gapT
  intro c h
  split at h
  · cases h; exact .inl rfl
  · split at h
    · cases h; exact .inr (.inr (.inl rfl))
    · split at h
      · cases h; exact .inl rfl
      · cases h; exact .inr (.inl rfl)
/-- Words laid with gaps: what is read. -/
theorem gaps_law (l : List (Nat × Wd)) (h : ∀ p ∈ l, p.2.may = true) (tail : List UInt8) (ht : Gappy tail) :
    scan (layL (l.map fun p => (gapT p.1, p.2)) ++ tail) 0 = (layAt 0 (l.map fun p => (gapT p.1, p.2)) ++ (scan tail (layL (l.map fun p => (gapT p.1, p.2))).length).1, (scan tail (layL (l.map fun p => (gapT p.1, p.2))).length).2) := by
  have := scan_lay (l.map fun p => (gapT p.1, p.2)) tail 0 (by
    intro p hp
    obtain ⟨q, hq, rfl⟩ := List.mem_map.1 hp
    exact ⟨gapT_gap _, h q hq⟩) (by
    intro p hp
    obtain ⟨q, _, rfl⟩ := List.mem_map.1 (List.mem_of_mem_tail hp)
    exact fun u => gapT_gappy _ u) ht
  rw [Nat.zero_add] at this
  exact this
theorem tail_scan (v : List UInt8) (n : Nat) (r : List (Wd × Nat) × Option Nat) (h : scan v 0 = r) : scan v n = (r.1.map (fun p => (p.1, p.2 + n)), r.2.map (· + n)) := by
  have := scan_shift v.length v 0 n (Nat.le_refl _)
  rw [Nat.zero_add, h] at this
  exact this
theorem tail_ok (n : Nat) : scan [10, 32, 47, 47] n = ([], none) := tail_scan _ n ([], none) (by decide +kernel)
theorem tail_hash (n : Nat) : scan [32, 35] n = ([], some (n + 1)) := by
  rw [tail_scan [32, 35] n ([], some 1) (by decide +kernel), Nat.add_comm]; rfl
theorem tail_open (n : Nat) : scan [32, 47, 42, 32, 42] n = ([], some (n + 1)) := by
  rw [tail_scan [32, 47, 42, 32, 42] n ([], some 1) (by decide +kernel), Nat.add_comm]; rfl
theorem gappy_10 (u : List UInt8) : Gappy (10 :: u) := fun c h => by cases h; exact .inr (.inr (.inl rfl))
theorem layL_snoc (p : List UInt8 × Wd) : ∀ l : List (List UInt8 × Wd), layL (l ++ [p]) = layL l ++ (p.1 ++ p.2.tell)
  | [] => by simp [layL]
  | q :: l => by
    rw [List.cons_append, layL, layL_snoc p l, layL]; simp
theorem layAt_snoc (p : List UInt8 × Wd) : ∀ (l : List (List UInt8 × Wd)) (a : Nat), layAt a (l ++ [p]) = layAt a l ++ [(p.2, a + (layL l).length + p.1.length)]
  | [], a => by simp [layAt, layL]
  | q :: l, a => by
    rw [List.cons_append, layAt, layAt_snoc p l, layAt, layL]
    simp only [List.length_append, List.cons_append]
    congr 4
    omega
theorem layAt_len : ∀ (l : List (List UInt8 × Wd)) (a : Nat), (layAt a l).length = l.length
  | [], a => rfl
  | q :: l, a => by rw [layAt, List.length_cons, layAt_len l, List.length_cons]
/-- One word alone is printed. -/
theorem printL_one (g : Gw) (hn : g.n < 10 ^ 20) (ht : g.t.size ≤ 100000) : printL [g] = if g.may then (g.tell, 0) else ([], 2) := by
  cases hm : g.may with
  | false => unfold printL; simp [hm]
  | true =>
    have h2 := tell_len (k := g.k) (t := g.t.data.toList) hn
    have h3 : g.t.data.toList.length = g.t.size := rfl
    rw [printL_ok (by intro x hx; simp only [List.mem_singleton] at hx; subst hx; exact hm) (by
      have e : joinL (List.map Gw.tell [g]) = g.tell := by simp [joinL]
      rw [e]
      unfold Gw.tell; omega)]
    simp [joinL]

/-! ### two texts -/
theorem join_law {u : List UInt8} (v : List UInt8) (h : (scan u 0).2 = none) : scan (u ++ 10 :: v) 0 = ((scan u 0).1 ++ (scan v 0).1.map (fun p => (p.1, p.2 + (u.length + 1))), (scan v 0).2.map (· + (u.length + 1))) := by
  rw [scan_join u.length u v 0 (Nat.le_refl _) h, Nat.zero_add]
  have := scan_shift v.length v 0 (u.length + 1) (Nat.le_refl _)
  rw [Nat.zero_add] at this
  rw [this]
end Go.Proofs.YtimhhacfjgbomaaGreatDoor
namespace Go.Proofs.YtimhhacfjgbomaaGreatDoor
set_option linter.unusedSimpArgs false
set_option linter.unusedVariables false
open Go.Lib

/-- Words begin, and fail, within the text. -/
theorem scan_bound : ∀ (m : Nat) (u : List UInt8) (a : Nat), u.length ≤ m → (∀ p ∈ (scan u a).1, p.2 ≤ a + u.length) ∧ (∀ n, (scan u a).2 = some n → n ≤ a + u.length) := by
  intro m
  induction m with
  | zero =>
    intro u a h
    have : u = [] := List.eq_nil_of_length_eq_zero (by omega)
    subst this
    rw [scan_nil]
    exact ⟨by simp, by simp⟩
  | succ m ih =>
    intro u a h
    rw [scan_eq]
    have hs := skip_le u
    by_cases h1 : (skip u).2 = false
    · rw [if_pos h1]
      refine ⟨by simp, fun n hn => ?_⟩
      simp at hn; omega
    · rw [if_neg h1]
      cases hd : u.drop (skip u).1 with
      | nil => exact ⟨by simp, by simp⟩
      | cons c r =>
        have hl := congrArg List.length hd
        simp only [List.length_drop, List.length_cons] at hl
        simp only
        cases hw : word1 (c :: r) with
        | none =>
          refine ⟨by simp, fun n hn => ?_⟩
          simp at hn; omega
        | some p =>
          obtain ⟨w, n⟩ := p
          have h2 := word1_len hw
          simp only [List.length_cons] at h2
          have h3 : ((c :: r).drop n).length = r.length + 1 - n := by simp
          obtain ⟨i1, i2⟩ := ih ((c :: r).drop n) (a + (skip u).1 + n) (by omega)
          rw [h3] at i1 i2
          refine ⟨fun q hq => ?_, fun k hk => ?_⟩
          · rcases List.mem_cons.1 hq with rfl | hq
            · show a + (skip u).1 ≤ _; omega
            · have := i1 q hq; omega
          · have := i2 k hk; omega
theorem scan_err {u : List UInt8} {n : Nat} (h : (scan u 0).2 = some n) : n ≤ u.length := by
  have := (scan_bound u.length u 0 (Nat.le_refl _)).2 n h
  omega
theorem scan_place {u : List UInt8} {p : Wd × Nat} (h : p ∈ (scan u 0).1) : p.2 ≤ u.length := by
  have := (scan_bound u.length u 0 (Nat.le_refl _)).1 p h
  omega
theorem scan_count (u : List UInt8) : (scan u 0).1.length ≤ u.length := (scan_may u.length u 0 (Nat.le_refl _)).2.2
end Go.Proofs.YtimhhacfjgbomaaGreatDoor
namespace Go.Proofs.YtimhhacfjgbomaaGreatDoor
set_option linter.unusedSimpArgs false
set_option linter.unusedVariables false
open Go.Lib

/-- Letters and digits, the first a letter. -/
def rplainB (t : List UInt8) : Bool := match t with
  | [] => false
  | c :: r => letN c.toNat && r.all runB
theorem runL_all (t : List UInt8) : decide (runL t = t) = t.all runB := by
  rw [Bool.eq_iff_iff, decide_eq_true_eq, List.all_eq_true]
  constructor
  · intro h c hc
    rw [← h] at hc
    exact run_mem c hc
  · exact fun h => runL_self h
theorem cls_one (c : Nat) : decide (cls c = 1) = letN c := by
  unfold cls
  cases h : letN c with
  | true => rfl
  | false =>
    simp only [Bool.false_eq_true, if_false]
    split; rfl
    split; rfl
    split; rfl
    split <;> rfl
theorem plain_ref (t : List UInt8) : plainB t = (rplainB t && nameB t) := by
  cases t with
  | nil => rfl
  | cons c r =>
    unfold plainB rplainB
    simp only
    rw [cls_one, runL_all, List.all_cons]
    have : runB c = (letN c.toNat || digN c.toNat) := rfl
    rw [this]
    cases letN c.toNat <;> simp
/-- The first sign of a list with which a text begins. -/
def firstL : List (List UInt8) → List UInt8 → Option (List UInt8)
  | [], _ => none
  | x :: r, u => if x.isPrefixOf u then some x else firstL r u
theorem firstL_one : ∀ (l : List UInt8) (c : UInt8) (r : List UInt8), firstL (l.map fun c => [c]) (c :: r) = if l.any (fun x => x.toNat == c.toNat) then some [c] else none
  | [], c, r => rfl
  | x :: l, c, r => by
    rw [List.map_cons, firstL, firstL_one l c r, List.any_cons]
    have h1 : [x].isPrefixOf (c :: r) = (x == c) := by simp [List.isPrefixOf]
    have h2 : (x.toNat == c.toNat) = (x == c) := by
      rw [Bool.eq_iff_iff]; simp; exact ⟨fun h => UInt8.toNat_inj.1 h, fun h => by rw [h]⟩
    rw [h1, h2]
    by_cases h : x = c
    · subst h; simp
    · simp [h]
theorem firstL_sign (c : UInt8) (r : List UInt8) : firstL signL (c :: r) = if two (c :: r) then some ((c :: r).take 2) else if signN c.toNat then some [c] else none := by
  unfold signL two
  have hp : ∀ x y : UInt8, [x, y].isPrefixOf (c :: r) = true → (c :: r).take 2 = [x, y] := fun x y h => by
    have := List.isPrefixOf_iff_prefix.1 h
    exact (List.prefix_iff_eq_take.1 this).symm
  rw [firstL, firstL, firstL, firstL_one]
  by_cases h1 : [60, 62].isPrefixOf (c :: r) = true
  · rw [if_pos h1, h1]; simp [hp _ _ h1]
  · by_cases h2 : [60, 61].isPrefixOf (c :: r) = true
    · rw [if_neg h1, if_pos h2, h2]; simp [hp _ _ h2]
    · by_cases h3 : [62, 61].isPrefixOf (c :: r) = true
      · rw [if_neg h1, if_neg h2, if_pos h3, h3]; simp [hp _ _ h3]
      · rw [if_neg h1, if_neg h2, if_neg h3]
        simp only [Bool.not_eq_true] at h1 h2 h3
        rw [h1, h2, h3]
        rfl
theorem two_cls {c : UInt8} {r : List UInt8} (h : two (c :: r) = true) : cls c.toNat = 5 := by
  unfold two at h
  simp only [List.isPrefixOf, Bool.or_eq_true, Bool.and_eq_true, beq_iff_eq] at h
  rcases h with (⟨rfl, _⟩ | ⟨rfl, _⟩) | ⟨rfl, _⟩ <;> decide
/-- The digits at the head, and their number, as long as it is no greater than it may be. -/
def digL (u : List UInt8) : List UInt8 := u.takeWhile fun c => digN c.toNat
/-- The number at the head, and behind it; as the document's answer works it out. -/
def rnum (u : List UInt8) : Option (Nat × Nat) :=
  if numV (digL u) ≤ 9223372036854775808 ∧ (u.head? ≠ some 48 ∨ (digL u).length = 1) ∧ (match u.drop (digL u).length with | [] => true | c :: _ => !letN c.toNat) = true
  then some (numV (digL u), (digL u).length) else none
theorem digL_run (u : List UInt8) : (match u.drop (digL u).length with | [] => true | c :: _ => !letN c.toNat) = (runL u).all (fun c => digN c.toNat) ∧ ((runL u).all (fun c => digN c.toNat) = true → digL u = runL u) := by
  induction u with
  | nil => exact ⟨rfl, fun _ => rfl⟩
  | cons c r ih =>
    cases hd : digN c.toNat with
    | true =>
      have e1 : digL (c :: r) = c :: digL r := by unfold digL; rw [List.takeWhile_cons_of_pos (p := fun c : UInt8 => digN c.toNat) hd]
      have e2 : runL (c :: r) = c :: runL r := by unfold runL; rw [List.takeWhile_cons_of_pos (by unfold runB; rw [hd]; simp)]
      rw [e1, e2]
      simp only [List.length_cons, List.drop_succ_cons, List.all_cons, hd, Bool.true_and]
      exact ⟨ih.1, fun h => by rw [ih.2 h]⟩
    | false =>
      have e1 : digL (c :: r) = [] := by unfold digL; rw [List.takeWhile_cons_of_neg (p := fun c : UInt8 => digN c.toNat) (by simp [hd])]
      rw [e1]
      simp only [List.length_nil, List.drop_zero]
      cases hl : letN c.toNat with
      | true =>
        have e2 : runL (c :: r) = c :: runL r := by unfold runL; rw [List.takeWhile_cons_of_pos (by unfold runB; rw [hl]; rfl)]
        rw [e2]
        simp [hd]
      | false =>
        have e2 : runL (c :: r) = [] := by unfold runL; rw [List.takeWhile_cons_of_neg (by unfold runB; rw [hl, hd]; simp)]
        rw [e2]
        exact ⟨rfl, fun _ => rfl⟩
theorem rnum_eq {c : UInt8} {r : List UInt8} (hc : digN c.toNat = true) : rnum (c :: r) = if numB (runL (c :: r)) then some (numV (runL (c :: r)), (runL (c :: r)).length) else none := by
  obtain ⟨h1, h2⟩ := digL_run (c :: r)
  unfold rnum numB
  rw [h1]
  cases ha : (runL (c :: r)).all (fun c => digN c.toNat) with
  | false => simp
  | true =>
    rw [h2 ha]
    have hr : ∃ t, runL (c :: r) = c :: t := ⟨runL r, by unfold runL; rw [List.takeWhile_cons_of_pos (by unfold runB; rw [hc]; simp)]⟩
    obtain ⟨t, ht⟩ := hr
    rw [ht]
    simp only [List.head?_cons, Bool.true_and, and_true]
    have e : (c ≠ 48 ∨ (c :: t).length = 1) ↔ ((c :: t == [48] || decide (c ≠ 48)) = true) := by
      cases t with
      | nil => simp; exact Classical.em _
      | cons d t => simp
    have e2 : (some c != some (48 : UInt8)) = decide (c ≠ 48) := by
      rw [Bool.eq_iff_iff]; simp
    rw [e2]
    by_cases hv : numV (c :: t) ≤ 9223372036854775808
    · by_cases hz : (c ≠ 48 ∨ (c :: t).length = 1)
      · rw [if_pos ⟨hv, by simpa using hz⟩, e.1 hz]; simp [hv]
      · rw [if_neg (fun h => hz (by simpa using h.2))]
        have : (c :: t == [48] || decide (c ≠ 48)) = false := by
          cases hb : (c :: t == [48] || decide (c ≠ 48)) with
          | false => rfl
          | true => exact absurd (e.2 hb) hz
        rw [this]; simp
    · rw [if_neg (fun h => hv h.1)]; simp [hv]
/-- A word's beginning by the document's answer. -/
theorem word1_sign {c : UInt8} {r : List UInt8} (h1 : letN c.toNat = false) (h2 : digN c.toNat = false) (h3 : ¬ (c.toNat = 39 ∨ c.toNat = 34)) (h4 : c.toNat ≠ 96) :
    word1 (c :: r) = (firstL signL (c :: r)).map fun x => (⟨5, x, 0⟩, x.length) := by
  have e : cls c.toNat = if signN c.toNat then 5 else 0 := by
    unfold cls
    rw [h1, h2, if_neg (by decide), if_neg (by decide), if_neg h3, if_neg h4]
  rw [firstL_sign]
  unfold word1
  simp only
  by_cases ht : two (c :: r) = true
  · have h5 := two_cls ht
    rw [h5]
    rw [if_pos ht, if_pos ht]
    have hl : ((c :: r).take 2).length = 2 := by
      unfold two at ht
      simp only [Bool.or_eq_true] at ht
      have : ∀ x y : UInt8, [x, y].isPrefixOf (c :: r) = true → 2 ≤ (c :: r).length := fun x y h => (List.isPrefixOf_iff_prefix.1 h).length_le
      have h6 : 2 ≤ (c :: r).length := by rcases ht with (h | h) | h <;> exact this _ _ h
      rw [List.length_take]; omega
    simp only [Option.map_some, hl]
    rfl
  · rw [if_neg ht, if_neg ht, e]
    by_cases hs : signN c.toNat = true
    · rw [if_pos hs, if_pos hs]; rfl
    · rw [if_neg hs, if_neg hs]; rfl
end Go.Proofs.YtimhhacfjgbomaaGreatDoor
