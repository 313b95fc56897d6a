/-
  FOR THE WALK of the reader's step: the words so far, in memory.
  THE WALK of the closure that some hands to read: one word more.
  PLAIN: the scan, from behind a gap on.
  THE WALK of the reader's step: all words of a text, into the list.
-/
import Derived.Test.YtimhhacfjgbomaaGreatDoorWordB
import Derived.Deep.Onto
import Derived.Test.YtimhhacfjgbomaaGreatDoorWordsP
import Derived.Test.YtimhhacfjgbomaaGreatDoorWordZ
namespace Go.Proofs.YtimhhacfjgbomaaGreatDoor
set_option linter.unusedSimpArgs false
set_option linter.unusedVariables false
open Go.RowKit Go.Shelf

/-- A word's cells. -/
def wdOne (p : Wd × Nat) : List Value := [.int .i64 p.1.k, .int .i64 p.2, .string ⟨p.1.t.toArray⟩, .int .u64 p.1.n]
def wdCells (l : List (Wd × Nat)) : List Value := l.flatMap wdOne
theorem wdCells_len : ∀ l : List (Wd × Nat), (wdCells l).length = l.length * 4
  | [] => rfl
  | p :: r => by
    have := wdCells_len r
    simp only [wdCells, List.flatMap_cons, List.length_append, List.length_cons] at this ⊢
    rw [this]; simp [wdOne]; omega
theorem wdCells_snoc (l : List (Wd × Nat)) (p : Wd × Nat) : wdCells (l ++ [p]) = wdCells l ++ wdOne p := by simp [wdCells]
theorem wdCells_at : ∀ (l : List (Wd × Nat)) (i : Nat) (p : Wd × Nat), l[i]? = some p → ∀ k, k < 4 → (wdCells l)[i * 4 + k]? = (wdOne p)[k]?
  | [], i, p, h, _, _ => by simp at h
  | q :: r, 0, p, h, k, hk => by
    simp at h; subst h
    simp only [wdCells, List.flatMap_cons, Nat.zero_mul, Nat.zero_add]
    rw [List.getElem?_append_left (by simp [wdOne]; omega)]
  | q :: r, i + 1, p, h, k, hk => by
    have := wdCells_at r i p (by simpa using h) k hk
    simp only [wdCells, List.flatMap_cons] at this ⊢
    rw [List.getElem?_append_right (by simp [wdOne]; omega), ← this]
    congr 1; simp [wdOne]; omega
/-- What may turn: blocks L and B, and those from b on. -/
structure Fr (L B b : Nat) (w V : World) : Prop where
  os : V.os = w.os
  tape : V.tape = w.tape
  output : V.output = w.output
  size : w.heap.size ≤ V.heap.size
  block : ∀ k, k < b → k ≠ L → k ≠ B → V.heap[k]? = w.heap[k]?
theorem Fr.refl (L B b : Nat) (w : World) : Fr L B b w w := ⟨rfl, rfl, rfl, Nat.le_refl _, fun _ _ _ _ => rfl⟩
theorem Fr.trans {L B b : Nat} {u v w : World} (h : Fr L B b u v) (k : Fr L B b v w) : Fr L B b u w :=
  ⟨k.os.trans h.os, k.tape.trans h.tape, k.output.trans h.output, Nat.le_trans h.size k.size, fun i hi h1 h2 => (k.block i hi h1 h2).trans (h.block i hi h1 h2)⟩
theorem Fr.only {L B b : Nat} {w V : World} (h : w.grownBy V (some B)) (hb : b ≤ w.heap.size) : Fr L B b w V :=
  ⟨h.os, h.tape, h.output, h.size, fun k hk _ h2 => h.block k (by omega) (fun e => h2 (Option.some.inj e))⟩
theorem Fr.below {L B b m : Nat} {w V : World} (h : Below m w V) (hb : b ≤ m) : Fr L B b w V :=
  ⟨h.os, h.tape, h.output, h.size, fun k hk _ _ => h.block k (by omega)⟩
theorem Fr.wide {L B b b' : Nat} {w V : World} (h : Fr L L b w V) (hb : b' ≤ b) : Fr L B b' w V :=
  ⟨h.os, h.tape, h.output, h.size, fun k hk h1 _ => h.block k (by omega) h1 h1⟩
theorem Fr.set {L B b : Nat} {w V : World} (h : Fr L B b w V) {p : Addr} (hp : p.block = L ∨ p.block = B ∨ b ≤ p.block) (v : Value) : Fr L B b w (V.setCell p v) :=
  ⟨h.os, h.tape, h.output, by simpa [World.setCell] using h.size, fun k hk h1 h2 => (Below.heap_setCell V p v k (by rintro rfl; omega)).trans (h.block k hk h1 h2)⟩
theorem Fr.alloc {L B b : Nat} {w V : World} (h : Fr L B b w V) (hb : b ≤ V.heap.size) (o : Obj) : Fr L B b w (V.alloc o) := h.trans (Fr.below (ballocR V o) hb)
theorem Fr.toBelow {L B b n : Nat} {w V : World} (h : Fr L B b w V) (hL : n ≤ L) (hB : n ≤ B) (hb : n ≤ b) : Below n w V :=
  ⟨h.os, h.tape, h.output, h.size, fun k hk => h.block k (by omega) (by omega) (by omega)⟩
/-- The list in its box. -/
def LBox (V : World) (L b : Nat) (l : List (Wd × Nat)) (v : Value) : Prop := V.heap[L]? = some (.cells #[v] 23 (0, 0)) ∧ V.ownsRow b 33 4 v l.length (wdCells l)
theorem LBox.cell {V : World} {L b : Nat} {l : List (Wd × Nat)} {v : Value} (h : LBox V L b l v) : V.cell? ⟨L, 0, none⟩ = some v := by have := h.1; simp [World.cell?, this]
theorem LBox.fr {V : World} {L b : Nat} {l : List (Wd × Nat)} {v : Value} (h : LBox V L b l v) : V.frozen? ⟨L, 0, none⟩ = false := by have := h.1; simp [World.frozen?, this]
theorem LBox.lt {V : World} {L b : Nat} {l : List (Wd × Nat)} {v : Value} (h : LBox V L b l v) : L < V.heap.size := (Array.getElem?_eq_some_iff.1 h.1).1
theorem LBox.ne {V : World} {L b B : Nat} {l : List (Wd × Nat)} {v : Value} (h : LBox V L b l v) (hB : B < b) : v.ownBlock ≠ some B := fun e => by have := (h.2.lt B e).1; omega
theorem LBox.only {V V' : World} {L b B : Nat} {l : List (Wd × Nat)} {v : Value} (h : LBox V L b l v) (hg : V.grownBy V' (some B)) (hL : L ≠ B) (hB : B < b) : LBox V' L b l v :=
  ⟨(hg.block L h.lt (fun e => hL (Option.some.inj e))).trans h.1, h.2.kept hg (.inr (h.ne hB))⟩
theorem LBox.next {V V' : World} {L b : Nat} {l : List (Wd × Nat)} {v : Value} (h : LBox V L b l v) (hb : Below V.heap.size V V') : LBox V' L b l v :=
  ⟨(hb.block L h.lt).trans h.1, h.2.kept (only_of_below hb none) (by by_cases hv : v.ownBlock = none; exact .inl hv; exact .inr hv)⟩
theorem info_word : (Tryz.prog.info? 33).map (fun i => (i.zero, i.size, i.bytes)) = some (some (.agg #[.int .i64 0, .int .i64 0, .string ⟨#[]⟩, .int .u64 0]), 4, 40) := by kernel_rfl
theorem four_new (w : World) (x y z u : Value) (t : TypeId) : ∀ (j : Nat) (e : Value), [x, y, z, u][j]? = some e → (w.alloc (.cells #[x, y, z, u] t)).cell? ((⟨w.heap.size, 0, none⟩ : Addr).add j) = some e := by
  have hb := new_at w (.cells #[x, y, z, u] t)
  intro j e h
  match j, h with
  | 0, h => cases h; rw [show ((⟨w.heap.size, 0, none⟩ : Addr).add 0) = ⟨w.heap.size, 0, none⟩ from rfl, Lib.cell_of_heap hb]; rfl
  | 1, h => cases h; rw [show ((⟨w.heap.size, 0, none⟩ : Addr).add 1) = ⟨w.heap.size, 1, none⟩ from rfl, Lib.cell_of_heap hb]; rfl
  | 2, h => cases h; rw [show ((⟨w.heap.size, 0, none⟩ : Addr).add 2) = ⟨w.heap.size, 2, none⟩ from rfl, Lib.cell_of_heap hb]; rfl
  | 3, h => cases h; rw [show ((⟨w.heap.size, 0, none⟩ : Addr).add 3) = ⟨w.heap.size, 3, none⟩ from rfl, Lib.cell_of_heap hb]; rfl
  | j + 4, h => simp at h
theorem wdOne_one (p : Wd × Nat) : ∀ u ∈ wdOne p, u.oneCell' = true := by simp [wdOne, Value.oneCell']
/-- Behind an append to the list in its box. -/
theorem LBox.more {V V' : World} {L b : Nat} {l : List (Wd × Nat)} {p : Wd × Nat} {v v' : Value} (h : LBox V L b l v) (hL : L < b) (hbv : b ≤ V.heap.size) (hg : V.grownBy V' v.ownBlock) (ho : V'.ownsRow b 33 4 v' (l.length + 1) (wdCells l ++ wdOne p)) :
    V'.cell? ⟨L, 0, none⟩ = some v ∧ V'.frozen? ⟨L, 0, none⟩ = false ∧ LBox (V'.setCell ⟨L, 0, none⟩ v') L b (l ++ [p]) v' ∧ Fr L L b V (V'.setCell ⟨L, 0, none⟩ v') := by
  have hb : V'.heap[L]? = some (.cells #[v] 23 (0, 0)) := (hg.block L h.lt (fun e => h.ne hL e.symm)).trans h.1
  have hfr : Fr L L b V V' := ⟨hg.os, hg.tape, hg.output, hg.size, fun k hk h1 _ => by
    exact hg.block k (by omega) (fun e => h.ne hk e.symm)⟩
  refine ⟨by simp [World.cell?, hb], by simp [World.frozen?, hb], ⟨set_at v' hb, ?_⟩, hfr.set (.inl rfl) _⟩
  rw [wdCells_snoc, List.length_append]
  have hne : v'.ownBlock ≠ some L := fun e => by have := (ho.lt L e).1; omega
  exact ho.kept (only_setCell (only_refl V' (some L)) (.inl rfl) v') (.inr hne)
end Go.Proofs.YtimhhacfjgbomaaGreatDoor
namespace Go.Proofs.YtimhhacfjgbomaaGreatDoor
set_option linter.unusedSimpArgs false
set_option linter.unusedVariables false
open Go.RowKit Go.Shelf

set_option maxRecDepth 100000 in
set_option maxHeartbeats 4000000 in
theorem give_any (L b : Nat) (l : List (Wd × Nat)) (p : Wd × Nat) (v : Value) (V : World) (h : LBox V L b l v) (hL : L < b) (hb : b ≤ V.heap.size) (hl : l.length ≤ 1048576) :
    Calls Tryz.prog 58 #[.agg #[.int .i64 p.1.k, .int .i64 p.2, .string ⟨p.1.t.toArray⟩, .int .u64 p.1.n], .pointer (some ⟨L, 0, none⟩)] V fun e V' => e = .returned (.bool true) ∧ (∃ v', LBox V' L b (l ++ [p]) v') ∧ Fr L L b V V' := by
  obtain ⟨i0, hi, hz0, hz1, hz2⟩ := info_parts info_word
  obtain ⟨⟨k, t, n⟩, a⟩ := p
  simp only
  have h1 := h.next (ballocR V (.cells #[.int .i64 k, .int .i64 a, .string ⟨t.toArray⟩, .int .u64 n] 33))
  have hsz : V.heap.size + 1 = (V.alloc (.cells #[.int .i64 k, .int .i64 a, .string ⟨t.toArray⟩, .int .u64 n] 33)).heap.size := by simp
  obtain ⟨d0, d1, d2, d3⟩ := Box4.cells (k := k) (p := a) (t := ⟨t.toArray⟩) (n := n) (new_at V (.cells #[.int .i64 k, .int .i64 a, .string ⟨t.toArray⟩, .int .u64 n] 33))
  have hfr := (Fr.refl L L b V).alloc hb (.cells #[.int .i64 k, .int .i64 a, .string ⟨t.toArray⟩, .int .u64 n] 33)
  go_enter Tryz.func58, Tryz.ntmps58
  go_upto_region 1 with (fail)
  generalize V.alloc (.cells #[.int .i64 k, .int .i64 a, .string ⟨t.toArray⟩, .int .u64 n] 33) = V1 at *
  have c0 := h1.cell
  have h2 := h1.next (ballocR V1 (.cells #[.int .i64 k, .int .i64 a, .string ⟨t.toArray⟩, .int .u64 n] 33))
  have hfr2 := hfr.alloc (by omega) (.cells #[.int .i64 k, .int .i64 a, .string ⟨t.toArray⟩, .int .u64 n] 33)
  have H2 := Lib.hid h2
  have HF2 := Lib.hid hfr2
  have C3 : Hid (l.length + 1 ≤ maxLen) := by unfold Hid maxLen; omega
  have C4 : Hid ((l.length + 1) * 40 ≤ 140737488355328) := by unfold Hid; omega
  have C5 : Hid (b ≤ (V1.alloc (.cells #[.int .i64 k, .int .i64 a, .string ⟨t.toArray⟩, .int .u64 n] 33)).heap.size) := by unfold Hid; simp; omega
  have C1 : Hid (∀ u ∈ wdOne (⟨k, t, n⟩, a), u.oneCell' = true) := Lib.hid (wdOne_one _)
  clear h h1 h2 hfr hfr2
  go_wp2_with (at_builtin; refine wpList_append_own _ rfl _ _ 23 rfl b 33 i0 (.agg #[.int .i64 0, .int .i64 0, .string ⟨#[]⟩, .int .u64 0]) 4 40 Tryz.underlying23 hi hz0 hz1 hz2 rfl (by decide) _ _ _ rfl H2.out.2 ⟨V1.heap.size, 0, none⟩ 1 1 (wdOne (⟨k, t, n⟩, a)) rfl rfl (four_new _ _ _ _ _ _) C1.out C3.out C4.out C5.out ?_; intro v' w2 hown' hgrow _; obtain ⟨av, cv, rfl⟩ := owns_form hown'; obtain ⟨e1, e2, e3, e4⟩ := LBox.more (p := (⟨k, t, n⟩, a)) H2.out hL C5.out hgrow hown'; have E3 := Lib.hid e3; have E4 := Lib.hid e4; clear e3 e4 hown' hgrow c0)
  go_ret
  exact ⟨rfl, ⟨_, E3.out⟩, HF2.out.trans E4.out⟩
end Go.Proofs.YtimhhacfjgbomaaGreatDoor
namespace Go.Proofs.YtimhhacfjgbomaaGreatDoor
set_option linter.unusedSimpArgs false
set_option linter.unusedVariables false

/-- The words from here on, where no gap is. -/
def scanA (u : List UInt8) (a : Nat) : List (Wd × Nat) × Option Nat := match u with
  | [] => ([], none)
  | c :: r => match word1 (c :: r) with
    | none => ([], some a)
    | some (w, n) => ((w, a) :: (scan ((c :: r).drop n) (a + n)).1, (scan ((c :: r).drop n) (a + n)).2)
theorem scan_A (u : List UInt8) (a : Nat) : scan u a = if (skip u).2 = false then ([], some (a + (skip u).1)) else scanA (u.drop (skip u).1) (a + (skip u).1) := by
  rw [scan_eq]
  rfl
theorem scanA_nil (a : Nat) : scanA [] a = ([], none) := rfl
theorem scanA_bad {c : UInt8} {r : List UInt8} (a : Nat) (h : word1 (c :: r) = none) : scanA (c :: r) a = ([], some a) := by unfold scanA; simp only; rw [h]
theorem scanA_word {c : UInt8} {r : List UInt8} (a : Nat) {w : Wd} {n : Nat} (h : word1 (c :: r) = some (w, n)) :
    scanA (c :: r) a = ((w, a) :: (scan ((c :: r).drop n) (a + n)).1, (scan ((c :: r).drop n) (a + n)).2) := by unfold scanA; simp only; rw [h]
end Go.Proofs.YtimhhacfjgbomaaGreatDoor
namespace Go.Proofs.YtimhhacfjgbomaaGreatDoor
set_option linter.unusedSimpArgs false
set_option linter.unusedVariables false
open Go.RowKit Go.Shelf

/-- How step ends. -/
def StepE : Option Nat → Ending
  | none => .returned (.tuple #[])
  | some n => .panicked (refusedV n)
/-- What is known in the loop. -/
structure StI (L B b : Nat) (s : ByteArray) (w : World) (j : Nat) (acc : List (Wd × Nat)) (V : World) : Prop where
  rd : Rd V B s j
  box : ∃ v, LBox V L b acc v
  fr : Fr L B b w V
  len : acc.length ≤ j
  le : b ≤ V.heap.size
theorem StI.only {L B b : Nat} {s : ByteArray} {w : World} {j j' : Nat} {acc : List (Wd × Nat)} {V V' : World} (h : StI L B b s w j acc V) (hg : V.grownBy V' (some B)) (hr : Rd V' B s j') (hj : j ≤ j') (hL : L ≠ B) (hB : B < b) : StI L B b s w j' acc V' :=
  ⟨hr, h.box.imp fun v hv => hv.only hg hL hB, h.fr.trans (Fr.only hg h.le), Nat.le_trans h.len hj, Nat.le_trans h.le hg.size⟩
/-- What step leaves. -/
def StepQ (L B b : Nat) (ANS : List (Wd × Nat) × Option Nat) (w : World) (e : Ending) (w' : World) : Prop := e = StepE ANS.2 ∧ (∃ v, LBox w' L b ANS.1 v) ∧ Fr L B b w w'
theorem StI.lost {L B b : Nat} {s : ByteArray} {w : World} {j : Nat} {acc : List (Wd × Nat)} {V V' : World} (h : StI L B b s w j acc V) (hg : V.grownBy V' (some B)) (hL : L ≠ B) (hB : B < b) {n : Nat} {ANS : List (Wd × Nat) × Option Nat} (hA : ANS = (acc, some n)) : StepQ L B b ANS w (.panicked (refusedV n)) V' := by
  subst hA
  exact ⟨rfl, h.box.imp fun v hv => hv.only hg hL hB, h.fr.trans (Fr.only hg h.le)⟩
theorem StI.given {L B b : Nat} {s : ByteArray} {w : World} {j : Nat} {acc acc' : List (Wd × Nat)} {V V' : World} (h : StI L B b s w j acc V) (hb : ∃ v, LBox V' L b acc' v) (hf : Fr L L b V V') (hL : L ≠ B) (hB : B < b) (hj : acc'.length ≤ j) : StI L B b s w j acc' V' :=
  ⟨(hf.block B hB (fun e => hL e.symm) (fun e => hL e.symm)).trans h.rd, hb, h.fr.trans ⟨hf.os, hf.tape, hf.output, hf.size, fun k hk h1 _ => hf.block k hk h1 h1⟩, hj, Nat.le_trans h.le hf.size⟩

set_option maxRecDepth 100000 in
set_option maxHeartbeats 8000000 in
theorem step_any {n₀ : Nat} (L B b : Nat) (s : ByteArray) (w : World) (hb : b ≤ w.heap.size) (hs : s.size ≤ 1048576) (hR : Rd w B s 0) (hX : ∃ v, LBox w L b [] v) (hE : Env n₀ w) (hn : n₀ ≤ L) (hB : n₀ ≤ B) (hLB : L ≠ B) (hL : L < b) (hBb : B < b) :
    Calls Tryz.prog 82 #[.pointer (some ⟨B, 0, none⟩), .func (.func 58) #[] #[.pointer (some ⟨L, 0, none⟩)]] w (StepQ L B b (scan s.data.toList 0) w) := by
  have hI : StI L B b s w 0 [] w := ⟨hR, hX, Fr.refl _ _ _ _, by simp, hb⟩
  have HEnv : ∀ {V j acc}, StI L B b s w j acc V → Env n₀ V := fun h => hE.next (h.fr.toBelow hn hB (by omega))
  obtain ⟨ANS, hA⟩ : ∃ A, scan s.data.toList 0 = A := ⟨_, rfl⟩
  rw [hA]
  have hgap := gap_any B s 0 w (by omega) hs hR hE hB
  rw [List.drop_zero] at hgap
  rw [scan_A] at hA
  have HI := Lib.hid hI
  have HA := Lib.hid hA
  have HG := Lib.hid hgap
  have HE := Lib.hid hE
  have hskl := skip_le s.data.toList
  rw [sz] at hskl
  clear hI hA hgap hR hX hE
  obtain ⟨k0, hk0⟩ : ∃ k, (skip s.data.toList).1 = k := ⟨_, rfl⟩
  obtain ⟨ok, hok⟩ : ∃ k, (skip s.data.toList).2 = k := ⟨_, rfl⟩
  rw [hk0, hok] at HA HG
  rw [hk0] at hskl
  clear hk0 hok
  go_enter Tryz.func82, Tryz.ntmps82
  go_wp2_with fail
  refine HG.out.mono ?_
  clear HG
  rintro e w1 ⟨hg1, hq1⟩
  cases ok with
  | false =>
    obtain rfl : e = .panicked (refusedV (0 + k0)) := hq1
    have hQ := HI.out.lost (ANS := ANS) hg1 hLB hBb (n := 0 + k0) (by rw [← HA.out]; simp)
    have HQ := Lib.hid hQ
    clear hQ hg1 HA
    rw [Nat.zero_add] at HQ
    go_wp2_with fail
    exact ⟨rfl, HQ.out⟩
  | true =>
    obtain ⟨rfl, hr1⟩ : e = .returned (.tuple #[]) ∧ Rd w1 B s (0 + k0) := hq1
    have hI1 := HI.out.only hg1 hr1 (by omega) hLB hBb
    have HI1 := Lib.hid hI1
    have HA1 : Hid (scanA (s.data.toList.drop k0) k0 = ANS) := Lib.hid (by have := HA.out; simpa using this)
    rw [Nat.zero_add] at HI1
    clear hI1 hr1 hg1 HI HA
    go_wp2_with fail
    go_loopg [] (s.size - k0) (fun gk wr => ∃ (j : Nat) (acc : List (Wd × Nat)), gk = s.size - j ∧ j ≤ s.size ∧ StI L B b s w j acc wr ∧ (acc ++ (scanA (s.data.toList.drop j) j).1, (scanA (s.data.toList.drop j) j).2) = ANS)
    case atStart => exact ⟨k0, [], rfl, hskl, HI1.out, by simpa using HA1.out⟩
    case round =>
      obtain ⟨j, acc, rfl, hj, hI, hA1⟩ := hrel
      have HI := Lib.hid hI
      have HA2 := Lib.hid hA1
      clear hI hA1 HI1 HA1
      have r0 := HI.out.rd.s
      have r1 := HI.out.rd.at_
      rcases Nat.lt_or_ge j s.size with hlt | hge
      · have hdr := drop_at hlt
        have hW := fun (V : World) => word_any (n₀ := n₀) B s j V
        have HIq : ∀ n, Hid (StI L B b s w j acc (wr.drewN n)) := fun n => Lib.hid (HI.out.only (only_drewN (only_refl _ _) n) HI.out.rd (Nat.le_refl _) hLB hBb)
        have HDR := Lib.hid hdr
        have HW := Lib.hid hW
        clear hdr hW
        go_wp2_with fail
        go_quiet (fail)
        have HI2 := HIq nq
        clear HI HIq r0 r1
        generalize World.drewN wr nq = V1 at *
        have HW1 := Lib.hid (HW.out V1 hlt hs HI2.out.rd (HEnv HI2.out) hB)
        clear HW
        go_wp2_with fail
        refine HW1.out.mono ?_
        rintro e w2 ⟨hg2, hq2⟩
        clear HW1
        cases hw : word1 (s.data.toList.drop j) with
        | none =>
          rw [hw] at hq2
          obtain rfl : e = .panicked (refusedV j) := hq2
          have hQ := HI2.out.lost (ANS := ANS) hg2 hLB hBb (n := j) (by rw [← HA2.out, HDR.out, scanA_bad j (by rw [← HDR.out]; exact hw)]; simp)
          have HQ := Lib.hid hQ
          clear hQ hg2 HA2 hw HDR
          go_wp2_with fail
          exact ⟨rfl, HQ.out⟩
        | some p =>
          obtain ⟨wd, n⟩ := p
          rw [hw] at hq2
          obtain ⟨rfl, hr2⟩ := hq2
          have hn1 := word1_len hw
          rw [List.length_drop, sz] at hn1
          have hA3 := HA2.out
          rw [HDR.out, scanA_word j (by rw [← HDR.out]; exact hw), ← HDR.out, List.drop_drop] at hA3
          have HI3 := Lib.hid (HI2.out.only hg2 hr2 (by omega) hLB hBb)
          have hal := HI2.out.len
          have HA3 := Lib.hid hA3
          clear hA3 HA2 hg2 hr2 hw HDR HI2
          obtain ⟨v3, hv3⟩ := HI3.out.box
          have HGv := Lib.hid (give_any L b acc (wd, j) v3 w2 hv3 hL HI3.out.le (by omega))
          clear hv3
          simp only
          go_wp2_with fail
          refine HGv.out.mono ?_
          rintro e w3 ⟨rfl, hb3, hf3⟩
          have HI4 := Lib.hid (HI3.out.given hb3 hf3 hLB hBb (by simp; omega))
          clear HGv HI3 hb3 hf3
          have hgap := gap_any B s (j + n) w3 (by omega) hs HI4.out.rd (HEnv HI4.out) hB
          rw [scan_A] at HA3
          have hskl2 := skip_le (s.data.toList.drop (j + n))
          rw [List.length_drop, sz] at hskl2
          obtain ⟨k1, hk1⟩ : ∃ k, (skip (s.data.toList.drop (j + n))).1 = k := ⟨_, rfl⟩
          obtain ⟨ok, hok⟩ : ∃ k, (skip (s.data.toList.drop (j + n))).2 = k := ⟨_, rfl⟩
          rw [hk1, hok] at HA3 hgap
          rw [hk1] at hskl2
          rw [List.drop_drop] at HA3
          have HG := Lib.hid hgap
          clear hgap hk1 hok
          go_wp2_with fail
          refine HG.out.mono ?_
          clear HG
          rintro e w4 ⟨hg4, hq4⟩
          cases ok with
          | false =>
            obtain rfl : e = .panicked (refusedV (j + n + k1)) := hq4
            have hQ := HI4.out.lost (ANS := ANS) hg4 hLB hBb (n := j + n + k1) (by rw [← HA3.out]; simp)
            have HQ := Lib.hid hQ
            clear hQ hg4 HA3
            go_wp2_with fail
            exact ⟨rfl, HQ.out⟩
          | true =>
            obtain ⟨rfl, hr4⟩ : e = .returned (.tuple #[]) ∧ Rd w4 B s (j + n + k1) := hq4
            have HI5 := Lib.hid (HI4.out.only hg4 hr4 (by omega) hLB hBb)
            clear hr4 hg4 HI4
            go_wp2_with fail
            go_roundg (s.size - (j + n + k1))
            case measure => omega
            case rel => exact ⟨j + n + k1, acc ++ [(wd, j)], rfl, by omega, HI5.out, by rw [← HA3.out]; simp⟩
      · have hje : j = s.size := by omega
        have hd0 : s.data.toList.drop j = [] := List.drop_of_length_le (by rw [sz]; omega)
        have hA3 := HA2.out
        rw [hd0, scanA_nil] at hA3
        have HA3 := Lib.hid hA3
        have hd : decide (j < s.size) = false := by simp; omega
        clear hA3 HA2 hd0
        go_wp2_with fail
        go_quiet (fail)
        have HI2 := Lib.hid (HI.out.only (only_drewN (only_refl _ _) nq) HI.out.rd (Nat.le_refl _) hLB hBb)
        clear HI r0 r1
        generalize World.drewN wr nq = V1 at *
        go_wp2_with fail
        go_end0
        rw [← HA3.out]
        exact ⟨rfl, by simpa using HI2.out.box, HI2.out.fr⟩
end Go.Proofs.YtimhhacfjgbomaaGreatDoor
