/-
  THE WALK of read's deferred function: nothing where read returns; the place, ErrWord where a word was given up.
  THE WALK of read, as some calls it: the words, and where the first is that can't be read.
  THE WALK of some and Lex: all words of a text.
  WORDS IN MEMORY: a row of any words, read.
  TWO WORDS COMPARED, as the model compares them.
-/
import Derived.Test.YtimhhacfjgbomaaGreatDoorReader
import Derived.RangeFuncBox
import Derived.RangeFuncNested
import Derived.Defers
import Derived.Recover
import Derived.Test.YtimhhacfjgbomaaGreatDoorStepper
import Derived.Test.YtimhhacfjgbomaaGreatDoorWordsP
namespace Go.Proofs.YtimhhacfjgbomaaGreatDoor
set_option linter.unusedSimpArgs false
set_option linter.unusedVariables false
open Go.RowKit Go.Shelf

theorem any_nil (W : World) : (binOp .eql 20 .nilIface .nilIface).run Tryz.prog W = .ok (.bool true) W := by kernel_rfl
theorem any_not (W : World) (u : TypeId) (v : Value) : (binOp .eql 20 (.iface u v) .nilIface).run Tryz.prog W = .ok (.bool false) W := by kernel_rfl
theorem readD_idle (p q : Addr) (w : World) :
    CallsD Tryz.prog 81 #[.pointer (some p), .pointer (some q)] .returning w fun e u' w' => e = .returned (.tuple #[]) ∧ u' = .returning ∧ w' = w := by
  have hnn := any_nil
  refine callsD_of_wpS Tryz.func81 rfl fun c₀ cs hu => ?_
  apply wpS_seq
  apply wpS_region
  simp [wpOpsS, go_sem, recoverD, hu, Tryz.ntmps81, Exit.thenS, Array.replicate_succ]
  refine wpS_of_wp ?_
  go_wp2
  cases c₀
  simp_all [bodyPostS, results, Tryz.results81]
set_option maxRecDepth 100000 in
theorem readD_word (b L : Nat) (t t' : TypeId) (n : Nat) (x y : Value) (w : World) (hp : Boxed w b t x) (hq : Boxed w (b + 1) t' y) :
    CallsD Tryz.prog 81 #[.pointer (some ⟨b, 0, none⟩), .pointer (some ⟨b + 1, 0, none⟩)] (.panicking (refusedV n)) w fun e u' w' =>
      e = .returned (.tuple #[]) ∧ u' = .panicking [{ v := .iface 106 (.agg #[.int .i64 n]), recovered := true }] ∧
      w' = (((w.alloc (.cells #[.int .i64 n] 106)).setCell ⟨b, 0, none⟩ (.int .i64 n)).setCell ⟨b + 1, 0, none⟩ (.int .i64 130)) := by
  have hp1 := hp.alloc (.cells #[.int .i64 n] 106)
  have hq1 := hq.alloc (.cells #[.int .i64 n] 106)
  have c1 := hp1.cell
  have f1 := hp1.frozen
  have c2 := hq1.cell
  have f2 := hq1.frozen
  have hn1 := Boxed.new w 106 (.int .i64 n)
  have c3 := hn1.cell
  have f3 := hn1.frozen
  have hany := any_not
  have hta : ∀ w, (Instr.typeAssert (.iface 106 (.agg #[.int .i64 n])) 20 106 true).run Tryz.prog w = .ok (.tuple #[.agg #[.int .i64 n], .bool true]) w := fun _ => by kernel_rfl
  refine callsD_of_wpS Tryz.func81 rfl fun c₀ cs hu => ?_
  apply wpS_seq
  apply wpS_region
  simp [wpOpsS, go_sem, recoverD, hu, Tryz.ntmps81, Exit.thenS, Array.replicate_succ, refusedV]
  refine wpS_of_wp ?_
  go_wp2
  cases c₀
  simp_all [bodyPostS, results, Tryz.results81]
end Go.Proofs.YtimhhacfjgbomaaGreatDoor
namespace Go.Proofs.YtimhhacfjgbomaaGreatDoor
set_option linter.unusedSimpArgs false
set_option linter.unusedVariables false
open Go.RowKit Go.Shelf

/-- The words, the place, the error. -/
def lexR (s : ByteArray) : List (Wd × Nat) × Nat × Nat := if 1048576 < s.size then ([], 0, 3) else
  match (scan s.data.toList 0).2 with
  | none => ((scan s.data.toList 0).1, 0, 0)
  | some n => ((scan s.data.toList 0).1, n, 130)
theorem boxed_fr {L B b k : Nat} {t : TypeId} {v : Value} {w V : World} (h : Boxed w k t v) (hf : Fr L B b w V) (h1 : k < b) (h2 : k ≠ L) (h3 : k ≠ B) : Boxed V k t v := (hf.block k h1 h2 h3).trans h
theorem LBox.other {V : World} {L b k o : Nat} {l : List (Wd × Nat)} {v : Value} (h : LBox V L b l v) (hk : k ≠ L) (hb : k < b) (u : Value) : LBox (V.setCell ⟨k, o, none⟩ u) L b l v :=
  h.only (B := k) (only_setCell (only_refl V (some k)) (.inl rfl) u) (fun e => hk e.symm) hb
theorem LBox.mono {V : World} {L b b' : Nat} {l : List (Wd × Nat)} {v : Value} (h : LBox V L b l v) (hb : b' ≤ b) : LBox V L b' l v := ⟨h.1, h.2.mono hb⟩
/-- How read ends. -/
def ReadQ (L : Nat) (r : List (Wd × Nat) × Nat × Nat) (W : World) (e : Ending) (w' : World) : Prop :=
  e = .returned (.tuple #[.int .i64 r.2.1, .int .i64 r.2.2]) ∧ (∃ v, LBox w' L W.heap.size r.1 v) ∧ Fr L L W.heap.size W w'

set_option maxRecDepth 100000 in
set_option maxHeartbeats 4000000 in
theorem read_any {n₀ : Nat} (L : Nat) (s : ByteArray) (W : World) (hs : s.size ≤ 281474976710656) (hX : LBox W L W.heap.size [] (.slice none 0 0)) (hE : Env n₀ W) (hn : n₀ ≤ L) :
    Calls Tryz.prog 57 #[.string s, .func (.func 58) #[] #[.pointer (some ⟨L, 0, none⟩)]] W (ReadQ L (lexR s) W) := by
  have hmf : ∀ (fn : Fn) (first cap : Array Value) (w : World), (Instr.makeFunc fn first cap).run Tryz.prog w = .ok (.func fn first cap) w := fun _ _ _ _ => rfl
  have hL := hX.lt
  obtain ⟨b0, hb0⟩ : ∃ b, W.heap.size = b := ⟨_, rfl⟩
  have p1 := (Boxed.new W 3 (.int .i64 0)).alloc (.cells #[.int .i64 0] 24)
  have p2 := Boxed.new (W.alloc (.cells #[.int .i64 0] 3)) 24 (.int .i64 0)
  rw [World.size_alloc] at p2
  have hx1 := (hX.next (ballocR _ (.cells #[.int .i64 0] 3))).next (ballocR _ (.cells #[.int .i64 0] 24))
  have hfr := ((Fr.refl L L W.heap.size W).alloc (Nat.le_refl _) (.cells #[.int .i64 0] 3)).alloc (by simp) (.cells #[.int .i64 0] 24)
  have hsz : ((W.alloc (.cells #[.int .i64 0] 3)).alloc (.cells #[.int .i64 0] 24)).heap.size = b0 + 2 := by simp; omega
  have hE1 := (hE.below (ballocR _ (.cells #[.int .i64 0] 3))).below (ballocR _ (.cells #[.int .i64 0] 24))
  rw [hb0] at p1 p2 hx1 hfr hL
  have hx0 := (hX.next (ballocR _ (.cells #[.int .i64 0] 3))).next (ballocR _ (.cells #[.int .i64 3] 24))
  have hf0 := ((Fr.refl L L W.heap.size W).alloc (Nat.le_refl _) (.cells #[.int .i64 0] 3)).alloc (by simp) (.cells #[.int .i64 3] 24)
  rw [hb0] at hx0 hf0
  clear hX hE
  obtain ⟨R, hR⟩ : ∃ R, lexR s = R := ⟨_, rfl⟩
  rw [hR]
  unfold ReadQ
  rw [hb0]
  by_cases hlong : 1048576 < s.size
  · have hR2 : R = ([], 0, 3) := by rw [← hR]; unfold lexR; rw [if_pos hlong]
    subst hR2
    have hlz : decide ((1048576 : Int) < s.size) = true := by simp; omega
    have q1 := (Boxed.new W 3 (.int .i64 0)).alloc (.cells #[.int .i64 3] 24)
    have q2 := Boxed.new (W.alloc (.cells #[.int .i64 0] 3)) 24 (.int .i64 3)
    rw [World.size_alloc] at q2
    rw [hb0] at q1 q2
    have HX : Hid (∃ v, LBox ((W.alloc (.cells #[.int .i64 0] 3)).alloc (.cells #[.int .i64 3] 24)) L b0 [] v) := Lib.hid ⟨.slice none 0 0, hx0⟩
    have HF := Lib.hid hf0
    have HQ := Lib.hid (And.intro q1 q2)
    clear p1 p2 hx1 hfr hR hE1 hsz q1 q2
    go_enter_defers Tryz.func57, Tryz.ntmps57
    go_wp2_with fail
    refine ⟨.tuple #[.int .i64 0, .int .i64 3], ?_, rfl, HX.out, HF.out⟩
    simp [results, Tryz.results57, go_sem, HQ.out.1.cell, HQ.out.2.cell]
  · have hlz : decide ((1048576 : Int) < s.size) = false := by simp; omega
    have hle : s.size ≤ 1048576 := by omega
    have hR1 : R = match (scan s.data.toList 0).2 with | none => ((scan s.data.toList 0).1, 0, 0) | some n => ((scan s.data.toList 0).1, n, 130) := by rw [← hR]; unfold lexR; rw [if_neg hlong]
    have p3 := p1.alloc (.cells #[.string s, .int .i64 0] 94)
    have p4 := p2.alloc (.cells #[.string s, .int .i64 0] 94)
    have hx3 := hx1.next (ballocR _ (.cells #[.string s, .int .i64 0] 94))
    have hfr3 := hfr.alloc (by omega) (.cells #[.string s, .int .i64 0] 94)
    have hE3 := hE1.below (ballocR _ (.cells #[.string s, .int .i64 0] 94))
    have hrd : Rd (((W.alloc (.cells #[.int .i64 0] 3)).alloc (.cells #[.int .i64 0] 24)).alloc (.cells #[.string s, .int .i64 0] 94)) (b0 + 2) s 0 := by
      have := new_at ((W.alloc (.cells #[.int .i64 0] 3)).alloc (.cells #[.int .i64 0] 24)) (.cells #[.string s, .int .i64 0] 94)
      rw [hsz] at this
      exact this
    have hsz3 : (((W.alloc (.cells #[.int .i64 0] 3)).alloc (.cells #[.int .i64 0] 24)).alloc (.cells #[.string s, .int .i64 0] 94)).heap.size = b0 + 3 := by rw [World.size_alloc, hsz]
    have hst := step_any L (b0 + 2) (b0 + 3) s _ (by omega) hle hrd ⟨_, hx3.1, World.ownsRow_nil _ _ _ _⟩ hE3 hn (by have := hE3.le; omega) (by omega) (by omega) (by omega)
    obtain ⟨sc, hsc⟩ : ∃ sc, scan s.data.toList 0 = sc := ⟨_, rfl⟩
    rw [hsc] at hst hR1
    have HST := Lib.hid hst
    have HP := Lib.hid (And.intro p3 p4)
    have HF := Lib.hid hfr3
    have HR1 := Lib.hid hR1
    have HSZ := Lib.hid hsz
    clear hst hx0 hf0 p1 p2 p3 p4 hx1 hx3 hfr hfr3 hE1 hE3 hrd hR hR1 hsc hsz3 hlong
    go_enter_defers Tryz.func57, Tryz.ntmps57
    go_wp2_with fail
    refine HST.out.mono ?_
    generalize ((W.alloc (.cells #[.int .i64 0] 3)).alloc (.cells #[.int .i64 0] 24)).alloc (.cells #[.string s, .int .i64 0] 94) = V at *
    rintro e w1 ⟨he, hbx, hf1⟩
    have r1 := boxed_fr HP.out.1 hf1 (by omega) (by omega) (by omega)
    have r2 := boxed_fr HP.out.2 hf1 (by omega) (by omega) (by omega)
    obtain ⟨l, o⟩ := sc
    have hfr : Fr L L b0 W w1 := HF.out.trans ⟨hf1.os, hf1.tape, hf1.output, hf1.size, fun k hk h1 _ => hf1.block k (by omega) h1 (by omega)⟩
    obtain ⟨v, hv⟩ := hbx
    have hv2 : LBox w1 L b0 l v := hv.mono (by omega)
    clear HST HF hf1 HP
    cases o with
    | none =>
      obtain rfl : e = .returned (.tuple #[]) := he
      obtain rfl : R = (l, 0, 0) := HR1.out
      have c1 := r1.cell
      have f1 := r1.frozen
      have c2 := r2.cell
      have f2 := r2.frozen
      have q1 := (r1.set (.int .i64 0)).other (B' := b0 + 1) (by omega) (.int .i64 0)
      have q2 := (r2.other (B' := b0) (by omega) (.int .i64 0)).set (.int .i64 0)
      have HX : Hid (∃ v, LBox ((w1.setCell ⟨b0, 0, none⟩ (.int .i64 0)).setCell ⟨b0 + 1, 0, none⟩ (.int .i64 0)) L b0 l v) :=
        Lib.hid ⟨v, ((hv.other (k := b0) (o := 0) (by omega) (by omega) (.int .i64 0)).other (k := b0 + 1) (o := 0) (by omega) (by omega) (.int .i64 0)).mono (by omega)⟩
      have HF := Lib.hid ((hfr.set (p := ⟨b0, 0, none⟩) (by simp) (.int .i64 0)).set (p := ⟨b0 + 1, 0, none⟩) (by simp) (.int .i64 0))
      have HQ := Lib.hid (And.intro q1 q2)
      clear r1 r2 q1 q2 hv hv2 hfr HR1
      go_wp2_with fail
      refine leaves_cons (f := 81) (args := #[.pointer (some ⟨b0, 0, none⟩), .pointer (some ⟨b0 + 1, 0, none⟩)]) (by simp) (by simp [go_sem]) ?_
      refine (readD_idle _ _ _).mono ?_
      rintro e u' w'' ⟨rfl, rfl, rfl⟩
      refine ⟨.tuple #[.int .i64 0, .int .i64 0], ?_, rfl, HX.out, HF.out⟩
      simp [results, Tryz.results57, go_sem, HQ.out.1.cell, HQ.out.2.cell]
    | some n =>
      obtain rfl : e = .panicked (refusedV n) := he
      obtain rfl : R = (l, n, 130) := HR1.out
      have h1 := r1.alloc (.cells #[.int .i64 n] 106)
      have h2 := r2.alloc (.cells #[.int .i64 n] 106)
      have q1 := (h1.set (.int .i64 n)).other (B' := b0 + 1) (by omega) (.int .i64 130)
      have q2 := (h2.other (B' := b0) (by omega) (.int .i64 n)).set (.int .i64 130)
      have hv3 := hv.next (ballocR w1 (.cells #[.int .i64 n] 106))
      have HX : Hid (∃ v, LBox (((w1.alloc (.cells #[.int .i64 n] 106)).setCell ⟨b0, 0, none⟩ (.int .i64 n)).setCell ⟨b0 + 1, 0, none⟩ (.int .i64 130)) L b0 l v) :=
        Lib.hid ⟨v, ((hv3.other (k := b0) (o := 0) (by omega) (by omega) (.int .i64 n)).other (k := b0 + 1) (o := 0) (by omega) (by omega) (.int .i64 130)).mono (by omega)⟩
      have hwz : b0 ≤ w1.heap.size := by have := hfr.size; omega
      have HF := Lib.hid (((hfr.alloc hwz (.cells #[.int .i64 n] 106)).set (p := ⟨b0, 0, none⟩) (by simp) (.int .i64 n)).set (p := ⟨b0 + 1, 0, none⟩) (by simp) (.int .i64 130))
      have HQ := Lib.hid (And.intro q1 q2)
      have HRR := Lib.hid (And.intro r1 r2)
      clear r1 r2 h1 h2 q1 q2 hv hv2 hv3 hfr HR1
      go_wp2_with fail
      refine leaves_cons (f := 81) (args := #[.pointer (some ⟨b0, 0, none⟩), .pointer (some ⟨b0 + 1, 0, none⟩)]) (by simp) (by simp [go_sem]) ?_
      refine (readD_word b0 L _ _ n _ _ _ HRR.out.1 HRR.out.2).mono ?_
      rintro e u' w'' ⟨rfl, rfl, rfl⟩
      refine ⟨.tuple #[.int .i64 n, .int .i64 130], ?_, rfl, HX.out, HF.out⟩
      simp [results, Tryz.results57, go_sem, HQ.out.1.cell, HQ.out.2.cell]
end Go.Proofs.YtimhhacfjgbomaaGreatDoor
namespace Go.Proofs.YtimhhacfjgbomaaGreatDoor
set_option linter.unusedSimpArgs false
set_option linter.unusedVariables false
open Go.RowKit Go.Shelf

/-- A list of words, its place, its error, made by the call. -/
def SomeQ (r : List (Wd × Nat) × Nat × Nat) (W : World) (e : Ending) (w' : World) : Prop :=
  ∃ v, e = .returned (.tuple #[v, .int .i64 r.2.1, .int .i64 r.2.2]) ∧ w'.ownsRow W.heap.size 33 4 v r.1.length (wdCells r.1) ∧ Below W.heap.size W w'

set_option maxRecDepth 100000 in
set_option maxHeartbeats 4000000 in
theorem some_any {n₀ : Nat} (s : ByteArray) (W : World) (hs : s.size ≤ 281474976710656) (hE : Env n₀ W) :
    Calls Tryz.prog 31 #[.string s] W (SomeQ (lexR s) W) := by
  have hmf : ∀ (fn : Fn) (first cap : Array Value) (w : World), (Instr.makeFunc fn first cap).run Tryz.prog w = .ok (.func fn first cap) w := fun _ _ _ _ => rfl
  have hle := hE.le
  have hX : LBox (W.alloc (.cells #[.slice none 0 0] 23)) W.heap.size (W.alloc (.cells #[.slice none 0 0] 23)).heap.size [] (.slice none 0 0) := ⟨new_at W _, World.ownsRow_nil _ _ _ _⟩
  have hR := read_any W.heap.size s _ hs hX (hE.below (ballocR W _)) hle
  generalize lexR s = R at *
  have HR := Lib.hid hR
  have hsz : W.heap.size + 1 = (W.alloc (.cells #[.slice none 0 0] 23)).heap.size := by simp
  clear hX hR hE
  go_enter Tryz.func31, Tryz.ntmps31
  go_wp2_with fail
  refine HR.out.mono ?_
  rintro e w1 ⟨rfl, ⟨v, hv⟩, hf⟩
  have hb1 : Below W.heap.size W w1 := (ballocR W _).trans (hf.toBelow (Nat.le_refl _) (Nat.le_refl _) (by omega))
  obtain ⟨av, cv, rfl⟩ := owns_form hv.2
  have c0 := hv.cell
  have HV := Lib.hid (hv.mono (b' := W.heap.size) (by omega)).2
  have HB := Lib.hid hb1
  clear HR hv hf hb1
  go_wp2_with fail
  exact bodyPost_ret (v := .tuple #[.slice av R.1.length cv, .int .i64 R.2.1, .int .i64 R.2.2]) (by simp [results, Tryz.results31, go_sem]) rfl ⟨_, rfl, HV.out, HB.out⟩
/-- What Lex answers. -/
def lexL (s : ByteArray) : List (Wd × Nat) × Nat × Nat := if (lexR s).2.2 = 0 then ((lexR s).1, 0, 0) else ([], (lexR s).2.1, (lexR s).2.2)
set_option maxRecDepth 100000 in
set_option maxHeartbeats 4000000 in
theorem lex_any {n₀ : Nat} (s : ByteArray) (W : World) (hs : s.size ≤ 281474976710656) (hE : Env n₀ W) :
    Calls Tryz.prog 12 #[.string s] W (SomeQ (lexL s) W) := by
  have hR := some_any s W hs hE
  unfold lexL
  generalize lexR s = R at *
  obtain ⟨l, a, e⟩ := R
  simp only
  have HR := Lib.hid hR
  clear hR hE
  by_cases he : e = 0
  · subst he
    rw [if_pos rfl]
    go_enter Tryz.func12, Tryz.ntmps12
    go_wp2_with fail
    refine HR.out.mono ?_
    rintro e w1 ⟨v, rfl, ho, hb⟩
    obtain ⟨av, cv, rfl⟩ := owns_form ho
    have HO := Lib.hid ho
    clear HR ho
    go_wp2_with fail
    exact bodyPost_ret (v := .tuple #[.slice av l.length cv, .int .i64 0, .int .i64 0]) (by simp [results, Tryz.results12, go_sem]) rfl ⟨_, rfl, HO.out, hb⟩
  · rw [if_neg he]
    have hez : ((e : Int) != 0) = true := by simp; omega
    go_enter Tryz.func12, Tryz.ntmps12
    go_wp2_with fail
    refine HR.out.mono ?_
    rintro e w1 ⟨v, rfl, ho, hb⟩
    obtain ⟨av, cv, rfl⟩ := owns_form ho
    clear HR ho
    go_wp2_with fail
    exact bodyPost_ret (v := .tuple #[.slice none 0 0, .int .i64 a, .int .i64 e]) (by simp [results, Tryz.results12, go_sem]) rfl ⟨_, rfl, World.ownsRow_nil _ _ _ _, hb⟩
end Go.Proofs.YtimhhacfjgbomaaGreatDoor
namespace Go.Proofs.YtimhhacfjgbomaaGreatDoor
set_option linter.unusedSimpArgs false
set_option linter.unusedVariables false
open Go.RowKit Go.Shelf

def Gw.val (g : Gw) : Value := .agg #[.int .i64 g.k, .int .i64 g.p, .string g.t, .int .u64 g.n]
def Gw.one (g : Gw) : List Value := [.int .i64 g.k, .int .i64 g.p, .string g.t, .int .u64 g.n]
/-- A word's cells, at a place. -/
structure Gw.At (g : Gw) (w : World) (b o : Nat) : Prop where
  k : w.cell? ⟨b, o, none⟩ = some (.int .i64 g.k)
  p : w.cell? ⟨b, o + 1, none⟩ = some (.int .i64 g.p)
  t : w.cell? ⟨b, o + 2, none⟩ = some (.string g.t)
  n : w.cell? ⟨b, o + 3, none⟩ = some (.int .u64 g.n)
theorem Gw.At.lt {g : Gw} {w : World} {b o : Nat} (h : g.At w b o) : b < w.heap.size := World.block_lt_of_cell? w ⟨b, o, none⟩ h.k
theorem Gw.At.below {g : Gw} {w w' : World} {b o : Nat} (h : g.At w b o) (hb : Below w.heap.size w w') : g.At w' b o :=
  ⟨(hb.cell (p := ⟨b, o, none⟩) h.lt).trans h.k, (hb.cell (p := ⟨b, o + 1, none⟩) h.lt).trans h.p, (hb.cell (p := ⟨b, o + 2, none⟩) h.lt).trans h.t, (hb.cell (p := ⟨b, o + 3, none⟩) h.lt).trans h.n⟩
/-- A row of words. -/
def Gws (w : World) (a : Option Addr) (l : List Gw) : Prop := l = [] ∨ ∃ b o, a = some ⟨b, o, none⟩ ∧ ∀ (i : Nat) (g : Gw), l[i]? = some g → g.At w b (o + i * 4)
theorem Gws.get {w : World} {a : Option Addr} {l : List Gw} (h : Gws w a l) {i : Nat} (hi : i < l.length) : ∃ g b o, l[i]? = some g ∧ a = some ⟨b, o, none⟩ ∧ g.At w b (o + i * 4) := by
  rcases h with rfl | ⟨b, o, rfl, h⟩
  · simp at hi
  · exact ⟨l[i], b, o, List.getElem?_eq_getElem hi, rfl, h i _ (List.getElem?_eq_getElem hi)⟩
theorem Gws.below {w w' : World} {a : Option Addr} {l : List Gw} (h : Gws w a l) (hb : Below w.heap.size w w') : Gws w' a l := by
  rcases h with h | ⟨b, o, rfl, h⟩
  · exact .inl h
  · exact .inr ⟨b, o, rfl, fun i g hg => (h i g hg).below hb⟩
theorem Gws.kept {n : Nat} {w w1 w2 : World} {a : Option Addr} {l : List Gw} (h : Gws w a l) (hb : Below w.heap.size w w1) (hc : Below w1.heap.size w1 w2) : Gws w2 a l := h.below (hb.trans (hc.mono hb.size))
theorem wdOne_gw (p : Wd × Nat) : wdOne p = (gwOf p).one := rfl
/-- The words that a call has made. -/
theorem gws_owns {w : World} {base : Nat} {e : TypeId} {v : Value} {l : List (Wd × Nat)} (h : w.ownsRow base e 4 v l.length (wdCells l)) :
    ∃ a cap, v = .slice a l.length cap ∧ Gws w a (l.map gwOf) := by
  have h2 := h
  rcases h.2 with ⟨rfl, h0⟩ | ⟨g, cap, cur, rfl, hb, hh, hnc, hcm, hcs, ht⟩
  · have : l = [] := List.eq_nil_of_length_eq_zero h0
    subst this
    exact ⟨none, 0, rfl, .inl rfl⟩
  · refine ⟨some ⟨g, 0, none⟩, cap, rfl, .inr ⟨g, 0, rfl, fun i x hx => ?_⟩⟩
    rw [List.getElem?_map] at hx
    obtain ⟨p, hp, rfl⟩ := Option.map_eq_some_iff.1 hx
    have hc : ∀ (j : Nat) (u : Value), j < 4 → (wdOne p)[j]? = some u → w.cell? ⟨g, 0 + i * 4 + j, none⟩ = some u := fun j u hj hu => by
      have := h2.cells (g := g) rfl (i * 4 + j) u (by rw [wdCells_at l i p hp j hj]; exact hu)
      rw [Addr.add_lit] at this
      rw [show 0 + i * 4 + j = 0 + (i * 4 + j) by omega]
      exact this
    exact ⟨hc 0 _ (by omega) rfl, hc 1 _ (by omega) rfl, hc 2 _ (by omega) rfl, hc 3 _ (by omega) rfl⟩
/-- A word in a block of its own. -/
theorem gw_new {w : World} (g : Gw) (t : TypeId) : g.At (w.alloc (.cells #[.int .i64 g.k, .int .i64 g.p, .string g.t, .int .u64 g.n] t)) w.heap.size 0 := by
  have h := new_at w (.cells #[.int .i64 g.k, .int .i64 g.p, .string g.t, .int .u64 g.n] t)
  refine ⟨?_, ?_, ?_, ?_⟩ <;> (rw [Lib.cell_of_heap h]; rfl)
theorem gws_one {w : World} {b : Nat} {g : Gw} (h : g.At w b 0) : Gws w (some ⟨b, 0, none⟩) [g] := .inr ⟨b, 0, rfl, fun i x hx => by
  cases i with
  | zero => cases hx; exact h
  | succ i => simp at hx⟩
end Go.Proofs.YtimhhacfjgbomaaGreatDoor
namespace Go.Proofs.YtimhhacfjgbomaaGreatDoor
set_option linter.unusedSimpArgs false
set_option linter.unusedVariables false
open Go.RowKit Go.Shelf

def Gw.eqB (a b : Gw) : Bool := decide (a.k = b.k) && (decide (a.p = b.p) && (decide (a.t = b.t) && decide (a.n = b.n)))
theorem ba_dec (t t' : ByteArray) : decide (t = t') = decide (t.toList = t'.toList) := decide_eq_decide.2 ⟨fun e => by rw [e], fun e => by rw [ByteArray.toList_eq, ByteArray.toList_eq] at e; exact ba_ext e⟩
theorem nat_dec (n m : Nat) : decide (n = m) = decide ((n : Int) = m) := decide_eq_decide.2 (by omega)
set_option maxHeartbeats 1000000 in
theorem word_eq (k p : Int) (t : ByteArray) (n : Nat) (k' p' : Int) (t' : ByteArray) (n' : Nat) (w : World) :
    (binOp .eql 33 (.agg #[.int .i64 k, .int .i64 p, .string t, .int .u64 n]) (.agg #[.int .i64 k', .int .i64 p', .string t', .int .u64 n'])).run Tryz.prog w = .ok (.bool (Gw.eqB ⟨k, p, t, n⟩ ⟨k', p', t', n'⟩)) w := by
  unfold Gw.eqB
  simp only
  rw [ba_dec, nat_dec]
  by_cases h1 : k = k'
  · by_cases h2 : p = p'
    · by_cases h3 : t.toList = t'.toList
      · by_cases h4 : (n : Int) = n'
        · go_simp
        · go_simp
      · go_simp
    · go_simp
  · go_simp
end Go.Proofs.YtimhhacfjgbomaaGreatDoor
