/-
  A DATUM OPENED: what the row's reading of a list of words tells: words in memory, and their bounds.
-/
import Derived.Test.YtimhhacfjgbomaaGreatDoorReads
import Derived.Deep.Fields
import Derived.Deep.Slices
import Derived.ChangeArms
import Derived.OpenShut
namespace Go.Proofs.YtimhhacfjgbomaaGreatDoor
set_option linter.unusedSimpArgs false
set_option linter.unusedVariables false
open Go.RowKit Go.Shelf Go.ChangeShapes Go.WideShapes Go.Deep

set_option maxRecDepth 100000
variable {H : Type} {enc : TypeId × Value → H} {w : World} {spare : Nat → Bool} {held : Bool}

/-- No part of it is longer than the form's reach. -/
def Gw.Fit (g : Gw) : Prop := g.t.size ≤ 140737488351232 ∧ g.n < 18446744073709551616
theorem u64_wf {n : Int} (h : (Lit.int .u64 n).wf = true) : 0 ≤ n ∧ n < 18446744073709551616 := by
  have := Go.bounds_u64 h
  omega
theorem open_word {fuel : Nat} {cs : List Value} {x : DataW H × List MemPlace} (h : DataW.trod enc Tryz.prog w 0 spare held fuel 33 cs = some x) (hw : ∀ m ∈ x.1.weights Tryz.prog 33, m ≤ reachBytes) :
    ∃ g : Gw, cs = g.one ∧ g.Fit := by
  obtain ⟨xs, n, hn, hx, hl, hlen, hg⟩ := DataW.trod_struct Tryz.underlying33 h
  have hC : Tryz.prog.cellsOf 33 = 4 := by kernel_rfl
  rw [hC] at hl
  have c0 : Tryz.prog.cellsOf 30 = 1 := by kernel_rfl
  have c1 : Tryz.prog.cellsOf 3 = 1 := by kernel_rfl
  have c2 : Tryz.prog.cellsOf 9 = 1 := by kernel_rfl
  have c3 : Tryz.prog.cellsOf 31 = 1 := by kernel_rfl
  match cs, hl with
  | [v0, v1, v2, v3], _ =>
    match xs, hlen with
    | [y0, y1, y2, y3], _ =>
      have g0 : DataW.trod enc Tryz.prog w 0 spare held n 30 [v0] = some y0 := by simpa [c0] using hg 0 _ rfl
      have g1 : DataW.trod enc Tryz.prog w 0 spare held n 3 [v1] = some y1 := by simpa [c1] using hg 1 _ rfl
      have g2 : DataW.trod enc Tryz.prog w 0 spare held n 9 [v2] = some y2 := by simpa [c2] using hg 2 _ rfl
      have g3 : DataW.trod enc Tryz.prog w 0 spare held n 31 [v3] = some y3 := by simpa [c3] using hg 3 _ rfl
      obtain ⟨k, e0, _, _⟩ := DataW.trod_int Tryz.underlying30 g0
      obtain ⟨p, e1, _, _⟩ := DataW.trod_int Tryz.underlying3 g1
      obtain ⟨t, e2, hy2, _⟩ := DataW.trod_string Tryz.underlying9 g2
      obtain ⟨z, e3, _, hz⟩ := DataW.trod_int Tryz.underlying31 g3
      simp only [List.cons.injEq, and_true] at e0 e1 e2 e3
      subst e0; subst e1; subst e2; subst e3
      obtain ⟨z0, z1⟩ := u64_wf hz
      obtain ⟨zn, rfl⟩ : ∃ zn : Nat, z = zn := ⟨z.toNat, by omega⟩
      refine ⟨⟨k, p, t, zn⟩, rfl, ?_, by show zn < _; omega⟩
      rw [hx] at hw
      unfold DataW.weights at hw
      rw [Tryz.underlying33] at hw
      simp only [List.map_cons, List.map_nil, DataW.weightsEach, List.mem_append] at hw
      have := hw t.data.toList.length (.inr (.inr (.inl (by rw [hy2]; simp [DataW.weights]))))
      rw [Array.length_toList] at this
      exact this
theorem words_weights : ∀ {l : List (DataW H)}, (∀ m ∈ DataW.weightsAll Tryz.prog 33 l, m ≤ reachBytes) → ∀ d ∈ l, ∀ m ∈ d.weights Tryz.prog 33, m ≤ reachBytes
  | [], _, s, hs => by cases hs
  | d :: r, h, s, hs => by
    simp only [DataW.weightsAll, List.mem_append] at h
    rcases List.mem_cons.1 hs with rfl | hs
    · exact fun m hm => h m (.inl hm)
    · exact words_weights (fun m hm => h m (.inr hm)) s hs
theorem cells_four {a : Addr} {cs : List Value} {g : Gw} (h : w.cells? 0 a 4 = some cs) (hcs : cs = g.one) : ∃ b o, a = ⟨b, o, none⟩ ∧ g.At w b o := by
  obtain ⟨_, _, hat⟩ := World.cells?_some h
  subst hcs
  have e0 := hat (i := 0) (by omega); have e1 := hat (i := 1) (by omega); have e2 := hat (i := 2) (by omega); have e3 := hat (i := 3) (by omega)
  simp only [Gw.one, List.getElem?_cons_zero, List.getElem?_cons_succ] at e0 e1 e2 e3
  obtain ⟨b, o, sp⟩ := a
  have hsp : sp = none := by simpa [Addr.add] using World.cell?_spot e0
  subst hsp
  simp only [Addr.add_lit, Nat.add_zero] at e0 e1 e2 e3
  exact ⟨b, o, rfl, ⟨e0, e1, e2, e3⟩⟩
/-- What is known of a list of words that came in. -/
def CameW (w : World) (v : Value) (a : Option Addr) (n c : Nat) (l : List Gw) : Prop :=
  v = .slice a n c ∧ n = l.length ∧ n ≤ 140737488351232 ∧ Gws w a l ∧ ∀ g ∈ l, g.Fit
theorem open_words {fuel : Nat} {v : Value} {y : DataW H × List MemPlace} (h : DataW.trod enc Tryz.prog w 0 (fun _ => true) held fuel 23 [v] = some y) (hw : ∀ m ∈ y.1.weights Tryz.prog 23, m ≤ reachBytes) : ∃ a n c l, CameW w v a n c l := by
  have hC : Tryz.prog.cellsOf 33 = 4 := by kernel_rfl
  have hB : Tryz.prog.bytesOf 33 = 40 := by kernel_rfl
  rcases DataW.trod_slice Tryz.underlying23 h with ⟨h0, _⟩ | ⟨a, len, cap, elems, rest, n, hfn, h0, hx, hb, hl, hm, hlen, hel, hsp, _⟩
  · obtain rfl : v = .slice none 0 0 := by simpa using h0
    exact ⟨none, 0, 0, [], rfl, rfl, by omega, .inl rfl, by simp⟩
  · obtain rfl : v = .slice (some a) len cap := by simpa using h0
    rw [hx] at hw
    unfold DataW.weights at hw
    rw [Tryz.underlying23] at hw
    have h1 := hw _ (List.mem_cons_self ..)
    have h2 : ∀ m ∈ DataW.weightsAll Tryz.prog 33 (elems.map (·.1)), m ≤ reachBytes := fun m hm => hw m (by simp [hm])
    rw [hB] at h1
    simp only [List.length_map, reachBytes] at h1
    have key : ∀ i, i < len → ∃ g : Gw, ∃ b o, a.add (i * 4) = ⟨b, o, none⟩ ∧ g.At w b o ∧ g.Fit := fun i hi => by
      have he := hel i hi
      rw [hC, List.getElem?_eq_getElem (by omega)] at he
      obtain ⟨cs', g1, g2⟩ := Option.bind_eq_some_iff.1 he
      obtain ⟨g, k1, k2⟩ := open_word g2 (words_weights h2 _ (List.mem_map.2 ⟨_, List.getElem_mem _, rfl⟩))
      obtain ⟨b, o, e1, e2⟩ := cells_four g1 k1
      exact ⟨g, b, o, e1, e2, k2⟩
    by_cases hl0 : len = 0
    · subst hl0
      exact ⟨some a, 0, cap, [], rfl, rfl, by omega, .inl rfl, by simp⟩
    · haveI : Inhabited Gw := ⟨⟨0, 0, ByteArray.empty, 0⟩⟩
      obtain ⟨f, hf⟩ := choose_lt key
      obtain ⟨b, o, e0, _⟩ := hf 0 (by omega)
      obtain ⟨ab, ao, asp⟩ := a
      have hA : asp = none := by have := congrArg Addr.spot e0; simpa [Addr.add] using this
      subst hA
      refine ⟨_, len, cap, (List.range len).map f, rfl, by simp, by omega, .inr ⟨_, _, rfl, fun i g hg => ?_⟩, fun g hg => ?_⟩
      · rw [List.getElem?_map] at hg
        obtain ⟨j, hj, rfl⟩ := Option.map_eq_some_iff.1 hg
        obtain ⟨hj1, hj2⟩ := List.getElem?_eq_some_iff.1 hj
        simp at hj1 hj2
        subst hj2
        obtain ⟨b', o', g0, g1, _⟩ := hf i hj1
        simp only [Addr.add_lit, Addr.mk.injEq] at g0
        obtain ⟨rfl, rfl, _⟩ := g0
        exact g1
      · obtain ⟨j, hj, rfl⟩ := List.mem_map.1 hg
        obtain ⟨_, _, _, _, g⟩ := hf j (by simpa using hj)
        exact g
end Go.Proofs.YtimhhacfjgbomaaGreatDoor
