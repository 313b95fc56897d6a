/-
  A DATUM OPENED: what the row's reading of a value tells: a value in memory, and its bounds.
-/
import Derived.Test.YtlokoepljmlcgaaDoorGood
import Derived.Deep.Fields
import Derived.Deep.Slices
import Derived.SliceStrings
import Derived.ChangeArms
namespace Go.Proofs.YtlokoepljmlcgaaDoor
set_option linter.unusedSimpArgs false
set_option linter.unusedVariables false
open Go.RowKit Go.Shelf Go.ChangeShapes Go.WideShapes Go.Deep

/-- No part of it is longer than the form's reach. -/
structure Nd.Fit (x : Nd) : Prop where
  t : x.t.size ≤ 140737488351232
  kl : x.kl ≤ 140737488351232
  ll : x.ll ≤ 140737488351232
  ks : ∀ s ∈ x.ks, s.size ≤ 140737488351232
def Fo.Fit : Fo → Prop
  | .nil => True
  | .cons x c r => x.Fit ∧ c.Fit ∧ r.Fit

set_option maxRecDepth 100000
variable {H : Type} {enc : TypeId × Value → H} {w : World} {spare : Nat → Bool} {held : Bool}

theorem six_parts {fuel : Nat} {cs : List Value} {x : DataW H × List MemPlace} (h : DataW.trod enc Tryd.prog w 0 spare held fuel 30 cs = some x) :
    ∃ (v0 v1 v2 v3 v4 v5 : Value) (y0 y1 y2 y3 y4 y5 : DataW H × List MemPlace) (n : Nat), fuel = n + 1 ∧ cs = [v0, v1, v2, v3, v4, v5] ∧ x.1 = .agg [y0.1, y1.1, y2.1, y3.1, y4.1, y5.1] ∧
      DataW.trod enc Tryd.prog w 0 spare held n 26 [v0] = some y0 ∧ DataW.trod enc Tryd.prog w 0 spare held n 4 [v1] = some y1 ∧ DataW.trod enc Tryd.prog w 0 spare held n 2 [v2] = some y2 ∧ DataW.trod enc Tryd.prog w 0 spare held n 9 [v3] = some y3 ∧ DataW.trod enc Tryd.prog w 0 spare held n 27 [v4] = some y4 ∧ DataW.trod enc Tryd.prog w 0 spare held n 28 [v5] = some y5 := by
  obtain ⟨xs, n, hn, hx, hl, hlen, hg⟩ := DataW.trod_struct Tryd.underlying30 h
  have hC : Tryd.prog.cellsOf 30 = 6 := by kernel_rfl
  rw [hC] at hl
  have c0 : Tryd.prog.cellsOf 26 = 1 := by kernel_rfl
  have c1 : Tryd.prog.cellsOf 4 = 1 := by kernel_rfl
  have c2 : Tryd.prog.cellsOf 2 = 1 := by kernel_rfl
  have c3 : Tryd.prog.cellsOf 9 = 1 := by kernel_rfl
  have c4 : Tryd.prog.cellsOf 27 = 1 := by kernel_rfl
  have c5 : Tryd.prog.cellsOf 28 = 1 := by kernel_rfl
  match cs, hl with
  | [v0, v1, v2, v3, v4, v5], _ =>
    match xs, hlen with
    | [y0, y1, y2, y3, y4, y5], _ =>
      refine ⟨v0, v1, v2, v3, v4, v5, y0, y1, y2, y3, y4, y5, n, hn, rfl, by rw [hx]; rfl, ?_, ?_, ?_, ?_, ?_, ?_⟩
      · simpa [c0] using hg 0 _ rfl
      · simpa [c1] using hg 1 _ rfl
      · simpa [c2] using hg 2 _ rfl
      · simpa [c3] using hg 3 _ rfl
      · simpa [c4] using hg 4 _ rfl
      · simpa [c5] using hg 5 _ rfl

theorem bytes_str : Tryd.prog.bytesOf 9 = 16 := by kernel_rfl
theorem bytes_val : Tryd.prog.bytesOf 30 = 88 := by kernel_rfl

/-- Its parts' weights are among its own. -/
theorem six_weights {d0 d1 d2 d3 d4 d5 : DataW H} (h : ∀ m ∈ (DataW.agg [d0, d1, d2, d3, d4, d5]).weights Tryd.prog 30, m ≤ reachBytes) :
    (∀ m ∈ d3.weights Tryd.prog 9, m ≤ reachBytes) ∧ (∀ m ∈ d4.weights Tryd.prog 27, m ≤ reachBytes) ∧ (∀ m ∈ d5.weights Tryd.prog 28, m ≤ reachBytes) := by
  unfold DataW.weights at h
  rw [Tryd.underlying30] at h
  simp only [List.map_cons, List.map_nil, DataW.weightsEach, List.mem_append] at h
  exact ⟨fun m hm => h m (by simp [hm]), fun m hm => h m (by simp [hm]), fun m hm => h m (by simp [hm])⟩
theorem strs_weights : ∀ {l : List (DataW H)}, (∀ m ∈ DataW.weightsAll Tryd.prog 9 l, m ≤ reachBytes) → ∀ s : ByteArray, .lit (.string s.data.toList) ∈ l → s.size ≤ 140737488351232
  | [], _, s, hs => by cases hs
  | d :: r, h, s, hs => by
    simp only [DataW.weightsAll, List.mem_append] at h
    rcases List.mem_cons.1 hs with rfl | hs
    · have := h s.data.toList.length (.inl (by simp [DataW.weights]))
      rw [Array.length_toList] at this
      exact this
    · exact strs_weights (fun m hm => h m (.inr hm)) s hs
theorem vals_weights : ∀ {l : List (DataW H)}, (∀ m ∈ DataW.weightsAll Tryd.prog 30 l, m ≤ reachBytes) → ∀ d ∈ l, ∀ m ∈ d.weights Tryd.prog 30, m ≤ reachBytes
  | [], _, s, hs => by cases hs
  | d :: r, h, s, hs => by
    simp only [DataW.weightsAll, List.mem_append] at h
    rcases List.mem_cons.1 hs with rfl | hs
    · exact fun m hm => h m (.inl hm)
    · exact vals_weights (fun m hm => h m (.inr hm)) s hs

/-- What is known of a value that came in. -/
def Came (w : World) (cs : List Value) (x : Nd) (c : Fo) : Prop :=
  cs = [.int .i64 x.k, .bool x.b, .int .i64 x.n, .string x.t, .slice x.ka x.kl x.kc, .slice x.la x.ll x.lc] ∧ x.In w.heap.size w c ∧ x.Keys w.heap.size w ∧ x.Fit ∧ c.Fit

theorem open_keys {fuel : Nat} {v : Value} {y : DataW H × List MemPlace} (h : DataW.trod enc Tryd.prog w 0 (fun _ => true) held fuel 27 [v] = some y) (hw : ∀ m ∈ y.1.weights Tryd.prog 27, m ≤ reachBytes) :
    ∃ (a : Option Addr) (n c : Nat) (ks : List ByteArray), v = .slice a n c ∧ n ≤ 140737488351232 ∧ (∀ s ∈ ks, s.size ≤ 140737488351232) ∧ n = ks.length ∧ (ks = [] ∨ ∃ b' o', a = some ⟨b', o', none⟩ ∧ b' < w.heap.size ∧ ∀ (i : Nat) (s : ByteArray), ks[i]? = some s → w.cell? ⟨b', o' + i, none⟩ = some (.string s)) := by
  rcases open_strings Tryd.underlying27 Tryd.underlying9 (by kernel_rfl) h with ⟨h0, _⟩ | ⟨a, len, cap, ss, h0, _, hlc, _, hss, hx, hc, hm⟩
  · obtain rfl : v = .slice none 0 0 := by simpa using h0
    exact ⟨none, 0, 0, [], rfl, by omega, by simp, rfl, .inl rfl⟩
  · obtain rfl : v = .slice (some a) len cap := by simpa using h0
    simp only [if_true] at hss
    rw [hx] at hw
    unfold DataW.weights at hw
    rw [Tryd.underlying27] at hw
    have h1 := hw _ (List.mem_cons_self ..)
    have h2 : ∀ m ∈ DataW.weightsAll Tryd.prog 9 (strs (H := H) (ss.take len)), m ≤ reachBytes := fun m hm => hw m (by simp [hm])
    rw [bytes_str] at h1
    simp only [strs, List.length_map, List.length_take, List.length_drop, reachBytes] at h1
    refine ⟨some a, len, cap, ss.take len, rfl, by omega, fun s hs => ?_, by simp; omega, ?_⟩
    · exact strs_weights h2 s (List.mem_map.2 ⟨s, hs, rfl⟩)
    · by_cases hl0 : len = 0
      · subst hl0; exact .inl rfl
      · obtain ⟨b, o, sp⟩ := a
        have hc0 := hc 0 (by omega)
        have hsp : sp = none := by simpa [Addr.add] using World.cell?_spot hc0
        subst hsp
        refine .inr ⟨b, o, rfl, ?_, fun i s hi => ?_⟩
        · exact World.block_lt_of_cell? w ⟨b, o + 0, none⟩ (by rw [Addr.add_lit] at hc0; exact hc0)
        · have hil : i < (ss.take len).length := (List.getElem?_eq_some_iff.1 hi).1
          have := hc i (by simp at hil; omega)
          rw [Addr.add_lit] at this
          rw [this]
          have hii : i < len := by simp at hil; omega
          rw [List.getElem?_take, if_pos hii] at hi
          simp [List.getD, hi]

/-- Values one behind the other, put together. -/
def Fo.mk (f : Nat → Nd) (g : Nat → Fo) : Nat → Nat → Fo
  | _, 0 => .nil
  | i, n + 1 => .cons (f i) (g i) (Fo.mk f g (i + 1) n)
theorem Fo.len_mk (f : Nat → Nd) (g : Nat → Fo) : ∀ i n, (Fo.mk f g i n).len = n
  | _, 0 => rfl
  | i, n + 1 => by simp [Fo.mk, Fo.len, Fo.len_mk f g (i + 1) n]
theorem Fo.at_mk {n₀ b o : Nat} (f : Nat → Nd) (g : Nat → Fo) : ∀ i n, (∀ j, i ≤ j → j < i + n → (b < n₀ ∧ (f j).Cells w b (o + j * 6) ∧ (f j).Keys n₀ w) ∧ (f j).In n₀ w (g j)) → Fo.At n₀ w b (o + i * 6) (Fo.mk f g i n)
  | _, 0, _ => trivial
  | i, n + 1, h => by
    have h0 := h i (Nat.le_refl _) (by omega)
    have h1 := Fo.at_mk f g (i + 1) n (fun j hj hj' => h j (by omega) (by omega))
    refine ⟨h0.1, h0.2, ?_⟩
    rw [show o + i * 6 + 6 = o + (i + 1) * 6 by omega]
    exact h1
theorem Fo.fit_mk (f : Nat → Nd) (g : Nat → Fo) : ∀ i n, (∀ j, i ≤ j → j < i + n → (f j).Fit ∧ (g j).Fit) → (Fo.mk f g i n).Fit
  | _, 0, _ => trivial
  | i, n + 1, h => ⟨(h i (Nat.le_refl _) (by omega)).1, (h i (Nat.le_refl _) (by omega)).2, Fo.fit_mk f g (i + 1) n (fun j hj hj' => h j (by omega) (by omega))⟩

theorem cells_six {a : Addr} {cs : List Value} {x : Nd} (h : w.cells? 0 a 6 = some cs) (hcs : cs = [.int .i64 x.k, .bool x.b, .int .i64 x.n, .string x.t, .slice x.ka x.kl x.kc, .slice x.la x.ll x.lc]) :
    ∃ b o, a = ⟨b, o, none⟩ ∧ b < w.heap.size ∧ x.Cells w b o := by
  obtain ⟨_, _, hat⟩ := World.cells?_some h
  subst hcs
  have e0 := hat (i := 0) (by omega); have e1 := hat (i := 1) (by omega); have e2 := hat (i := 2) (by omega); have e3 := hat (i := 3) (by omega); have e4 := hat (i := 4) (by omega); have e5 := hat (i := 5) (by omega)
  simp only [List.getElem?_cons_zero, List.getElem?_cons_succ] at e0 e1 e2 e3 e4 e5
  obtain ⟨b, o, sp⟩ := a
  have hsp : sp = none := by simpa [Addr.add] using World.cell?_spot e0
  subst hsp
  simp only [Addr.add_lit, Nat.add_zero] at e0 e1 e2 e3 e4 e5
  exact ⟨b, o, rfl, World.block_lt_of_cell? w ⟨b, o, none⟩ e0, e0, e1, e2, e3, e4, e5⟩

/-- What is known of a slice of values that came in. -/
def CameL (w : World) (v : Value) (a : Option Addr) (n c : Nat) (F : Fo) : Prop :=
  v = .slice a n c ∧ n ≤ 140737488351232 ∧ n = F.len ∧ F.Fit ∧ (F = .nil ∨ ∃ b' o', a = some ⟨b', o', none⟩ ∧ Fo.At w.heap.size w b' o' F)

theorem open_vals (fuel : Nat) (ih : ∀ n, n < fuel → ∀ cs (x : DataW H × List MemPlace), DataW.trod enc Tryd.prog w 0 (fun _ => true) held n 30 cs = some x → (∀ m ∈ x.1.weights Tryd.prog 30, m ≤ reachBytes) → ∃ nd c, Came w cs nd c)
    (v : Value) (y : DataW H × List MemPlace) (h : DataW.trod enc Tryd.prog w 0 (fun _ => true) held fuel 28 [v] = some y) (hw : ∀ m ∈ y.1.weights Tryd.prog 28, m ≤ reachBytes) : ∃ a n c F, CameL w v a n c F := by
  have hC : Tryd.prog.cellsOf 30 = 6 := by kernel_rfl
  rcases DataW.trod_slice Tryd.underlying28 h with ⟨h0, _⟩ | ⟨a, len, cap, elems, rest, n, hfn, h0, hx, hb, hl, hm, hlen, hel, hsp, _⟩
  · obtain rfl : v = .slice none 0 0 := by simpa using h0
    exact ⟨none, 0, 0, .nil, rfl, by omega, rfl, trivial, .inl rfl⟩
  · obtain rfl : v = .slice (some a) len cap := by simpa using h0
    rw [hx] at hw
    unfold DataW.weights at hw
    rw [Tryd.underlying28] at hw
    have h1 := hw _ (List.mem_cons_self ..)
    have h2 : ∀ m ∈ DataW.weightsAll Tryd.prog 30 (elems.map (·.1)), m ≤ reachBytes := fun m hm => hw m (by simp [hm])
    rw [bytes_val] at h1
    simp only [List.length_map, reachBytes] at h1
    have key : ∀ i, i < len → ∃ p : Nd × Fo, ∃ b o, a.add (i * 6) = ⟨b, o, none⟩ ∧ (b < w.heap.size ∧ p.1.Cells w b o ∧ p.1.Keys w.heap.size w) ∧ p.1.In w.heap.size w p.2 ∧ p.1.Fit ∧ p.2.Fit := fun i hi => by
      have he := hel i hi
      rw [hC, List.getElem?_eq_getElem (by omega)] at he
      obtain ⟨cs', g1, g2⟩ := Option.bind_eq_some_iff.1 he
      obtain ⟨nd, c, k1, k2, k3, k4, k5⟩ := ih n (by omega) cs' _ g2 (vals_weights h2 _ (List.mem_map.2 ⟨_, List.getElem_mem _, rfl⟩))
      obtain ⟨b, o, e1, e2, e3⟩ := cells_six g1 k1
      exact ⟨(nd, c), b, o, e1, ⟨e2, e3, k3⟩, k2, k4, k5⟩
    by_cases hl0 : len = 0
    · subst hl0
      exact ⟨some a, 0, cap, .nil, rfl, by omega, rfl, trivial, .inl rfl⟩
    · haveI : Inhabited (Nd × Fo) := ⟨(⟨0, false, 0, ByteArray.empty, none, 0, 0, none, 0, 0, []⟩, .nil)⟩
      obtain ⟨f, hf⟩ := choose_lt key
      obtain ⟨b, o, e0, _⟩ := hf 0 (by omega)
      obtain ⟨ab, ao, asp⟩ := a
      have hA : asp = none := by have := congrArg Addr.spot e0; simpa [Addr.add] using this
      subst hA
      refine ⟨_, len, cap, Fo.mk (fun i => (f i).1) (fun i => (f i).2) 0 len, rfl, by omega, (Fo.len_mk _ _ _ _).symm, Fo.fit_mk _ _ _ _ fun j _ hj => ?_, .inr ⟨_, _, rfl, ?_⟩⟩
      · obtain ⟨_, _, _, _, _, g⟩ := hf j (by omega); exact g
      · have := Fo.at_mk (w := w) (n₀ := w.heap.size) (b := ab) (o := ao) (fun i => (f i).1) (fun i => (f i).2) 0 len fun j _ hj => by
          obtain ⟨b', o', g0, g1, g2, _⟩ := hf j (by omega)
          simp only [Addr.add_lit, Addr.mk.injEq] at g0
          obtain ⟨rfl, rfl, _⟩ := g0
          exact ⟨g1, g2⟩
        simpa using this

theorem open_node : ∀ (fuel : Nat) (cs : List Value) (x : DataW H × List MemPlace), DataW.trod enc Tryd.prog w 0 (fun _ => true) held fuel 30 cs = some x → (∀ m ∈ x.1.weights Tryd.prog 30, m ≤ reachBytes) → ∃ nd c, Came w cs nd c := by
  intro fuel
  induction fuel using Nat.strongRecOn with
  | ind fuel ih =>
    intro cs x h hw
    obtain ⟨v0, v1, v2, v3, v4, v5, y0, y1, y2, y3, y4, y5, n, hn, rfl, hx, h0, h1, h2, h3, h4, h5⟩ := six_parts h
    rw [hx] at hw
    obtain ⟨w3, w4, w5⟩ := six_weights hw
    obtain ⟨k, e0, _⟩ := DataW.trod_int Tryd.underlying26 h0
    obtain ⟨b, e1, _⟩ := DataW.trod_bool Tryd.underlying4 h1
    obtain ⟨i, e2, _⟩ := DataW.trod_int Tryd.underlying2 h2
    obtain ⟨t, e3, hy3, _⟩ := DataW.trod_string Tryd.underlying9 h3
    obtain ⟨ka, kl, kc, ks, rfl, g1, g2, g3, g4⟩ := open_keys h4 w4
    obtain ⟨la, ll, lc, F, rfl, g5, g6, g7, g8⟩ := open_vals n (fun m hm => ih m (by omega)) v5 y5 h5 w5
    simp only [List.cons.injEq, and_true] at e0 e1 e2 e3
    subst e0; subst e1; subst e2; subst e3
    have ht : t.size ≤ 140737488351232 := by
      have := w3 t.data.toList.length (by rw [hy3]; simp [DataW.weights])
      rw [Array.length_toList] at this
      exact this
    exact ⟨⟨k, b, i, t, ka, kl, kc, la, ll, lc, ks⟩, F, rfl, ⟨g6, g8⟩, ⟨g3, g4⟩, ⟨ht, g1, g5, g2⟩, g7⟩

theorem open_list {fuel : Nat} (v : Value) (y : DataW H × List MemPlace) (h : DataW.trod enc Tryd.prog w 0 (fun _ => true) held fuel 28 [v] = some y) (hw : ∀ m ∈ y.1.weights Tryd.prog 28, m ≤ reachBytes) : ∃ a n c F, CameL w v a n c F :=
  open_vals fuel (fun n _ => open_node n) v y h hw
end Go.Proofs.YtlokoepljmlcgaaDoor
