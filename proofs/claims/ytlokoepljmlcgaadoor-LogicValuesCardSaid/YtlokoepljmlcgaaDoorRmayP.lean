/-
  PLAIN: values within values: induction; may all of them be?
-/
import Derived.Test.YtlokoepljmlcgaaDoorRbare
import Derived.Test.YtlokoepljmlcgaaDoorGood
namespace Go.Proofs.YtlokoepljmlcgaaDoor
set_option linter.unusedSimpArgs false
set_option linter.unusedVariables false
open Go.RowKit Go.Shelf

/-- Of all values of a list. -/
def Fo.Each (P : Nd → Fo → Prop) : Fo → Prop
  | .nil => True
  | .cons x c r => P x c ∧ r.Each P
theorem Fo.ind {P : Nd → Fo → Prop} (step : ∀ x c, Fo.Each P c → P x c) : ∀ F : Fo, F.Each P
  | .nil => trivial
  | .cons x c r => ⟨step x c (Fo.ind step c), Fo.ind step r⟩
theorem Nd.ind {P : Nd → Fo → Prop} (step : ∀ x c, Fo.Each P c → P x c) (x : Nd) (c : Fo) : P x c := step x c (Fo.ind step c)
theorem Fo.Each.mem {P : Nd → Fo → Prop} : ∀ {F : Fo}, F.Each P → ∀ p ∈ F.toL, P p.1 p.2
  | .nil, _, p, hp => by simp [Fo.toL] at hp
  | .cons x c r, h, p, hp => by
    simp only [Fo.toL, List.mem_cons] at hp
    rcases hp with rfl | hp
    · exact h.1
    · exact h.2.mem p hp

/-- How deep does not matter to what lies there. -/
theorem Fo.pre_snd (d d' : Nat) : ∀ F : Fo, (F.pre d).map (·.2) = (F.pre d').map (·.2)
  | .nil => rfl
  | .cons x c r => by simp only [Fo.pre, List.map_cons, List.map_append]; rw [Fo.pre_snd (d + 1) (d' + 1) c, Fo.pre_snd d d' r]
theorem Fo.pre_len (d d' : Nat) (F : Fo) : (F.pre d).length = (F.pre d').length := by
  have := congrArg List.length (Fo.pre_snd d d' F); simpa using this
theorem Fo.mem_shift {d d' : Nat} {F : Fo} {e : Nat × Nd × Fo} (h : e ∈ F.pre d) : ∃ e' ∈ F.pre d', e'.2 = e.2 := by
  have : e.2 ∈ (F.pre d').map (·.2) := by rw [← Fo.pre_snd d d' F]; exact List.mem_map.2 ⟨e, h, rfl⟩
  obtain ⟨e', h1, h2⟩ := List.mem_map.1 this
  exact ⟨e', h1, h2⟩
theorem Nd.pre_eq (d : Nat) (x : Nd) (c : Fo) : Nd.pre d x c = Fo.pre d (.cons x c .nil) := by simp [Nd.pre, Fo.pre]
/-- What a list holds has its place in it. -/
theorem Fo.pre_sub (d : Nat) : ∀ {F : Fo} {p : Nd × Fo}, p ∈ F.toL → ∃ a b, F.pre d = a ++ Nd.pre d p.1 p.2 ++ b
  | .nil, p, hp => by simp [Fo.toL] at hp
  | .cons x c r, p, hp => by
    simp only [Fo.toL, List.mem_cons] at hp
    rcases hp with rfl | hp
    · exact ⟨[], r.pre d, by rw [Fo.pre_cons]; simp⟩
    · obtain ⟨a, b, h⟩ := Fo.pre_sub d hp
      exact ⟨Nd.pre d x c ++ a, b, by rw [Fo.pre_cons, h]; simp⟩
theorem Sized.sub {x : Nd} {c : Fo} (h : Sized x c) {p : Nd × Fo} (hp : p ∈ c.toL) : Sized p.1 p.2 := by
  obtain ⟨a, b, hab⟩ := Fo.pre_sub 2 hp
  have h1 : (Nd.pre 1 p.1 p.2).length = (Nd.pre 2 p.1 p.2).length := by rw [Nd.pre_eq, Nd.pre_eq]; exact Fo.pre_len _ _ _
  have h2 : Nd.pre 1 x c = (1, x, c) :: Fo.pre 2 c := rfl
  unfold Sized at *
  rw [h2, hab] at h
  refine ⟨by have := h.1; simp only [List.length_cons, List.length_append] at this; omega, fun e he => ?_⟩
  rw [Nd.pre_eq] at he
  obtain ⟨e', h3, h4⟩ := Fo.mem_shift (d' := 2) he
  rw [← Nd.pre_eq] at h3
  have := h.2 e' (by simp [h3])
  rw [show bytesE e = bytesE e' by unfold bytesE; rw [h4], show e.2 = e'.2 from h4.symm]
  exact this
theorem Good.vals {n₀ : Nat} {W : World} {x : Nd} {c : Fo} (h : Good n₀ W x c) : Vals n₀ W x.la c := ⟨h.in_.2, fun p hp => h.sized.sub hp, by
  have h1 := h.sized.1
  have h2 := Fo.len_le 2 c
  simp only [Nd.pre, List.length_cons, Nat.reduceAdd] at h1
  omega⟩

/-- May all of them be? -/
def mayA (x : Nd) (c : Fo) : Bool := (Nd.pre 1 x c).all (fun e => mayB e.2.1)
theorem Fo.all_shift (d d' : Nat) (f : Nd × Fo → Bool) (F : Fo) : (F.pre d).all (fun e => f e.2) = (F.pre d').all (fun e => f e.2) := by
  have h1 : ∀ d, (F.pre d).all (fun e => f e.2) = ((F.pre d).map (·.2)).all f := fun d => by rw [List.all_map]; rfl
  rw [h1, h1, Fo.pre_snd d d']
theorem mayF (d : Nat) : ∀ F : Fo, (F.pre d).all (fun e => mayB e.2.1) = F.toL.all (fun p => mayA p.1 p.2)
  | .nil => rfl
  | .cons x c r => by
    rw [Fo.pre_cons, List.all_append, mayF d r, Nd.pre_eq, Fo.all_shift d 1 (fun p => mayB p.1), ← Nd.pre_eq]
    rfl
theorem mayA_eq (x : Nd) (c : Fo) : mayA x c = (mayB x && c.toL.all (fun p => mayA p.1 p.2)) := by
  rw [← mayF 2 c]; rfl

/-- The document's head: all but the keys and the list. -/
def headR (x : Nd) : Bool := !(decide (x.k < 0) || decide (7 < x.k) || !bareR x || ((x.k == 6 || x.k == 7) && decide (x.n < 0)) || !Lib.validD x.t.data.toList || (x.k == 5 && x.kl != x.ll))
theorem headR_may (x : Nd) : mayB x = (headR x && keysOK x.ks) := by
  have key : bareB x = (!(decide (x.k < 0) || decide (7 < x.k) || !bareR x || ((x.k == 6 || x.k == 7) && decide (x.n < 0)))) := by
    unfold bareB bareR
    have hkl : decide (0 < x.kl) = !(x.kl == 0) := by cases x.kl <;> simp
    have hll : decide (0 < x.ll) = !(x.ll == 0) := by cases x.ll <;> simp
    have hn : decide (0 ≤ x.n) = !decide (x.n < 0) := by by_cases h : x.n < 0 <;> simp [h] <;> omega
    have hnn : (x.n != 0) = !(x.n == 0) := rfl
    rw [hkl, hll, hn, hnn]
    generalize (x.n == 0) = n0
    generalize decide (x.n < 0) = nn
    generalize decide (x.t.toList = []) = t0
    generalize (x.kl == 0) = k0
    generalize (x.ll == 0) = l0
    generalize x.b = b
    generalize x.k = k
    have hcase : k = 1 ∨ k = 6 ∨ k = 7 ∨ k = 2 ∨ k = 3 ∨ k = 5 ∨ k = 4 ∨ k = 0 ∨ k < 0 ∨ 7 < k := by omega
    rcases hcase with rfl | rfl | rfl | rfl | rfl | rfl | rfl | rfl | h | h
    all_goals try (cases b <;> cases n0 <;> cases nn <;> cases t0 <;> cases k0 <;> cases l0 <;> rfl)
    · have e : ∀ m : Int, 0 ≤ m → k ≠ m := fun m hm => by omega
      simp [e 0, e 1, e 2, e 3, e 4, e 5, e 6, e 7, h]
    · have e : ∀ m : Int, m ≤ 7 → k ≠ m := fun m hm => by omega
      simp [e 0, e 1, e 2, e 3, e 4, e 5, e 6, e 7, h]
  unfold mayB headR
  rw [key]
  have h5 : (decide (x.k = 5) && decide (x.kl ≠ x.ll)) = (x.k == 5 && x.kl != x.ll) := by
    by_cases h1 : x.k = 5 <;> by_cases h2 : x.kl = x.ll <;> simp [h1, h2]
  rw [h5]
  cases (decide (x.k < 0) || decide (7 < x.k) || !bareR x || ((x.k == 6 || x.k == 7) && decide (x.n < 0))) <;> cases Lib.validD x.t.data.toList <;> cases (x.k == 5 && x.kl != x.ll) <;> simp
end Go.Proofs.YtlokoepljmlcgaaDoor
