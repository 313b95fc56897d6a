/-
  PLAIN: how great a value is, up to a bound: what the law's small tells.
-/
import Derived.Test.YtlokoepljmlcgaaDoorOpenV
import Derived.Test.YtlokoepljmlcgaaDoorRmayP
namespace Go.Proofs.YtlokoepljmlcgaaDoor
set_option linter.unusedSimpArgs false
set_option linter.unusedVariables false
open Go.RowKit Go.Shelf

def smK (left : Int) : Int → List ByteArray → Int
  | n, [] => n
  | n, s :: r => if n ≤ left then smK left (n + s.size) r else n
def smF : Fo → Int → Int → Int
  | .nil, _, n => n
  | .cons x c r, left, n => if n ≤ left then smF r left (n + smF c (left - n) (smK (left - n) (1 + x.t.size + x.kl) x.ks)) else n
def smV (x : Nd) (c : Fo) (left : Int) : Int := smF c left (smK left (1 + x.t.size + x.kl) x.ks)
def smL (f : Nd × Fo → Int → Int) : List (Nd × Fo) → Int → Int → Int
  | [], _, n => n
  | p :: r, left, n => if n ≤ left then smL f r left (n + f p (left - n)) else n
theorem smF_toL : ∀ (F : Fo) (left n : Int), smF F left n = smL (fun p => smV p.1 p.2) F.toL left n
  | .nil, _, _ => rfl
  | .cons x c r, left, n => by
    simp only [smF, Fo.toL, smL]
    rw [smF_toL r]; rfl
theorem smK_stop {left n : Int} (l : List ByteArray) (h : left < n) : smK left n l = n := by
  cases l with
  | nil => rfl
  | cons s r => simp only [smK]; rw [if_neg (by omega)]
theorem smL_stop {f : Nd × Fo → Int → Int} {left n : Int} (l : List (Nd × Fo)) (h : left < n) : smL f l left n = n := by
  cases l with
  | nil => rfl
  | cons s r => simp only [smL]; rw [if_neg (by omega)]
theorem smK_ge (left : Int) : ∀ (l : List ByteArray) (n : Int), n ≤ smK left n l
  | [], n => Int.le_refl _
  | s :: r, n => by
    simp only [smK]
    split
    · have := smK_ge left r (n + s.size); omega
    · omega
theorem smK_le (left : Int) : ∀ (l : List ByteArray) (n : Int), (∀ s ∈ l, s.size ≤ 140737488351232) → smK left n l ≤ max n (left + 140737488351232)
  | [], n, _ => by simp only [smK]; omega
  | s :: r, n, h => by
    simp only [smK]
    split
    · have h1 := smK_le left r (n + s.size) fun s hs => h s (by simp [hs])
      have h2 := h s (by simp)
      omega
    · omega
/-- All the way. -/
theorem smK_all (left : Int) : ∀ (l : List ByteArray) (n : Int), smK left n l ≤ left → smK left n l = n + ((l.map (·.size)).sum : Nat)
  | [], n, _ => by simp [smK]
  | s :: r, n, h => by
    simp only [smK] at h ⊢
    split at h
    · rename_i h1
      rw [if_pos h1, smK_all left r _ h]
      simp only [List.map_cons, List.sum_cons]; omega
    · omega

/-- How much it is. -/
def Fo.tot : Fo → Nat
  | .nil => 0
  | .cons x c r => 1 + x.t.size + x.kl + (x.ks.map (·.size)).sum + c.tot + r.tot
def Nd.tot (x : Nd) (c : Fo) : Nat := 1 + x.t.size + x.kl + (x.ks.map (·.size)).sum + c.tot
theorem smF_ge : ∀ (F : Fo) (left n : Int), n ≤ smF F left n
  | .nil, _, n => Int.le_refl _
  | .cons x c r, left, n => by
    simp only [smF]
    split
    · have h1 := smF_ge r left (n + smF c (left - n) (smK (left - n) (1 + x.t.size + x.kl) x.ks))
      have h2 := smF_ge c (left - n) (smK (left - n) (1 + x.t.size + x.kl) x.ks)
      have h3 := smK_ge (left - n) x.ks (1 + x.t.size + x.kl)
      omega
    · omega
theorem smF_all : ∀ (F : Fo) (left n : Int), smF F left n ≤ left → smF F left n = n + (F.tot : Nat)
  | .nil, _, n, _ => by simp [smF, Fo.tot]
  | .cons x c r, left, n, h => by
    simp only [smF] at h ⊢
    split at h
    · rename_i h1
      rw [if_pos h1]
      have g1 := smF_ge r left (n + smF c (left - n) (smK (left - n) (1 + x.t.size + x.kl) x.ks))
      have e1 := smF_all r left _ h
      have g2 : smF c (left - n) (smK (left - n) (1 + x.t.size + x.kl) x.ks) ≤ left - n := by omega
      have e2 := smF_all c _ _ g2
      have g3 := smF_ge c (left - n) (smK (left - n) (1 + x.t.size + x.kl) x.ks)
      have e3 := smK_all (left - n) x.ks (1 + x.t.size + x.kl) (by omega)
      rw [e1, e2, e3]
      simp only [Fo.tot]; omega
    · omega
theorem smV_all {x : Nd} {c : Fo} {left : Int} (h : smV x c left ≤ left) : smV x c left = (x.tot c : Nat) := by
  unfold smV at *
  have g := smF_ge c left (smK left (1 + x.t.size + x.kl) x.ks)
  rw [smF_all _ _ _ h, smK_all _ _ _ (by omega)]
  simp only [Nd.tot]; omega
theorem smV_ge (x : Nd) (c : Fo) (left : Int) : 1 ≤ smV x c left := by
  unfold smV
  have g := smF_ge c left (smK left (1 + x.t.size + x.kl) x.ks)
  have g' := smK_ge left x.ks (1 + x.t.size + x.kl)
  omega
theorem smF_le : ∀ (F : Fo) (left n : Int), F.Fit → 0 ≤ left → smF F left n ≤ max n (left + 562949953421312)
  | .nil, left, n, _, _ => by simp only [smF]; omega
  | .cons x c r, left, n, h, hl => by
    simp only [smF]
    split
    · have h1 := smF_le r left (n + smF c (left - n) (smK (left - n) (1 + x.t.size + x.kl) x.ks)) h.2.2 hl
      have h2 := smF_le c (left - n) (smK (left - n) (1 + x.t.size + x.kl) x.ks) h.2.1 (by omega)
      have h3 := smK_le (left - n) x.ks (1 + x.t.size + x.kl) h.1.ks
      have h4 := h.1.t
      have h5 := h.1.kl
      omega
    · omega
theorem smV_le {x : Nd} {c : Fo} {left : Int} (hx : x.Fit) (hc : c.Fit) (hl : 0 ≤ left) : smV x c left ≤ left + 562949953421312 := by
  unfold smV
  have h1 := smF_le c left (smK left (1 + x.t.size + x.kl) x.ks) hc hl
  have h2 := smK_le left x.ks (1 + x.t.size + x.kl) hx.ks
  have h3 := hx.t
  have h4 := hx.kl
  omega
/-- One step in the list's row. -/
theorem smL_step {f : Nd × Fo → Int → Int} {l : List (Nd × Fo)} {j : Nat} {p : Nd × Fo} {left m : Int} (hp : l[j]? = some p) (hm : m ≤ left) : smL f (l.drop j) left m = smL f (l.drop (j + 1)) left (m + f p (left - m)) := by
  have hj : j < l.length := (List.getElem?_eq_some_iff.1 hp).1
  rw [List.drop_eq_getElem_cons hj]
  simp only [smL]
  rw [if_pos hm]
  have : l[j] = p := by rw [List.getElem?_eq_getElem hj] at hp; exact Option.some.inj hp
  rw [this]
theorem smK_step {l : List ByteArray} {j : Nat} {s : ByteArray} {left m : Int} (hp : l[j]? = some s) (hm : m ≤ left) : smK left m (l.drop j) = smK left (m + s.size) (l.drop (j + 1)) := by
  have hj : j < l.length := (List.getElem?_eq_some_iff.1 hp).1
  rw [List.drop_eq_getElem_cons hj]
  simp only [smK]
  rw [if_pos hm]
  have : l[j] = s := by rw [List.getElem?_eq_getElem hj] at hp; exact Option.some.inj hp
  rw [this]

/-- What is small is not too great. -/
theorem Fo.tot_pre : ∀ (F : Fo) (d : Nat), (F.pre d).length ≤ F.tot ∧ ∀ e ∈ F.pre d, bytesE e ≤ F.tot ∧ e.2.1.kl ≤ F.tot
  | .nil, d => ⟨by simp [Fo.pre], fun e he => by simp [Fo.pre] at he⟩
  | .cons x c r, d => by
    have h1 := Fo.tot_pre c (d + 1)
    have h2 := Fo.tot_pre r d
    refine ⟨by simp only [Fo.pre, List.length_cons, List.length_append, Fo.tot]; omega, fun e he => ?_⟩
    simp only [Fo.pre, List.mem_cons, List.mem_append] at he
    simp only [Fo.tot]
    rcases he with rfl | he | he
    · simp only [bytesE]; omega
    · have := h1.2 e he; omega
    · have := h2.2 e he; omega
theorem sized_of_tot {x : Nd} {c : Fo} (h : x.tot c ≤ 1048576) : Sized x c := by
  have h1 := Fo.tot_pre (.cons x c .nil) 1
  have h2 : (Fo.cons x c .nil).tot = x.tot c := by simp [Fo.tot, Nd.tot]
  rw [h2, ← Nd.pre_eq] at h1
  exact ⟨by omega, fun e he => by have := h1.2 e he; omega⟩
theorem Fo.Fit.mem : ∀ {F : Fo}, F.Fit → ∀ p ∈ F.toL, p.1.Fit ∧ p.2.Fit
  | .nil, _, p, hp => by simp [Fo.toL] at hp
  | .cons x c r, h, p, hp => by
    simp only [Fo.toL, List.mem_cons] at hp
    rcases hp with rfl | hp
    · exact ⟨h.1, h.2.1⟩
    · exact h.2.2.mem p hp
end Go.Proofs.YtlokoepljmlcgaaDoor
