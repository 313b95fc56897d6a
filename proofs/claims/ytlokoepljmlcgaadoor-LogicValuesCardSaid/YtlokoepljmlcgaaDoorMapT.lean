/-
  THE WALK of value.truths: a map literal, looked up twice.
-/
import Derived.Test.YtlokoepljmlcgaaDoorStrs
import Derived.Deep.DeepFit
namespace Go.Proofs.YtlokoepljmlcgaaDoor
set_option linter.unusedSimpArgs false
set_option linter.unusedVariables false
open Go.RowKit Go.Shelf Go.Maps

/-- A literal's entry: laid as a store is. -/
theorem wpList_insert_own {H : Type} {P : Program} (w : World) {ops : Array Oper} {rest : List Oper} {o : Oper} {a : Act} {Q : Exit → Act → World → Prop}
    (hg : o.guard = none) (m x v : Operand) (t : TypeId) (hop : o.op = Op.insert t m x v)
    (k e : TypeId) (K : Keyed P k) (ht : P.underlying t = some (.map k e)) (R : Value → Option (DataW H × List MemPlace)) (b n : Nat) (D : DataW H)
    (hm : a.eval m = .map (some b)) (hown : w.ownsMap P k R b n D) (hn : n < maxLen) (key val : Value) (kl : Lit) (hx : a.eval x = key) (hv : a.eval v = val) (hkey : keyOf P k key = some kl)
    (d : DataW H) (ps : List MemPlace) (hval : R val = some (d, ps))
    (hK : ∀ w', w'.ownsMap P k R b (n + 1) (D.put kl d) → w.grownBy w' (some b) → wpList P ops Q rest (a.put o.dst undef) w') :
    wpList P ops Q (o :: rest) a w := by
  refine wpList_plain hg fun K' hK' => ?_
  obtain ⟨w', hrun, r1, r2⟩ := hown.update K ht hn hkey hval
  unfold Oper.wp
  simp [execOp, hop, hm, hx, hv, hrun, Result.andThen]
  exact hK' _ _ (hK w' r1 r2)
theorem lawB : Keyed Tryd.prog 4 := bool_keyed Tryd.underlying4
theorem zeroI (w : World) : (zeroValue 3).run Tryd.prog w = .ok (.int .i64 0) w := by kernel_rfl
/-- The literal, as a datum. -/
def mapT : DataW Nat := (DataW.map []).put (.bool true) (.lit (.int .i64 1))
theorem mapT_at (a : Bool) {c : Int} (h : mapT.atKey (.bool a) (.lit (.int .i64 0)) = .lit (.int .i64 c)) : c = if a then 1 else 0 := by
  cases a
  · have h1 : mapT.atKey (.bool false) (.lit (.int .i64 0)) = .lit (.int .i64 0) := by
      unfold mapT
      rw [atKey_put_other (by intro h; cases h)]
      rfl
    rw [h1] at h
    cases h; rfl
  · have h1 : mapT.atKey (.bool true) (.lit (.int .i64 0)) = .lit (.int .i64 1) := by
      unfold mapT
      exact atKey_put_same ⟨_, rfl⟩ (by trivial) _ _
    rw [h1] at h
    cases h; rfl
/-- Truths in order. -/
def cmpB (a b : Bool) : Int := cmpI (if a then 1 else 0) (if b then 1 else 0)
set_option maxRecDepth 100000 in
theorem truths_any (a b : Bool) (w : World) : Calls Tryd.prog 71 #[.bool a, .bool b] w fun e w' => e = .returned (.int .i64 (cmpB a b)) ∧ Below w.heap.size w w' := by
  have hmm := @run_makeMap Tryd.prog
  have hown0 := World.ownsMap_made w Tryd.prog 4 (plainElem (H := Nat) Tryd.prog 3)
  have hb0 : Below w.heap.size w (w.alloc (.map #[] 0)) := (Below.refl _ _).alloc (Nat.le_refl _) _
  go_enter Tryd.func71, Tryd.ntmps71
  go_wp2_with (first
    | (refine wpList_insert_own _ rfl _ _ _ 104 rfl 4 3 lawB Tryd.underlying104 _ w.heap.size 0 _ rfl hown0 (by unfold maxLen; omega) _ _ _ rfl rfl (keyOf_bool_mk Tryd.underlying4 _) _ [] (plainElem_int Tryd.underlying3 (WalkArith.wf_i64 (by omega))) ?_; intro w1 hown1 hgrow1)
    | (at_lookup; refine wpList_lookup_own_int _ rfl _ _ 104 rfl 4 3 .i64 lawB Tryd.underlying104 Tryd.underlying3 (zeroI _) w.heap.size 1 _ rfl hown1 _ _ rfl (keyOf_bool_mk Tryd.underlying4 _) ?_; intro c hat hwc; obtain rfl := mapT_at _ hat; clear hat hwc)
    | (go_at_call 69; refine (cmp_any _ _ _).mono ?_; rintro e w2 ⟨rfl, rfl⟩))
  all_goals go_ret
  all_goals exact ⟨rfl, hb0.grown hgrow1 hb0.size (fun j hj => by cases hj; exact Nat.le_refl _)⟩
end Go.Proofs.YtlokoepljmlcgaaDoor
