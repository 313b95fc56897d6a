/-
  THE WALKS of the layer's Range, the program's and the reference's.
-/
import Derived.Test.YtlokoepljmlcgaaDoorNum
import Derived.Deep.LoopGhost
import Derived.Deep.Light
namespace Go.Proofs.YtlokoepljmlcgaaDoor
set_option linter.unusedSimpArgs false
set_option linter.unusedVariables false
open Go.RowKit

/-- Is a number past the end? -/
def past (to step at' : Int) : Bool := decide (0 < step ∧ to < at') || decide (step < 0 ∧ at' < to)
/-- The numbers from one on, at most so many; none: too many. -/
def rgo (to step : Int) : Nat → Int → Option (List Int)
  | 0, n => if past to step n then some [] else none
  | f + 1, n => if past to step n then some [] else if fits (n + step) then (rgo to step f (n + step)).map (n :: ·) else some [n]
def rangeL (a to step : Int) : List Int := if step = 0 then [] else (rgo to step 65536 a).getD []
def rangeE (a to step : Int) : Int := if step = 0 then 2 else if (rgo to step 65536 a).isNone then 3 else 0

theorem rgo_past {to step n : Int} (h : past to step n = true) (f : Nat) : rgo to step f n = some [] := by cases f <;> simp [rgo, h]
theorem rgo_zero {to step n : Int} (h : past to step n = false) : rgo to step 0 n = none := by simp [rgo, h]
theorem rgo_more {to step n : Int} (h : past to step n = false) (h' : fits (n + step) = true) (f : Nat) : rgo to step (f + 1) n = (rgo to step f (n + step)).map (n :: ·) := by simp [rgo, h, h']
theorem rgo_last {to step n : Int} (h : past to step n = false) (h' : fits (n + step) = false) (f : Nat) : rgo to step (f + 1) n = some [n] := by simp [rgo, h, h']

/-- What has been gathered, and where the range stands: the whole is that and what follows. -/
def Gone (a to step : Int) (acc : List Int) (n : Int) : Prop := rgo to step 65536 a = (rgo to step (65536 - acc.length) n).map (acc ++ ·)

theorem gone_start (a to step : Int) : Gone a to step [] a := by unfold Gone; simp
theorem gone_next {a to step n : Int} {acc : List Int} (h : Gone a to step acc n) (hp : past to step n = false) (hf : fits (n + step) = true) (hl : acc.length < 65536) : Gone a to step (acc ++ [n]) (n + step) := by
  unfold Gone at *
  rw [h, show 65536 - acc.length = (65536 - (acc ++ [n]).length) + 1 by simp; omega, rgo_more hp hf, Option.map_map]
  congr 1; funext l; simp
theorem gone_last {a to step n : Int} {acc : List Int} (h : Gone a to step acc n) (hp : past to step n = false) (hf : fits (n + step) = false) (hl : acc.length < 65536) : rgo to step 65536 a = some (acc ++ [n]) := by
  unfold Gone at *
  rw [h, show 65536 - acc.length = (65536 - (acc ++ [n]).length) + 1 by simp; omega, rgo_last hp hf]
  rfl
theorem gone_past {a to step n : Int} {acc : List Int} (h : Gone a to step acc n) (hp : past to step n = true) : rgo to step 65536 a = some acc := by
  unfold Gone at *
  rw [h, rgo_past hp]; simp
theorem gone_full {a to step n : Int} {acc : List Int} (h : Gone a to step acc n) (hp : past to step n = false) (hl : acc.length = 65536) : rgo to step 65536 a = none := by
  unfold Gone at *
  rw [h, hl, Nat.sub_self, rgo_zero hp]; rfl
theorem range_of {a to step : Int} {l : List Int} (h : rgo to step 65536 a = some l) (hs : step ≠ 0) : rangeL a to step = l ∧ rangeE a to step = 0 := by
  unfold rangeL rangeE; rw [if_neg hs, if_neg hs, h]; exact ⟨rfl, rfl⟩
theorem range_full {a to step : Int} (h : rgo to step 65536 a = none) (hs : step ≠ 0) : rangeL a to step = [] ∧ rangeE a to step = 3 := by
  unfold rangeL rangeE; rw [if_neg hs, if_neg hs, h]; exact ⟨rfl, rfl⟩

/-- It hands back a row of numbers of its own, and an error. -/
def RetRow (t : TypeId) (k : IntKind) (l : List Int) (x : Int) (w : World) (e : Ending) (w' : World) : Prop :=
  ∃ v, e = .returned (.tuple #[v, .int .i64 x]) ∧ w'.ownsRow w.heap.size t 1 v l.length (l.map (Value.int k)) ∧ Below w.heap.size w w'
theorem RetRow.of {t : TypeId} {k : IntKind} {l l' : List Int} {x x' : Int} {w : World} {e : Ending} {w' : World} (h : RetRow t k l x w e w') (hl : l' = l) (hx : x' = x) : RetRow t k l' x' w e w' := by subst hl; subst hx; exact h

theorem Tryd.info2 : (Tryd.prog.info? 2).map (fun i => (i.zero, i.size, i.bytes)) = some (some (.int .i64 0), 1, 8) := by kernel_rfl

theorem past_iff (to step n : Int) : past to step n = true ↔ (0 < step ∧ to < n) ∨ (step < 0 ∧ n < to) := by unfold past; simp

set_option maxRecDepth 100000 in
set_option maxHeartbeats 2000000 in
theorem range_any (a to step : Int) (w : World) (ha : In64 a) (hs : In64 step) :
    Calls Tryd.prog 20 #[.int .i64 a, .int .i64 to, .int .i64 step] w (RetRow 2 .i64 (rangeL a to step) (rangeE a to step) w) := by
  obtain ⟨i0, hi, hz0, hz1, hz2⟩ := info_parts Tryd.info2
  by_cases h0 : step = 0
  · subst h0
    go_enter Tryd.func20, Tryd.ntmps20
    go_wp2; go_step3; go_wp2
    rw [Exit.noGoto_ret]
    go_ret2
    exact ⟨_, rfl, World.ownsRow_nil _ _ _ _, Below.refl _ _⟩
  · have g0 : (step == 0) = false := by simp [h0]
    have H0 := Lib.hid h0; clear h0
    have HA := Lib.hid ha; have HS := Lib.hid hs; clear ha hs
    go_enter Tryd.func20, Tryd.ntmps20
    go_wp2; go_step3; go_wp2; go_step3; go_wp2
    go_loopg [8, 9, 10] 65537 (fun gk v e i wr => ∃ acc : List Int, gk = 65537 - acc.length ∧ acc.length ≤ 65536 ∧ wr.ownsRow w.heap.size 2 1 v acc.length (acc.map (Value.int .i64)) ∧ Below w.heap.size w wr ∧
        ((e = .int .i64 0 ∧ ∃ n, i = .int .i64 n ∧ In64 n ∧ Gone a to step acc n) ∨ (e = .int .i64 120 ∧ rgo to step 65536 a = some acc)))
    case atStart => exact ⟨[], rfl, by simp, World.ownsRow_nil _ _ _ _, Below.refl _ _, .inl ⟨rfl, a, rfl, HA.out, gone_start _ _ _⟩⟩
    case round =>
      obtain ⟨acc, hgk, hlen, hown, hb, hcase⟩ := hrel
      rcases hcase with ⟨rfl, n, rfl, hn, hg⟩ | ⟨rfl, hr⟩
      · have HN := Lib.hid hn; have HG := Lib.hid hg; have HK := Lib.hid hgk; clear hn hg hgk
        obtain ⟨av, cv, rfl⟩ := owns_form hown
        have HO := Lib.hid hown; clear hown
        by_cases hp : past to step n = true
        · have HF := Lib.hid (range_of (gone_past HG.out hp) H0.out)
          rcases (past_iff _ _ _).1 hp with ⟨p1, p2⟩ | ⟨p1, p2⟩ <;>
          · clear hp
            go_wp2
            try rw [Exit.noGoto_ret]
            go_ret2
            rw [HF.out.1, HF.out.2]
            exact ⟨_, rfl, HO.out, hb⟩
        · have hp' : past to step n = false := by simpa using hp
          have HP := Lib.hid hp'; clear hp'
          by_cases hfull : acc.length = 65536
          · have HF := Lib.hid (range_full (gone_full HG.out HP.out hfull) H0.out)
            have e1 : ((acc.length : Int) == 65536) = true := by simp; omega
            have HL := Lib.hid hfull; clear hfull
            have hpp : (0 < step ∧ ¬ to < n) ∨ (step < 0 ∧ ¬ n < to) := by have := H0.out; have := mt (past_iff to step n).2 hp; omega
            clear hp
            rcases hpp with ⟨p1, p2⟩ | ⟨p1, p2⟩ <;>
            · go_wp2
              try rw [Exit.noGoto_ret]
              go_ret2
              rw [HF.out.1, HF.out.2]
              exact ⟨_, rfl, World.ownsRow_nil _ _ _ _, hb⟩
          · have e1 : ((acc.length : Int) == 65536) = false := by simp; omega
            have hl : acc.length < 65536 := by omega
            clear hfull
            have hpp : (0 < step ∧ ¬ to < n) ∨ (step < 0 ∧ ¬ n < to) := by have := H0.out; have := mt (past_iff to step n).2 hp; omega
            clear hp
            rcases hpp with ⟨p1, p2⟩ | ⟨p1, p2⟩ <;>
            · have c3 : acc.length + 1 ≤ maxLen := by unfold maxLen; omega
              have c4 : (acc.length + 1) * 8 ≤ 140737488355328 := by omega
              have C3 := Lib.hid c3; have C4 := Lib.hid c4; clear c3 c4
              go_wp2_with ((at_builtin; refine wpList_append_own _ rfl _ _ 40 rfl w.heap.size 2 i0 (.int .i64 0) 1 8 Tryd.underlying40 hi hz0 hz1 hz2 rfl (by decide) _ _ _ rfl (HO.out.alloc _) ⟨wr.heap.size, 0, none⟩ 1 1 [.int .i64 n] rfl rfl (one_new _ _ _) one_int C3.out C4.out (bsz hb _) ?_; intro v' w1 hown' hgrow _))
              have HO' : Hid (w1.ownsRow w.heap.size 2 1 v' (acc ++ [n]).length ((acc ++ [n]).map (Value.int .i64))) := by simpa [Hid] using hown'
              have hb' : Below w.heap.size w w1 := below_append (v := .slice av acc.length cv) hb hb.size HO.out hgrow
              clear hown' hgrow
              go_wp2_with (go_at_call 24; refine (add_any _ _ _ HN.out HS.out).mono ?_; rintro e w' ⟨rfl, rfl⟩)
              go_roundg (gk - 1)
              case measure => have := HK.out; omega
              case rel =>
                have hk := HK.out
                refine ⟨acc ++ [n], by simp; omega, by simp; omega, HO'.out, hb', ?_⟩
                by_cases hfit : fits (n + step) = true
                · exact .inl ⟨by rw [err_fit hfit], _, rfl, res_in _, by rw [res_fit hfit]; exact gone_next HG.out HP.out hfit hl⟩
                · have hfit' : fits (n + step) = false := by simpa using hfit
                  exact .inr ⟨by rw [err_no hfit'], gone_last HG.out HP.out hfit' hl⟩
      · have HR := Lib.hid hr; clear hr
        have HK := Lib.hid hgk; clear hgk
        have HF := Lib.hid (range_of HR.out H0.out)
        have HO := Lib.hid hown; clear hown
        go_wp2
        rw [Exit.noGoto_ret]
        go_ret2
        rw [HF.out.1, HF.out.2]
        exact ⟨_, rfl, HO.out, hb⟩
end Go.Proofs.YtlokoepljmlcgaaDoor
