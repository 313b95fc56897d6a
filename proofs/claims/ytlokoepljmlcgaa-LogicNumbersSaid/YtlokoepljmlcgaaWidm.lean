/-
  THE WALK of the reference's product of two wide numbers.
-/
import Derived.Test.YtlokoepljmlcgaaWidi
import Derived.Test.YtlokoepljmlcgaaMulp
import Derived.Deep.RegionHeld3
namespace Go.Proofs.Ytlokoepljmlcgaa
set_option linter.unusedSimpArgs false
set_option linter.unusedVariables false
open Go.RowKit

/-- What a product's walk holds: the boxes of what came in, of what is handed back, of what is made, and its digits' block. -/
structure Muling (w wr : World) (T e : TypeId) (na : Bool) (sa : Value) (nb : Bool) (sb : Value) (ng : Bool) (o g : Nat) (D : List Int) : Prop where
  A : Box2 wr w.heap.size (.bool na) sa T
  B : Box2 wr (w.heap.size + 1) (.bool nb) sb T
  R : Box2 wr (w.heap.size + 1 + 1) (.bool false) (.slice none 0 0) T
  O : Box2 wr o (.bool ng) (.slice (some ⟨g, 0, none⟩) 9 9) T
  D : Blk wr g D e
  og : o ≠ g
  ho : w.heap.size + 3 ≤ o
  hg : w.heap.size + 3 ≤ g
  below : Below w.heap.size w wr
theorem Muling.drewN {w wr : World} {T e : TypeId} {na : Bool} {sa : Value} {nb : Bool} {sb : Value} {ng : Bool} {o g : Nat} {D : List Int} (h : Muling w wr T e na sa nb sb ng o g D) (n : Nat) : Muling w (wr.drewN n) T e na sa nb sb ng o g D :=
  ⟨h.A, h.B, h.R, h.O, h.D, h.og, h.ho, h.hg, bdrewN h.below n⟩
theorem Muling.set {w wr : World} {T e : TypeId} {na : Bool} {sa : Value} {nb : Bool} {sb : Value} {ng : Bool} {o g : Nat} {D : List Int} (h : Muling w wr T e na sa nb sb ng o g D) (i : Nat) (x : Int) :
    Muling w (wr.setCell ⟨g, i, none⟩ (.int .i64 x)) T e na sa nb sb ng o g (D.set i x) := by
  have := h.hg
  exact ⟨h.A.other _ (by dsimp only; omega) _, h.B.other _ (by dsimp only; omega) _, h.R.other _ (by dsimp only; omega) _, h.O.other _ (by dsimp only; exact fun e => h.og e.symm) _, h.D.set i x, h.og, h.ho, h.hg, h.below.setCell (by dsimp only; omega) _⟩
theorem Muling.finish {w wr : World} {T e : TypeId} {na : Bool} {sa : Value} {nb : Bool} {sb : Value} {ng : Bool} {o g : Nat} {D : List Int} (h : Muling w wr T e na sa nb sb ng o g D) (hl : D.length = 9) :
    Box2 ((wr.setCell ⟨w.heap.size + 1 + 1, 0, none⟩ (.bool ng)).setCell ⟨w.heap.size + 1 + 1, 1, none⟩ (.slice (some ⟨g, 0, none⟩) 9 9)) (w.heap.size + 1 + 1) (.bool ng) (.slice (some ⟨g, 0, none⟩) 9 9) T ∧
    DigitsAt ((wr.setCell ⟨w.heap.size + 1 + 1, 0, none⟩ (.bool ng)).setCell ⟨w.heap.size + 1 + 1, 1, none⟩ (.slice (some ⟨g, 0, none⟩) 9 9)) (.slice (some ⟨g, 0, none⟩) 9 9) D ∧
    Below w.heap.size w ((wr.setCell ⟨w.heap.size + 1 + 1, 0, none⟩ (.bool ng)).setCell ⟨w.heap.size + 1 + 1, 1, none⟩ (.slice (some ⟨g, 0, none⟩) 9 9)) := by
  have := h.hg
  refine ⟨h.R.both _ _, ⟨_, 9, by rw [hl], ?_, by omega⟩, (h.below.setCell (p := ⟨w.heap.size + 1 + 1, 0, none⟩) (by dsimp only; omega) _).setCell (p := ⟨w.heap.size + 1 + 1, 1, none⟩) (by dsimp only; omega) _⟩
  exact ((h.D.other ⟨w.heap.size + 1 + 1, 0, none⟩ (by dsimp only; omega) _).other ⟨w.heap.size + 1 + 1, 1, none⟩ (by dsimp only; omega) _).row

def D0 : List Int := [0, 0, 0, 0, 0, 0, 0, 0, 0]
theorem muling1 {w W : World} {T e : TypeId} {na : Bool} {sa : Value} {nb : Bool} {sb : Value} (ng : Bool) (hA : Box2 W w.heap.size (.bool na) sa T) (hB : Box2 W (w.heap.size + 1) (.bool nb) sb T) (hC : Box2 W (w.heap.size + 1 + 1) (.bool false) (.slice none 0 0) T)
    (hb : Below w.heap.size w W) (hs : W.heap.size = w.heap.size + 3) :
    Muling w ((W.alloc (.cells (D0.map (Value.int .i64)).toArray e)).alloc (.cells #[.bool ng, .slice (some ⟨W.heap.size, 0, none⟩) 9 9] T)) T e na sa nb sb ng (W.heap.size + 1) W.heap.size D0 :=
  ⟨(hA.alloc _).alloc _, (hB.alloc _).alloc _, (hC.alloc _).alloc _, Box2.second _ _ _ _ _, (Below.heap_alloc _ _ _ (by simp)).trans (heap_alloc_new W _), by omega, by omega, by omega, (hb.alloc hb.size _).alloc (by simp; omega) _⟩
theorem muling2 {w W : World} {T e : TypeId} {na : Bool} {sa : Value} {nb : Bool} {sb : Value} (ng : Bool) (hA : Box2 W w.heap.size (.bool na) sa T) (hB : Box2 W (w.heap.size + 1) (.bool nb) sb T) (hC : Box2 W (w.heap.size + 1 + 1) (.bool false) (.slice none 0 0) T)
    (hb : Below w.heap.size w W) (hs : W.heap.size = w.heap.size + 3) :
    Muling w ((W.alloc (.cells #[.bool ng, .slice (some ⟨W.heap.size + 1, 0, none⟩) 9 9] T)).alloc (.cells (D0.map (Value.int .i64)).toArray e)) T e na sa nb sb ng W.heap.size (W.heap.size + 1) D0 := by
  refine ⟨(hA.alloc _).alloc _, (hB.alloc _).alloc _, (hC.alloc _).alloc _, (Box2.new _ _ _ _).alloc _, ?_, by omega, by omega, by omega, (hb.alloc hb.size _).alloc (by simp; omega) _⟩
  have := heap_alloc_new (W.alloc (.cells #[.bool ng, .slice (some ⟨W.heap.size + 1, 0, none⟩) 9 9] T)) (.cells (D0.map (Value.int .i64)).toArray e)
  rwa [World.size_alloc] at this

set_option maxRecDepth 100000 in
set_option maxHeartbeats 4000000 in
theorem wideMul_any (na nb : Bool) (a : Option Addr) (cap : Nat) (ds : List Int) (a' : Option Addr) (cap' : Nat) (es : List Int) (w : World) (hr : RowAt w a .i64 ds) (hr' : RowAt w a' .i64 es) (hD : Dig ds) (hE : Dig es)
    (hl : Hid (ds.length = 4)) (hl' : Hid (es.length = 4)) :
    Calls Try.prog 44 #[.agg #[.bool na, .slice a 4 cap], .agg #[.bool nb, .slice a' 4 cap']] w (RetWide (fun ng os => ng = (na != nb) ∧ val os = val ds * val es ∧ os.length = 9) w) := by
  have HR := Lib.hid hr; have HR' := Lib.hid hr'; have HD := Lib.hid hD; have HE := Lib.hid hE
  clear hr hr' hD hE
  have hmk : ∀ w, (Instr.makeSlice 53 (.int .i64 9) (.int .i64 9)).run Try.prog w = .ok (.slice (some ⟨w.heap.size, 0, none⟩) 9 9) (w.alloc (.cells #[.int .i64 0, .int .i64 0, .int .i64 0, .int .i64 0, .int .i64 0, .int .i64 0, .int .i64 0, .int .i64 0, .int .i64 0] 3)) := fun _ => by kernel_rfl
  have hw8 : IntKind.i64.wrap 8 = 8 := IntWalk.i64_in _ (by omega)
  have hw9 : IntKind.i64.wrap 9 = 9 := IntWalk.i64_in _ (by omega)
  have hw89 : IntKind.i64.wrap (8 + 1) = 9 := IntWalk.i64_in _ (by omega)
  go_enter Try.func44, Try.ntmps44
  go_upto_region 1 with (fail)
  go_cut [5] (fun s wx => ∃ o g, s = .pointer (some ⟨o, 0, none⟩) ∧ Muling w wx 55 3 na (.slice a 4 cap) nb (.slice a' 4 cap') (na != nb) o g D0)
  case first =>
    have hA : Box2 (((w.alloc (.cells #[.bool na, .slice a 4 cap] 55)).alloc (.cells #[.bool nb, .slice a' 4 cap'] 55)).alloc (.cells #[.bool false, .slice none 0 0] 55)) w.heap.size (.bool na) (.slice a 4 cap) 55 := ((Box2.new w _ _ _).alloc _).alloc _
    have hB : Box2 (((w.alloc (.cells #[.bool na, .slice a 4 cap] 55)).alloc (.cells #[.bool nb, .slice a' 4 cap'] 55)).alloc (.cells #[.bool false, .slice none 0 0] 55)) (w.heap.size + 1) (.bool nb) (.slice a' 4 cap') 55 := (Box2.second w _ _ _ _).alloc _
    have hC : Box2 (((w.alloc (.cells #[.bool na, .slice a 4 cap] 55)).alloc (.cells #[.bool nb, .slice a' 4 cap'] 55)).alloc (.cells #[.bool false, .slice none 0 0] 55)) (w.heap.size + 1 + 1) (.bool false) (.slice none 0 0) 55 := by
      have := Box2.second (w.alloc (.cells #[.bool na, .slice a 4 cap] 55)) (.cells #[.bool nb, .slice a' 4 cap'] 55) (.bool false) (.slice none 0 0) 55
      rwa [World.size_alloc] at this
    have hbel : Below w.heap.size w (((w.alloc (.cells #[.bool na, .slice a 4 cap] 55)).alloc (.cells #[.bool nb, .slice a' 4 cap'] 55)).alloc (.cells #[.bool false, .slice none 0 0] 55)) := ((ballocR _ _).alloc (by simp) _).alloc (by simp; omega) _
    have hsz : (((w.alloc (.cells #[.bool na, .slice a 4 cap] 55)).alloc (.cells #[.bool nb, .slice a' 4 cap'] 55)).alloc (.cells #[.bool false, .slice none 0 0] 55)).heap.size = w.heap.size + 3 := by simp
    generalize (((w.alloc (.cells #[.bool na, .slice a 4 cap] 55)).alloc (.cells #[.bool nb, .slice a' 4 cap'] 55)).alloc (.cells #[.bool false, .slice none 0 0] 55)) = W at *
    have HA := Lib.hid hA; have HB := Lib.hid hB; have HC := Lib.hid hC; have HBL := Lib.hid hbel; have HSZ := Lib.hid hsz
    have a0 := hA.c0; have a1 := hA.c1; have b0 := hB.c0; have b1 := hB.c1
    clear hA hB hC hbel hsz
    go_region_held3 (fun w' => w'.cell? ⟨w.heap.size, 0, none⟩ = some (.bool na) ∧ w'.cell? ⟨w.heap.size, 1, none⟩ = some (.slice a 4 cap) ∧ w'.cell? ⟨w.heap.size + 1, 0, none⟩ = some (.bool nb) ∧ w'.cell? ⟨w.heap.size + 1, 1, none⟩ = some (.slice a' 4 cap')) (go_keep) (fail)
    · go_wp2_with (fail)
      go_meet
      case rel => exact ⟨_, _, rfl, (muling1 (e := 3) (na != nb) HA.out HB.out HC.out HBL.out HSZ.out).drewN 1⟩
    · go_wp2_with (fail)
      go_meet
      case rel => exact ⟨_, _, rfl, (muling2 (e := 3) (na != nb) HA.out HB.out HC.out HBL.out HSZ.out).drewN 1⟩
  case rest =>
    obtain ⟨o, g, rfl, hM⟩ := hcut
    have HM := Lib.hid hM; clear hM hmk hw8 hw9 hw89
    obtain ⟨ng, hng⟩ : ∃ b, b = (na != nb) := ⟨_, rfl⟩
    rw [← hng] at HM
    have HNG := Lib.hid hng; clear hng
    have HLA := Lib.hid hl.out; have HLB := Lib.hid hl'.out
    go_wp2_with fail
    go_loopg [6] 4 (fun gk q wr => ∃ (i : Nat) (D : List Int), gk = 4 - i ∧ i ≤ 4 ∧ q = .int .i64 i ∧ D.length = 9 ∧ Dig D ∧ val D = prodT ds es i 0 ∧ Muling w wr 55 3 na (.slice a 4 cap) nb (.slice a' 4 cap') ng o g D)
    case atStart => exact ⟨0, D0, rfl, by omega, rfl, rfl, by unfold D0; intro d hd; simp at hd; subst hd; decide, by rw [prodT_zero, pv_zero, Int.zero_mul]; decide, HM.out⟩
    case round =>
      obtain ⟨i, D, hgi, hi, rfl, hDl, hDd, hDv, hMu⟩ := hrel
      have HI := Lib.hid hgi; have HDl := Lib.hid hDl; have HDd := Lib.hid hDd; have HDv := Lib.hid hDv; have HMu := Lib.hid hMu
      clear hgi hDl hDd hDv hMu
      have a1 := HMu.out.A.c1
      by_cases hlti : i < 4
      · have hdi : decide ((i : Int) < 4) = true := by simp; omega
        go_wp2_with fail
        go_loopg [7] 4 (fun gk q wr => ∃ (k : Nat) (D : List Int), gk = 4 - k ∧ k ≤ 4 ∧ q = .int .i64 k ∧ D.length = 9 ∧ Dig D ∧ val D = prodT ds es i k ∧ Muling w wr 55 3 na (.slice a 4 cap) nb (.slice a' 4 cap') ng o g D)
        case atStart => exact ⟨0, D, rfl, by omega, rfl, HDl.out, HDd.out, HDv.out, HMu.out⟩
        case round =>
          clear a1 HDl HDd HDv HMu
          obtain ⟨k, D, hgk, hk, rfl, hDl, hDd, hDv, hMu⟩ := hrel
          have HK := Lib.hid hgk; have HDl := Lib.hid hDl; have HDd := Lib.hid hDd; have HDv := Lib.hid hDv; have HMu := Lib.hid hMu
          clear hgk hDl hDd hDv hMu
          have a1 := HMu.out.A.c1; have b1 := HMu.out.B.c1
          by_cases hltk : k < 4
          · have HS := Lib.hid (mulAt_start HDl.out HDd.out HDv.out HD.out HE.out)
            obtain ⟨ba, oa, rfl, ca⟩ : ∃ b o, a = some ⟨b, o, none⟩ ∧ wr.cell? ⟨b, o + i, none⟩ = some (.int .i64 (ds.getD i 0)) := by
              rcases HR.out with h | ⟨b, o, ha, hc⟩
              · have := hl.out; subst h; simp at this
              · exact ⟨b, o, ha, by rw [HMu.out.below.cell (World.block_lt_of_cell? w _ (hc i (by have := hl.out; omega)))]; exact hc i (by have := hl.out; omega)⟩
            obtain ⟨bb, ob, rfl, cb⟩ : ∃ b o, a' = some ⟨b, o, none⟩ ∧ wr.cell? ⟨b, o + k, none⟩ = some (.int .i64 (es.getD k 0)) := by
              rcases HR'.out with h | ⟨b, o, ha, hc⟩
              · have := hl'.out; subst h; simp at this
              · exact ⟨b, o, ha, by rw [HMu.out.below.cell (World.block_lt_of_cell? w _ (hc k (by have := hl'.out; omega)))]; exact hc k (by have := hl'.out; omega)⟩
            obtain ⟨x0, x1⟩ := HD.out.getD i
            obtain ⟨y0, y1⟩ := HE.out.getD k
            generalize ds.getD i 0 = x at *
            generalize es.getD k 0 = y at *
            have hxy0 : 0 ≤ x * y := Int.mul_nonneg x0 y0
            have hxy1 : x * y ≤ 65536 * 65536 := by
              have h1 := Int.mul_le_mul_of_nonneg_right (show x ≤ 65536 by omega) y0
              omega
            have hw1 : IntKind.i64.wrap (x * y) = x * y := IntWalk.i64_in _ (by omega)
            go_wp2_with fail
            go_quiet (fail)
            have HMq := Lib.hid (HMu.out.drewN nq)
            obtain ⟨wq, hwq⟩ : ∃ wq, wq = wr.drewN nq := ⟨_, rfl⟩
            rw [← hwq] at HMq ⊢
            clear hwq HMu a1 b1 ca cb
            obtain ⟨p, hp⟩ : ∃ p, p = x * y := ⟨_, rfl⟩
            rw [← hp] at HS hxy0 hxy1 ⊢
            clear hp hw1
            go_wp2_with fail
            go_loopg [8, 9] (9 - (i + k)) (fun gk q q' wr => ∃ (at' : Nat) (s : Int) (D : List Int), gk = 9 - at' ∧ at' ≤ 8 ∧ q = .int .i64 s ∧ q' = .int .i64 at' ∧ MulAt ds es D i k at' s ∧ Muling w wr 55 3 na (.slice (some ⟨ba, oa, none⟩) 4 cap) nb (.slice (some ⟨bb, ob, none⟩) 4 cap') ng o g D)
            case atStart => exact ⟨i + k, p, D, rfl, by omega, rfl, by go_num, HS.out, HMq.out⟩
            case round =>
              clear HDl HDd HDv HS HMq
              obtain ⟨at', s, D, hga, hat, rfl, rfl, hA, hMu⟩ := hrel
              have HA := Lib.hid hA; have HMu := Lib.hid hMu; have HG := Lib.hid hga
              clear hA hMu hga
              by_cases hs : 0 < s
              · have h8 := mulAt_in HA.out HD.out HE.out HLA.out HLB.out hs
                have HN := Lib.hid (mulAt_next HA.out h8)
                have s1 := HA.out.2.2.2.1
                obtain ⟨d0, d1⟩ := HA.out.2.1.getD at'
                have c1 := HMu.out.O.c1
                have cd := HMu.out.D.cell (i := at') (by have := HA.out.1; omega)
                have fd := HMu.out.D.fr at'
                generalize D.getD at' 0 = d at *
                go_wp2
                go_roundg (9 - (at' + 1))
                case measure => have := HG.out; omega
                case rel => exact ⟨at' + 1, _, _, rfl, by omega, rfl, by go_num, HN.out, HMu.out.set _ _⟩
              · have HE2 := Lib.hid (mulAt_end HA.out hs)
                go_wp2
                go_roundg (4 - (k + 1))
                case measure => have := HK.out; omega
                case rel => exact ⟨k + 1, D, rfl, by omega, by go_num, HE2.out.1, HE2.out.2.1, HE2.out.2.2, HMu.out⟩
          · obtain rfl : k = 4 := by omega
            go_wp2
            go_roundg (4 - (i + 1))
            case measure => have := HI.out; omega
            case rel => exact ⟨i + 1, D, rfl, by omega, by go_num, HDl.out, HDd.out, by rw [HDv.out, prodT_end _ _ _ _ (by rw [HLB.out]; exact Nat.le_refl _), prodT_zero], HMu.out⟩
      · obtain rfl : i = 4 := by omega
        have c0 := HMu.out.O.c0; have c1 := HMu.out.O.c1
        have r0 := HMu.out.R.c0; have r1 := HMu.out.R.c1
        have g0 := HMu.out.R.fr 0; have g1 := HMu.out.R.fr 1
        go_wp2
        obtain ⟨hb, hd, hbel⟩ := HMu.out.finish HDl.out
        have k0 := hb.c0; have k1 := hb.c1
        generalize (wr.setCell ⟨w.heap.size + 1 + 1, 0, none⟩ (.bool ng)).setCell ⟨w.heap.size + 1 + 1, 1, none⟩ (.slice (some ⟨g, 0, none⟩) 9 9) = W at *
        refine bodyPost_ret (v := .agg #[.bool ng, .slice (some ⟨g, 0, none⟩) 9 9]) (by simp [results, Try.results44, go_sem, k0, k1]) rfl ⟨ng, .slice (some ⟨g, 0, none⟩) 9 9, D, rfl, hd, HDd.out, ⟨HNG.out, ?_, HDl.out⟩, hbel⟩
        rw [HDv.out, prodT_zero, pv_all (by rw [HLA.out]; exact Nat.le_refl _)]
end Go.Proofs.Ytlokoepljmlcgaa
