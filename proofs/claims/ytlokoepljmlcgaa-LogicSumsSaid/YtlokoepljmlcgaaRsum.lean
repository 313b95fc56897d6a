/-
  THE WALK of the reference's sum of many numbers.
-/
import Derived.Test.YtlokoepljmlcgaaWidi
import Derived.Test.YtlokoepljmlcgaaSum
namespace Go.Proofs.Ytlokoepljmlcgaa
set_option linter.unusedSimpArgs false
set_option linter.unusedVariables false
open Go.RowKit

/-- A wide number in a box of its own, so great, of few digits. -/
structure WideBox (w0 w : World) (B : Nat) (T : TypeId) (S : Int) (L : Nat) (ng : Bool) (a : Option Addr) (n cap : Nat) (ds : List Int) : Prop where
  box : Box2 w B (.bool ng) (.slice a n cap) T
  len : n = ds.length
  row : RowAt w a .i64 ds
  dig : Dig ds
  val : sgv ng ds = S
  few : n ≤ L
  fit : n ≤ cap
  old : w0.heap.size ≤ B
  below : Below w0.heap.size w0 w

theorem top_zero {ds : List Int} {ng : Bool} {S : Int} {k : Nat} (hD : Dig ds) (hl : ds.length = k + 1) (hk : 5 ≤ k) (hv : sgv ng ds = S) (hS : -(1208925819614629174706176 : Int) < S ∧ S < 1208925819614629174706176) : ds.getD k 0 = 0 := by
  have h1 := pv_succ ds k
  rw [pv_all (by omega)] at h1
  have h2 := pv_bd hD k
  have h3 := hD.getD k
  have h4 : pw 5 ≤ pw k := pw_mono hk
  have h5 : pw 5 = 1208925819614629174706176 := by decide
  rcases Int.lt_or_le 0 (ds.getD k 0) with h | h
  · have h6 : pw k * 1 ≤ pw k * ds.getD k 0 := Int.mul_le_mul_of_nonneg_left (by omega) (Int.le_of_lt (pw_pos k))
    unfold sgv at hv
    split at hv <;> omega
  · omega
theorem trim_val {ds : List Int} {k : Nat} (hl : ds.length = k + 1) (h0 : ds.getD k 0 = 0) : val (ds.take k) = val ds := by
  have h1 := pv_succ ds k
  rw [pv_all (by omega), h0] at h1
  unfold pv at h1; omega

theorem WideBox.trim {w0 w : World} {B : Nat} {T : TypeId} {S : Int} {L : Nat} {ng : Bool} {a : Option Addr} {k cap : Nat} {ds : List Int} (h : WideBox w0 w B T S L ng a (k + 1) cap ds) (h0 : ds.getD k 0 = 0) :
    WideBox w0 (w.setCell ⟨B, 1, none⟩ (.slice a k cap)) B T S L ng a k cap (ds.take k) := by
  have hl := h.len
  refine ⟨h.box.set1 _, by simp; omega, ?_, h.dig.take k, ?_, by have := h.few; omega, by have := h.fit; omega, h.old, h.below.setCell h.old _⟩
  · have hr := h.row.take k
    rcases hr with hr | ⟨b, o, ha, hc⟩
    · exact .inl hr
    · refine .inr ⟨b, o, ha, fun i hi => ?_⟩
      have hci := hc i hi
      by_cases hne : (⟨B, 1, none⟩ : Addr) = ⟨b, o + i, none⟩
      · rw [← hne, h.box.c1] at hci; cases hci
      · rw [World.cell?_setCell_other _ _ _ _ hne]; exact hci
  · rw [← h.val]; unfold sgv; rw [trim_val hl.symm h0]

theorem WideBox.fine {w0 w : World} {B : Nat} {T : TypeId} {S : Int} {L : Nat} {ng : Bool} {a : Option Addr} {n cap : Nat} {ds : List Int} (h : WideBox w0 w B T S L ng a n cap ds) (L' : Nat) (hn : n ≤ L') : WideBox w0 w B T S L' ng a n cap ds :=
  ⟨h.box, h.len, h.row, h.dig, h.val, hn, h.fit, h.old, h.below⟩

/-- Behind a sum with what is in the box, laid back into it. -/
theorem WideBox.next {w0 w w3 : World} {B : Nat} {T : TypeId} {S z : Int} {L : Nat} {ng : Bool} {a : Option Addr} {n cap : Nat} {ds : List Int} (h : WideBox w0 w B T S L ng a n cap ds)
    {n3 : Bool} {a3 : Option Addr} {c3 : Nat} {os fs : List Int} (hb : Below w.heap.size w w3) (hr : RowAt w3 a3 .i64 os) (hO : Dig os) (hs : sgv n3 os = sgv ng ds + z) (hl : os.length = max ds.length fs.length + 1) (hf : fs.length = 4) (hL : L = 5) (hcp : os.length ≤ c3) :
    WideBox w0 ((w3.setCell ⟨B, 0, none⟩ (.bool n3)).setCell ⟨B, 1, none⟩ (.slice a3 os.length c3)) B T (S + z) 6 n3 a3 os.length c3 os := by
  have hB := h.box.below hb h.box.lt
  have hn := h.len
  have hfew := h.few
  have hq : ∀ (w' : World) (x y v : Value), Box2 w' B x y T → (∀ q, x ≠ .int .i64 q) → ∀ (b o i : Nat) (q : Int), w'.cell? ⟨b, o + i, none⟩ = some (.int .i64 q) → (∀ q, y ≠ .int .i64 q) → (w'.setCell ⟨B, 0, none⟩ v).cell? ⟨b, o + i, none⟩ = some (.int .i64 q) ∧ (w'.setCell ⟨B, 1, none⟩ v).cell? ⟨b, o + i, none⟩ = some (.int .i64 q) := by
    intro w' x y v hx nx b o i q hc ny
    constructor
    · by_cases hne : (⟨B, 0, none⟩ : Addr) = ⟨b, o + i, none⟩
      · rw [← hne, hx.c0] at hc; injection hc with hc; exact absurd hc (nx q)
      · rw [World.cell?_setCell_other _ _ _ _ hne]; exact hc
    · by_cases hne : (⟨B, 1, none⟩ : Addr) = ⟨b, o + i, none⟩
      · rw [← hne, hx.c1] at hc; injection hc with hc; exact absurd hc (ny q)
      · rw [World.cell?_setCell_other _ _ _ _ hne]; exact hc
  refine ⟨hB.both _ _, rfl, ?_, hO, by rw [hs, h.val], by omega, hcp, h.old, ((h.below.trans (hb.mono h.below.size)).setCell h.old _).setCell h.old _⟩
  rcases hr with hr | ⟨b, o, ha, hc⟩
  · exact .inl hr
  · refine .inr ⟨b, o, ha, fun i hi => ?_⟩
    have h1 := (hq w3 _ _ (.bool n3) hB (by intro q hq; cases hq) b o i _ (hc i hi) (by intro q hq; cases hq)).1
    exact (hq _ _ _ (.slice a3 os.length c3) (hB.set0 (.bool n3)) (by intro q hq; cases hq) b o i _ h1 (by intro q hq; cases hq)).2

theorem digitsAt_form {w : World} {v : Value} {ds : List Int} (h : DigitsAt w v ds) : ∃ a cap, v = .slice a ds.length cap ∧ RowAt w a .i64 ds ∧ ds.length ≤ cap := h

set_option maxRecDepth 100000 in
set_option maxHeartbeats 4000000 in
theorem rsum_any (a : Option Addr) (n cap : Nat) (zs : List Int) (w : World) (hn : Hid (n = zs.length)) (hr : RowAt w a .i64 zs) (hz : Hid (∀ z ∈ zs, In64 z)) (hm : n ≤ 1000) :
    Calls Try.prog 11 #[.slice a n cap] w fun e w' => e = .returned (.tuple #[.int .i64 (res zs.sum), .int .i64 (err zs.sum)]) ∧ Below w.heap.size w w' := by
  have HR := Lib.hid hr; clear hr
  go_enter Try.func11, Try.ntmps11
  go_wp2_with fail
  go_fit (of64_any 0 _ (fl (by decide)))
  rintro e w1 ⟨n1, sv, ds, rfl, hd, hD, ⟨hn1, hv1, hl1⟩, hb1⟩
  obtain ⟨a1, c1, rfl, hr1, hcpc1⟩ := digitsAt_form hd
  have HW : Hid (WideBox w (w1.alloc (.cells #[.bool n1, .slice a1 ds.length c1] 55)) w1.heap.size 55 0 5 n1 a1 ds.length c1 ds) :=
    ⟨Box2.new _ _ _ _, rfl, hr1.below (ballocR _ _), hD, sgv_abs 0 ds n1 hn1 hv1, by omega, hcpc1, hb1.size, hb1.alloc hb1.size _⟩
  clear hd hr1 hD hn1 hv1 hl1 hb1
  go_wp2_with fail
  go_loopg [5] n (fun gk i wr => ∃ (k : Nat) (ng : Bool) (sa : Option Addr) (m c : Nat) (es : List Int), gk = n - k ∧ k ≤ n ∧ i = .int .i64 k ∧ WideBox w wr w1.heap.size 55 (zs.take k).sum 5 ng sa m c es)
  case atStart => exact ⟨0, n1, a1, _, c1, ds, rfl, Nat.zero_le _, rfl, HW.out⟩
  case round =>
    obtain ⟨k, ng, sa, m, c, es, hgk, hk, rfl, hW⟩ := hrel
    have HWr := Lib.hid hW; have HK := Lib.hid hgk; clear hW hgk
    by_cases hlt : k < n
    · go_upto_region 5 with (fail)
      go_cut [13] (fun _ wx => ∃ (ng : Bool) (sa : Option Addr) (m c : Nat) (es : List Int), WideBox w wx w1.heap.size 55 (zs.take (k + 1)).sum 6 ng sa m c es)
      case first =>
        have hk' : k < zs.length := by have := hn.out; omega
        obtain rfl : m = es.length := HWr.out.len
        obtain ⟨b, o, rfl, hck⟩ : ∃ b o, a = some ⟨b, o, none⟩ ∧ w.cell? ⟨b, o + k, none⟩ = some (.int .i64 (zs.getD k 0)) := by
          rcases HR.out with h | ⟨b, o, ha, hc⟩
          · subst h; simp at hk'
          · exact ⟨b, o, ha, hc k hk'⟩
        have hckr : wr.cell? ⟨b, o + k, none⟩ = some (.int .i64 (zs.getD k 0)) := by rw [HWr.out.below.cell (World.block_lt_of_cell? w ⟨b, o + k, none⟩ hck)]; exact hck
        have HI : Hid (In64 (zs.getD k 0)) := by apply hz.out; simp [hk']
        have HS : Hid ((zs.take (k + 1)).sum = (zs.take k).sum + zs.getD k 0) := by rw [take_succ_getD 0 zs k hk', sum_snoc]; rfl
        generalize zs.getD k 0 = z at *
        clear hck hk'
        have c0 := HWr.out.box.c0; have c1 := HWr.out.box.c1
        have hblt := HWr.out.box.lt
        go_region_with (first
          | (go_at_call 36; go_fit (of64_any _ _ HI.out); rintro e w2 ⟨n2, sv, fs, rfl, hd2, hD2, hv2, hb2'⟩; have hb2 : Below wr.heap.size wr w2 := undrew hb2'; clear hb2'; obtain ⟨a2, c2, rfl, hr2, hcpc2⟩ := digitsAt_form hd2; have HV2 := Lib.hid hv2; clear hv2; have q0 := (hb2.cell (p := ⟨w1.heap.size, 0, none⟩) hblt).trans c0; have q1 := (hb2.cell (p := ⟨w1.heap.size, 1, none⟩) hblt).trans c1)
          | (go_at_call 37; go_fit (wideAdd_any _ _ _ _ _ _ _ _ _ (HWr.out.row.below hb2) hr2 HWr.out.dig hD2 (by have := HWr.out.few; omega) (by have := HV2.out.2.2; omega)); rintro e w3 ⟨n3, sv3, os, rfl, hd3, hO, hs3, hb3⟩; obtain ⟨a3, c3, rfl, hr3, hcpc3⟩ := digitsAt_form hd3; have HS3 := Lib.hid hs3; clear hs3; have HB3 := HWr.out.box.below (hb2.trans (hb3.mono hb2.size)) hblt; have r0 := HB3.c0; have r1 := HB3.c1; have g0 := HB3.fr 0; have g1 := HB3.fr 1))
        all_goals
          go_wp2_with (fail)
          go_meet
          case rel =>
            have hsg := sgv_abs z fs n2 HV2.out.1 HV2.out.2.1
            have hs3 := HS3.out.1
            rw [hsg] at hs3
            rw [HS.out]
            exact ⟨n3, a3, os.length, c3, os, HWr.out.next (hb2.trans (hb3.mono hb2.size)) hr3 hO hs3 HS3.out.2 HV2.out.2.2 rfl hcpc3⟩
      case rest =>
        obtain ⟨ng2, sa2, m2, c2, es2, hW2⟩ := hcut
        have hbd : Hid (-(1208925819614629174706176 : Int) < (zs.take (k + 1)).sum ∧ (zs.take (k + 1)).sum < 1208925819614629174706176) := by
          have h1 := sum_bd (zs.take (k + 1)) (fun z hz' => hz.out z (List.mem_of_mem_take hz'))
          have h2 : (zs.take (k + 1)).length ≤ 1000 := by simp; omega
          unfold Hid; omega
        have HW2 := Lib.hid hW2
        clear hW2 HWr
        obtain ⟨S, hSe⟩ : ∃ S, (zs.take (k + 1)).sum = S := ⟨_, rfl⟩
        rw [hSe] at hbd HW2
        have HSE := Lib.hid hSe; clear hSe
        go_wp2_with fail
        go_loopg [35] m2 (fun gk2 _ wr2 => ∃ (ng : Bool) (sa : Option Addr) (c : Nat) (es : List Int), WideBox w wr2 w1.heap.size 55 S 6 ng sa gk2 c es)
        case atStart => exact ⟨ng2, sa2, c2, es2, HW2.out⟩
        case round =>
          obtain ⟨ng3, sa3, c3, es3, hW3⟩ := hrel
          have HW3 := Lib.hid hW3; clear hW3
          have b1 := HW3.out.box.c1
          have bf := HW3.out.box.fr 1
          by_cases h6 : gk = 6
          · subst h6
            have hfit := HW3.out.fit
            have hlen := HW3.out.len
            have ht := top_zero HW3.out.dig hlen.symm (by omega) HW3.out.val hbd.out
            obtain ⟨b3, o3, rfl, hc5⟩ : ∃ b o, sa3 = some ⟨b, o, none⟩ ∧ wr.cell? ⟨b, o + 5, none⟩ = some (.int .i64 0) := by
              rcases HW3.out.row with h | ⟨b, o, ha, hc⟩
              · subst h; simp at hlen
              · exact ⟨b, o, ha, by rw [hc 5 (by omega), ht]⟩
            have HT := Lib.hid (HW3.out.trim ht)
            clear ht hlen
            go_wp2
            go_roundg 5
            case measure => omega
            case rel => exact ⟨ng3, some ⟨b3, o3, none⟩, c3, es3.take 5, HT.out⟩
          · have hle : gk ≤ 5 := by have := HW3.out.few; omega
            have hlt5 : ¬ (5 : Int) < (gk : Int) := by omega
            have hd5 : decide ((5 : Int) < (gk : Int)) = false := by simp; omega
            clear h6
            go_wp2
            go_roundg (n - (k + 1))
            case measure => have := HK.out; omega
            case rel => exact ⟨k + 1, ng3, sa3, gk, c3, es3, rfl, by omega, by go_num, by rw [HSE.out]; exact HW3.out.fine 5 hle⟩
    · obtain rfl : k = n := by omega
      have hS : (zs.take k).sum = zs.sum := by rw [List.take_of_length_le (by have := hn.out; omega)]
      rw [hS] at HWr
      obtain rfl : m = es.length := HWr.out.len
      have b0 := HWr.out.box.c0
      have b1 := HWr.out.box.c1
      go_wp2_with (go_at_call 38; go_fit (to64_any ng sa _ c es _ rfl HWr.out.row HWr.out.dig (by have := HWr.out.few; omega)); rintro e w4 ⟨rfl, hb4⟩)
      go_ret2
      exact ⟨ret2 (by rw [HWr.out.val]) (by rw [HWr.out.val]), HWr.out.below.trans (hb4.mono HWr.out.below.size)⟩
end Go.Proofs.Ytlokoepljmlcgaa
