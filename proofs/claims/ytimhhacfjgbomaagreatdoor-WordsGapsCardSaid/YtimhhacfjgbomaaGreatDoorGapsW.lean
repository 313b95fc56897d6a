/-
  THE WALK of WordsGaps.
-/
import Derived.Test.YtimhhacfjgbomaaGreatDoorBackW
import Derived.Test.YtimhhacfjgbomaaGreatDoorGapsP
import Derived.OpenShut
namespace Go.Proofs.YtimhhacfjgbomaaGreatDoor
set_option linter.unusedSimpArgs false
set_option linter.unusedVariables false
open Go.RowKit Go.Shelf

/-- The gaps, as they are laid. -/
def gapC : Array Value := #[.string ⟨#[32]⟩, .string ⟨#[10]⟩, .string ⟨#[32, 47, 42, 32, 39, 32, 47, 47, 32, 42, 42, 47]⟩, .string ⟨#[9, 13, 32, 47, 47, 32, 97, 34, 91, 47, 42, 10]⟩]
theorem gapC_at (V : World) (t : TypeId) (G : Nat) (h : G < 4) : (V.alloc (.cells #[.string ⟨#[32]⟩, .string ⟨#[10]⟩, .string ⟨#[32, 47, 42, 32, 39, 32, 47, 47, 32, 42, 42, 47]⟩, .string ⟨#[9, 13, 32, 47, 47, 32, 97, 34, 91, 47, 42, 10]⟩] t)).cell? ⟨V.heap.size, G, none⟩ = some (.string ⟨(gapT G).toArray⟩) := by
  have hb := new_at V (.cells #[.string ⟨#[32]⟩, .string ⟨#[10]⟩, .string ⟨#[32, 47, 42, 32, 39, 32, 47, 47, 32, 42, 42, 47]⟩, .string ⟨#[9, 13, 32, 47, 47, 32, 97, 34, 91, 47, 42, 10]⟩] t)
  rw [Lib.cell_of_heap hb]
  match G, h with
  | 0, _ => rfl
  | 1, _ => rfl
  | 2, _ => rfl
  | 3, _ => rfl
/-- What holds at the head of the loop. -/
structure GpI (W : World) (l : List Gw) (zs : List Int) (j : Nat) (T : ByteArray) (pv : Value) (wr : World) : Prop where
  text : T.data.toList = gtext zs (l.take j)
  may : ∀ g ∈ l.take j, g.may = true
  own : wr.ownsRow W.heap.size 3 1 pv j ((gplace zs (l.take j)).map (Value.int .i64))
  bel : Below W.heap.size W wr
theorem GpI.next {W : World} {l : List Gw} {zs : List Int} {j : Nat} {T : ByteArray} {pv : Value} {wr w' : World} (h : GpI W l zs j T pv wr) (hb : Below wr.heap.size wr w') : GpI W l zs j T pv w' :=
  ⟨h.text, h.may, h.own.kept (only_of_below hb none) (by by_cases hv : pv.ownBlock = none; exact .inl hv; exact .inr hv), h.bel.trans (hb.mono h.bel.size)⟩

theorem GpI.grow {W : World} {l : List Gw} {zs : List Int} {j : Nat} {T gb S : ByteArray} {pv v' : Value} {V w3 : World} {g : Gw} {xs : List Value} (h : GpI W l zs j T pv V)
    (ho : V.ownsRow W.heap.size 3 1 pv j xs) (hown : w3.ownsRow W.heap.size 3 1 v' (j + 1) (((gplace zs (l.take j)).map (Value.int .i64)) ++ [.int .i64 ((T.size : Int) + gb.size)])) (hgrow : (V.alloc (.cells #[.int .i64 ((T.size : Int) + gb.size)] 3)).grownBy w3 pv.ownBlock)
    (htx : gtext zs (l.take (j + 1)) = gtext zs (l.take j) ++ (gapT (gapN zs j) ++ g.tell)) (hpl : gplace zs (l.take (j + 1)) = gplace zs (l.take j) ++ [(((gtext zs (l.take j)).length + (gapT (gapN zs j)).length : Nat) : Int)])
    (hmy : ∀ g ∈ l.take (j + 1), g.may = true) (hS : S.data.toList = g.tell) (hgb : gb.data.toList = gapT (gapN zs j)) : GpI W l zs (j + 1) (T ++ gb ++ S) v' w3 := by
  refine ⟨?_, hmy, ?_, below_append h.bel h.bel.size ho hgrow⟩
  · have e : (T ++ gb ++ S).data.toList = T.data.toList ++ (gb.data.toList ++ S.data.toList) := by simp
    rw [e, h.text, hS, hgb, htx]
  · rw [hpl, List.map_append]
    have e1 : (gtext zs (l.take j)).length = T.size := by rw [← h.text, sz]
    have e2 : (gapT (gapN zs j)).length = gb.size := by rw [← hgb, sz]
    have e3 : (((gtext zs (l.take j)).length + (gapT (gapN zs j)).length : Nat) : Int) = (T.size : Int) + gb.size := by rw [e1, e2]; omega
    rw [e3]
    exact hown
theorem row_of {k : IntKind} {w : World} {a : Option Addr} {len cap : Nat} {zs : List Int} (h : IsRow k w a len cap zs) : RowAt w a k (zs.take len) ∧ (zs.take len).length = len ∧ len ≤ cap := by
  rcases h with ⟨rfl, rfl, rfl, rfl⟩ | ⟨x, rfl, hl, hm, hz, hc, hw⟩
  · exact ⟨.inl rfl, rfl, Nat.le_refl _⟩
  · refine ⟨?_, by simp; omega, hl⟩
    obtain ⟨b, o, s⟩ := x
    by_cases h0 : len = 0
    · subst h0; exact .inl rfl
    · have hc0 := hc 0 (by omega)
      have hs : s = none := by simpa [Addr.add] using World.cell?_spot hc0
      subst hs
      refine .inr ⟨b, o, rfl, fun i hi => ?_⟩
      simp at hi
      have := hc i (by omega)
      simp only [Addr.add_lit] at this
      rw [this]
      simp [List.getD_eq_getElem?_getD, show i < len by omega]
theorem RowAt.cell {w : World} {a : Option Addr} {k : IntKind} {zs : List Int} (h : RowAt w a k zs) {i : Nat} (hi : i < zs.length) : ∃ b o, a = some ⟨b, o, none⟩ ∧ w.cell? ⟨b, o + i, none⟩ = some (.int k (zs.getD i 0)) := by
  rcases h with h | ⟨b, o, rfl, h⟩
  · subst h; simp at hi
  · exact ⟨b, o, rfl, h i hi⟩

set_option maxHeartbeats 8000000 in
set_option maxRecDepth 100000 in
theorem gaps_walk {a b : Option Addr} {l : List Gw} {zs : List Int} (n cap n' cap' : Nat) (W : World) (hl : Gws W a l) (hn : n = l.length) (hf : ∀ g ∈ l, g.n < 18446744073709551616) (hz : RowAt W b .i64 zs) (hn' : n' = zs.length) (hL : Laid W) :
    Calls Tryz.prog 10 #[.slice a n cap, .slice b n' cap'] W fun e W' => e = .returned (.bool true) ∧ Below W.heap.size W W' := by
  obtain ⟨i0, hinf, hz0, hz1, hz2⟩ := info_parts (P := Tryz.prog) (e := 3) (z := .int .i64 0) (size := 1) (bytes := 8) (by kernel_rfl)
  have HE := Lib.hid (Env.start hL)
  have HW : Hid (∀ V, Env W.heap.size V → Calls Tryz.prog 11 #[] V fun e w' => e = .returned (.bool true) ∧ Below V.heap.size V w') := Lib.hid fun V h => works_any V h
  have H0 := Lib.hid (small_any n cap W hl hn)
  have HG := Lib.hid hl
  have HN := Lib.hid hn
  have HF := Lib.hid hf
  have HZ := Lib.hid hz
  have HN' := Lib.hid hn'
  clear hL hl hn hf hz hn'
  go_enter Tryz.func10, Tryz.ntmps10
  go_wp2_with (go_at_call 27; refine H0.out.mono ?_)
  rintro e w1 ⟨⟨bb, rfl, hb⟩, rfl⟩
  cases bb with
  | false =>
    go_wp2_with (go_at_call 11; refine (HW.out _ HE.out).mono ?_; rintro e w' ⟨rfl, hb⟩)
    go_ret
    exact ⟨rfl, hb⟩
  | true =>
    have hsm := hb rfl
    have HSM := Lib.hid hsm
    have hn200 : n ≤ 200 := by have := HN.out; have := hsm.1; omega
    clear hb H0 hsm
    go_wp2_with fail
    go_loopg [5, 6, 7] n (fun gk t pv v wr => ∃ (j : Nat) (T : ByteArray), gk = n - j ∧ t = .string T ∧ v = .int .i64 j ∧ j ≤ n ∧ GpI W l zs j T pv wr)
    case atStart => exact ⟨0, ⟨#[]⟩, rfl, rfl, rfl, by omega, ⟨rfl, by simp, World.ownsRow_nil _ _ _ _, Below.refl _ _⟩⟩
    case round =>
      obtain ⟨j, T, rfl, rfl, rfl, hj, hI⟩ := hrel
      have HI := Lib.hid hI
      clear hI
      by_cases hlt : j < n
      · obtain ⟨g, p, o, hg, rfl, hat⟩ := (HG.out.below HI.out.bel).get (i := j) (by rw [← HN.out]; exact hlt)
        have HGM := Lib.hid (List.mem_of_getElem? hg)
        have hb1 := ballocR wr (.cells #[.int .i64 g.k, .int .i64 g.p, .string g.t, .int .u64 g.n] 33)
        have hE1 := (HE.out.below HI.out.bel).below hb1
        have hts := HSM.out.short g HGM.out
        have hpo := printL_one g (by have := HF.out g HGM.out; omega) (by omega)
        have hPr := printg_any (l := [g]) (T := (printL [g]).1) (E := (printL [g]).2) 1 1 _ (gws_one (gw_new (w := wr) g 33)) rfl (prn_small (by simp) (by simpa using hts) (by simpa using hts) (by simpa using HF.out g HGM.out)) (by decide) rfl hE1
        rw [hpo] at hPr
        obtain ⟨c0, c1, c2, c3⟩ := hat
        cases hmay : g.may with
        | false =>
          rw [hmay] at hPr
          have HP : Hid (Calls Tryz.prog 26 #[.slice (some ⟨wr.heap.size, 0, none⟩) 1 1] (wr.alloc (.cells #[.int .i64 g.k, .int .i64 g.p, .string g.t, .int .u64 g.n] 33)) fun e w' => e = .returned (.tuple #[.string ⟨#[]⟩, .int .i64 2]) ∧ Below (wr.alloc (.cells #[.int .i64 g.k, .int .i64 g.p, .string g.t, .int .u64 g.n] 33)).heap.size (wr.alloc (.cells #[.int .i64 g.k, .int .i64 g.p, .string g.t, .int .u64 g.n] 33)) w') := Lib.hid hPr
          have HB1 := Lib.hid (HI.out.bel.trans (hb1.mono HI.out.bel.size))
          clear hPr hpo hmay hts hE1 hb1 hg
          go_wp2_with (go_at_call 26; refine HP.out.mono ?_)
          rintro e w2 ⟨rfl, hb2⟩
          have hb3 := HB1.out.trans (hb2.mono HB1.out.size)
          have E3 := Lib.hid (HE.out.below hb3)
          go_wp2_with (first
            | (go_at_call 14; refine (num_any _ _).mono ?_; rintro e w' ⟨rfl, rfl⟩)
            | (go_at_call 11; refine (HW.out _ E3.out).mono ?_; rintro e w' ⟨rfl, hb⟩))
          go_ret
          exact ⟨rfl, hb3.trans (hb.mono hb3.size)⟩
        | true =>
          rw [hmay] at hPr
          have HP : Hid (Calls Tryz.prog 26 #[.slice (some ⟨wr.heap.size, 0, none⟩) 1 1] (wr.alloc (.cells #[.int .i64 g.k, .int .i64 g.p, .string g.t, .int .u64 g.n] 33)) fun e w' => e = .returned (.tuple #[.string ⟨g.tell.toArray⟩, .int .i64 0]) ∧ Below (wr.alloc (.cells #[.int .i64 g.k, .int .i64 g.p, .string g.t, .int .u64 g.n] 33)).heap.size (wr.alloc (.cells #[.int .i64 g.k, .int .i64 g.p, .string g.t, .int .u64 g.n] 33)) w') := Lib.hid hPr
          have HI1 := Lib.hid (HI.out.next hb1)
          have htx := gtext_next zs hg hmay
          have hpl := gplace_next zs hg
          have htl := tell_len (k := g.k) (t := g.t.data.toList) (n := g.n) (by have := HF.out g HGM.out; omega)
          rw [sz] at htl
          have htl : g.tell.length ≤ 6 * g.t.size + 20 := htl
          have hmy : ∀ x ∈ l.take (j + 1), x.may = true := by
            rw [List.take_add_one, hg]
            intro x hx
            rcases List.mem_append.1 hx with hx | hx
            · exact HI.out.may x hx
            · simp at hx; subst hx; exact hmay
          have hgl := gtext_len zs (l.take j) HI.out.may
          have hsl := take_sum ((l.map Gw.tell).map fun x => x.length + 1) j
          rw [← List.map_take, ← List.map_take] at hsl
          have hjl := joined_len l (fun x hx => by have := HF.out x hx; omega)
          have hTz : T.size ≤ 33000 := by
            rw [← sz, HI.out.text]
            have h1 := HSM.out.1
            have h2 := HSM.out.2
            rw [List.length_take] at hgl
            omega
          have HTX := Lib.hid htx
          have HPL := Lib.hid hpl
          have HMY := Lib.hid hmy
          have hG4 := gapN_lt zs j
          have hgl12 := gapT_len (gapN zs j)
          obtain ⟨S, hS⟩ : ∃ S : ByteArray, (⟨g.tell.toArray⟩ : ByteArray) = S := ⟨_, rfl⟩
          have hSl : S.data.toList = g.tell := by rw [← hS]
          have hSz : S.size ≤ 24020 := by rw [← sz, hSl]; omega
          rw [hS] at HP
          have HSB := Lib.hid hSl
          clear hPr hpo hmay hts hE1 hb1 htx hpl htl hmy hgl hsl hjl hS hSl
          go_wp2_with (go_at_call 26; refine HP.out.mono ?_)
          rintro e w2 ⟨rfl, hb2⟩
          have HI2 := Lib.hid (HI1.out.next hb2)
          clear hb2 HI HI1 HP c0 c1 c2 c3 hg
          obtain ⟨gb, hgb⟩ : ∃ gb : ByteArray, (⟨(gapT (gapN zs j)).toArray⟩ : ByteArray) = gb := ⟨_, rfl⟩
          have hgbl : gb.data.toList = gapT (gapN zs j) := by rw [← hgb]
          have hgbz : gb.size ≤ 12 := by rw [← sz, hgbl]; omega
          have hgc := gapC_at w2 9 (gapN zs j) hG4
          rw [hgb] at hgc
          have HGB := Lib.hid hgbl
          have k1 : ¬ 9223372036854775807 < T.size + gb.size := by omega
          have k2 : ¬ 9223372036854775807 < T.size + gb.size + S.size := by omega
          clear hgb hgbl hgl12
          obtain ⟨ap, cp, rfl⟩ := owns_form HI2.out.own
          by_cases hjn : j < n'
          · obtain ⟨bz, oz, rfl, hcz⟩ := (HZ.out.below HI2.out.bel).cell (i := j) (by rw [← HN'.out]; exact hjn)
            have hand : bits .and .i64 (zs.getD j 0) 3 = ((gapN zs j : Nat) : Int) := by
              rw [and3]; unfold gapN; rw [if_pos (by rw [← HN'.out]; exact hjn)]; omega
            obtain ⟨G, hGG⟩ : ∃ G, gapN zs j = G := ⟨_, rfl⟩
            rw [hGG] at hand hgc hG4
            have HGG := Lib.hid hGG
            clear hGG
            generalize zs.getD j 0 = zj at *
            have hb3 := ballocR w2 (.cells #[.string ⟨#[32]⟩, .string ⟨#[10]⟩, .string ⟨#[32, 47, 42, 32, 39, 32, 47, 47, 32, 42, 42, 47]⟩, .string ⟨#[9, 13, 32, 47, 47, 32, 97, 34, 91, 47, 42, 10]⟩] 9)
            have HI3 := Lib.hid (HI2.out.next hb3)
            go_upto_region 15 with (go_at_call 14; refine (num_any _ _).mono ?_; rintro e w' ⟨rfl, rfl⟩)
            clear hgc hb3
            generalize w2.alloc (.cells #[.string ⟨#[32]⟩, .string ⟨#[10]⟩, .string ⟨#[32, 47, 42, 32, 39, 32, 47, 47, 32, 42, 42, 47]⟩, .string ⟨#[9, 13, 32, 47, 47, 32, 97, 34, 91, 47, 42, 10]⟩] 9) = V at *
            have HO := Lib.hid HI3.out.own
            have C3 : Hid (j + 1 ≤ maxLen) := by unfold Hid maxLen; omega
            have C4 : Hid ((j + 1) * 8 ≤ 140737488355328) := by unfold Hid; omega
            have C5 : Hid (W.heap.size ≤ (V.alloc (.cells #[.int .i64 ((T.size : Int) + gb.size)] 3)).heap.size) := by unfold Hid; have := HI3.out.bel.size; simp; omega
            go_wp2_with (at_builtin; refine wpList_append_own _ rfl _ _ 52 rfl W.heap.size 3 i0 (.int .i64 0) 1 8 Tryz.underlying52 hinf hz0 hz1 hz2 rfl (by decide) _ _ _ rfl (HO.out.alloc _) ⟨V.heap.size, 0, none⟩ 1 1 [.int .i64 ((T.size : Int) + gb.size)] rfl rfl (one_new _ _ _) one_int C3.out C4.out C5.out ?_; intro v' w3 hown' hgrow _; obtain ⟨av, cv, rfl⟩ := owns_form hown'; have HNX := Lib.hid (HI3.out.grow HO.out hown' hgrow HTX.out HPL.out HMY.out HSB.out HGB.out); clear hown' hgrow)
            go_roundg (n - (j + 1))
            case measure => omega
            case rel => exact ⟨j + 1, _, rfl, rfl, rfl, by omega, HNX.out⟩
          · have h0 : gapN zs j = 0 := by unfold gapN; rw [if_neg (by rw [← HN'.out]; exact hjn)]
            rw [h0] at hgc
            clear h0 hG4
            have hb3 := ballocR w2 (.cells #[.string ⟨#[32]⟩, .string ⟨#[10]⟩, .string ⟨#[32, 47, 42, 32, 39, 32, 47, 47, 32, 42, 42, 47]⟩, .string ⟨#[9, 13, 32, 47, 47, 32, 97, 34, 91, 47, 42, 10]⟩] 9)
            have HI3 := Lib.hid (HI2.out.next hb3)
            go_upto_region 15 with (go_at_call 14; refine (num_any _ _).mono ?_; rintro e w' ⟨rfl, rfl⟩)
            clear hgc hb3
            generalize w2.alloc (.cells #[.string ⟨#[32]⟩, .string ⟨#[10]⟩, .string ⟨#[32, 47, 42, 32, 39, 32, 47, 47, 32, 42, 42, 47]⟩, .string ⟨#[9, 13, 32, 47, 47, 32, 97, 34, 91, 47, 42, 10]⟩] 9) = V at *
            have HO := Lib.hid HI3.out.own
            have C3 : Hid (j + 1 ≤ maxLen) := by unfold Hid maxLen; omega
            have C4 : Hid ((j + 1) * 8 ≤ 140737488355328) := by unfold Hid; omega
            have C5 : Hid (W.heap.size ≤ (V.alloc (.cells #[.int .i64 ((T.size : Int) + gb.size)] 3)).heap.size) := by unfold Hid; have := HI3.out.bel.size; simp; omega
            go_wp2_with (at_builtin; refine wpList_append_own _ rfl _ _ 52 rfl W.heap.size 3 i0 (.int .i64 0) 1 8 Tryz.underlying52 hinf hz0 hz1 hz2 rfl (by decide) _ _ _ rfl (HO.out.alloc _) ⟨V.heap.size, 0, none⟩ 1 1 [.int .i64 ((T.size : Int) + gb.size)] rfl rfl (one_new _ _ _) one_int C3.out C4.out C5.out ?_; intro v' w3 hown' hgrow _; obtain ⟨av, cv, rfl⟩ := owns_form hown'; have HNX := Lib.hid (HI3.out.grow HO.out hown' hgrow HTX.out HPL.out HMY.out HSB.out HGB.out); clear hown' hgrow)
            go_roundg (n - (j + 1))
            case measure => omega
            case rel => exact ⟨j + 1, _, rfl, rfl, rfl, by omega, HNX.out⟩
      · obtain rfl : j = n := by omega
        have htk : l.take j = l := List.take_of_length_le (by rw [← HN.out]; exact Nat.le_refl _)
        have htext := HI.out.text
        have hmay := HI.out.may
        have hown := HI.out.own
        rw [htk] at htext hmay hown
        have HB := Lib.hid HI.out.bel
        have HO := Lib.hid hown
        obtain ⟨ap, cp, rfl⟩ := owns_form hown
        obtain ⟨⟨k, q1, q2, q3⟩, ⟨k2, q4⟩, ⟨k3, q5⟩⟩ := gaps_read zs hmay
        have hTz : T.size ≤ 33000 := by
          have hgl := gtext_len zs l hmay
          have hjl := joined_len l (fun x hx => by have := HF.out x hx; omega)
          have h1 := HSM.out.1
          have h2 := HSM.out.2
          rw [← sz, htext]
          omega
        have hTl : (gtext zs l).length = T.size := by rw [← htext, sz]
        rw [← htext] at q1 q4 q5
        rw [htext, hTl] at q4 q5
        rw [← htext] at q4 q5
        have hs1 : (T ++ ⟨#[10, 32, 47, 47]⟩).data.toList = T.data.toList ++ [10, 32, 47, 47] := by simp
        have hs2 : (T ++ ⟨#[32, 35]⟩).data.toList = T.data.toList ++ [32, 35] := by simp
        have hs3 : (T ++ ⟨#[32, 47, 42, 32, 42]⟩).data.toList = T.data.toList ++ [32, 47, 42, 32, 42] := by simp
        have hz1' : (T ++ ⟨#[10, 32, 47, 47]⟩).size ≤ 1048576 := by rw [← sz, hs1, List.length_append, sz]; simp; omega
        have hz2' : (T ++ ⟨#[32, 35]⟩).size ≤ 1048576 := by rw [← sz, hs2, List.length_append, sz]; simp; omega
        have hz3' : (T ++ ⟨#[32, 47, 42, 32, 42]⟩).size ≤ 1048576 := by rw [← sz, hs3, List.length_append, sz]; simp; omega
        have l1 : lexL (T ++ ⟨#[10, 32, 47, 47]⟩) = (k, 0, 0) := by rw [lexL_none hz1' (by rw [hs1, q1]), hs1, q1]
        have l2 : lexL (T ++ ⟨#[32, 35]⟩) = ([], T.size + 1, 130) := lexL_some hz2' (by rw [hs2, q4])
        have l3 : lexL (T ++ ⟨#[32, 47, 42, 32, 42]⟩) = ([], T.size + 1, 130) := lexL_some hz3' (by rw [hs3, q5])
        have x1 := fun V h => lexg_any (n₀ := W.heap.size) (T ++ ⟨#[10, 32, 47, 47]⟩) V (by omega) h
        have x2 := fun V h => lexg_any (n₀ := W.heap.size) (T ++ ⟨#[32, 35]⟩) V (by omega) h
        have x3 := fun V h => lexg_any (n₀ := W.heap.size) (T ++ ⟨#[32, 47, 42, 32, 42]⟩) V (by omega) h
        rw [l1] at x1
        rw [l2] at x2
        rw [l3] at x3
        have X1 := Lib.hid x1
        have X2 := Lib.hid x2
        have X3 := Lib.hid x3
        have Q2 := Lib.hid q2
        have Q3 := Lib.hid q3
        have hkn : k.length = j := by have := sameL_len q2; rw [List.length_map, ← HN.out] at this; exact this
        have HKN := Lib.hid hkn
        have hkz : ((k.length : Int) != (j : Int)) = false := by simp; omega
        have k1 : ¬ 9223372036854775807 < T.size + 4 := by omega
        have k2' : ¬ 9223372036854775807 < T.size + 2 := by omega
        have k3' : ¬ 9223372036854775807 < T.size + 5 := by omega
        have k4 : (((T.size + 1 : Nat) : Int) == (T.size : Int) + 1) = true := by simp
        have E1 := Lib.hid (HE.out.below HB.out)
        clear x1 x2 x3 l1 l2 l3 hs1 hs2 hs3 hz1' hz2' hz3' q1 q2 q3 q4 q5 htext hmay hown htk hTl hkn HI
        go_wp2_with fail
        refine (X1.out _ E1.out).mono ?_
        rintro e w5 ⟨a5, c5, rfl, g5, hb5⟩
        have G5 : Hid (Gws w5 a5 (k.map gwOf)) := Lib.hid g5
        have HB5 := Lib.hid (HB.out.trans (hb5.mono HB.out.size))
        have HO5 := Lib.hid (HO.out.kept (only_of_below hb5 none) (by by_cases hv : (Value.slice ap j cp).ownBlock = none; exact .inl hv; exact .inr hv))
        clear g5 hb5 HB HO E1 X1
        go_wp2_with (first
          | (go_at_call 14; refine (num_any _ _).mono ?_; rintro e w' ⟨rfl, rfl⟩)
          | (go_at_call 29; refine (same_any (l := k.map gwOf) (k := l) k.length c5 j cap w5 G5.out (HG.out.below HB5.out) (by simp) HN.out (by have := HKN.out; omega)).mono ?_; rintro e w6 ⟨rfl, hb6⟩; rw [Q2.out]; have HB6 := Lib.hid (HB5.out.trans (hb6.mono HB5.out.size)); have G6 := Lib.hid (G5.out.below hb6); have HO6 := Lib.hid (HO5.out.kept (only_of_below hb6 none) (by by_cases hv : (Value.slice ap j cp).ownBlock = none; exact .inl hv; exact .inr hv)); clear hb6))
        go_loopg [14] k.length (fun gk v wr => ∃ i : Nat, gk = k.length - i ∧ v = .int .i64 i ∧ i ≤ k.length ∧ Below w6.heap.size w6 wr)
        case atStart => exact ⟨0, rfl, rfl, by omega, Below.refl _ _⟩
        case round =>
          obtain ⟨i, rfl, rfl, hi, hb⟩ := hrel
          have hkb : k.length ≤ 200 := by have := HKN.out; omega
          by_cases hlt : i < k.length
          · obtain ⟨gg, p, o, hg, rfl, hat⟩ := (G6.out.below hb).get (i := i) (by simpa using hlt)
            have hrow : RowAt w6 ap .i64 (gplace zs l) := by
              obtain ⟨_, ac, cc, hv, _, hr⟩ := rowAt_owns HO6.out
              injection hv with h1 h2 h3
              rw [h1]; exact hr
            obtain ⟨bp, op, rfl, hcp⟩ := (hrow.below hb).cell (i := i) (by rw [gplace_len, ← HN.out, ← HKN.out]; exact hlt)
            have hpe : (gplace zs l).getD i 0 = gg.p := by
              rw [← Q3.out, List.getD_eq_getElem?_getD, List.getElem?_map]
              rw [List.getElem?_map] at hg
              obtain ⟨q, hq, rfl⟩ := Option.map_eq_some_iff.1 hg
              rw [hq]
              rfl
            rw [hpe] at hcp
            obtain ⟨_, c1, _, _⟩ := hat
            have HBB := Lib.hid hb
            have hij : i < j := by have := HKN.out; omega
            clear hg hrow hpe hb
            generalize gg.p = P at *
            go_upto_region 23 with (fail)
            go_quiet (fail)
            go_wp2_with fail
            go_roundg (k.length - (i + 1))
            case measure => omega
            case rel => exact ⟨i + 1, rfl, rfl, hlt, bdrewN HBB.out _⟩
          · have HB7 := Lib.hid (HB6.out.trans (hb.mono HB6.out.size))
            have E7 := Lib.hid (HE.out.below HB7.out)
            go_wp2_with fail
            refine (X2.out _ E7.out).mono ?_
            rintro e w8 ⟨a8, c8, rfl, _, hb8⟩
            have HB8 := Lib.hid (HB7.out.trans (hb8.mono HB7.out.size))
            have E8 := Lib.hid (HE.out.below HB8.out)
            clear hb8
            go_wp2_with fail
            refine (X3.out _ E8.out).mono ?_
            rintro e w9 ⟨a9, c9, rfl, _, hb9⟩
            have HB9 := Lib.hid (HB8.out.trans (hb9.mono HB8.out.size))
            have E9 := Lib.hid (HE.out.below HB9.out)
            clear hb9
            go_wp2_with (first
              | (go_at_call 14; refine (num_any _ _).mono ?_; rintro e w' ⟨rfl, rfl⟩)
              | (go_at_call 11; refine (HW.out _ E9.out).mono ?_; rintro e w' ⟨rfl, hb⟩))
            go_ret
            exact ⟨rfl, HB9.out.trans (hb.mono HB9.out.size)⟩
end Go.Proofs.YtimhhacfjgbomaaGreatDoor
