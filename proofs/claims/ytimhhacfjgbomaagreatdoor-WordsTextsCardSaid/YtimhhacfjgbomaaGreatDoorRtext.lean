/-
  THE WALK of the document's text: the one between two like signs.
-/
import Derived.Test.YtimhhacfjgbomaaGreatDoorRrune
import Derived.Test.YtimhhacfjgbomaaGreatDoorText
import Derived.Lib.ConvBytes
namespace Go.Proofs.YtimhhacfjgbomaaGreatDoor
set_option linter.unusedSimpArgs false
set_option linter.unusedVariables false
open Go.RowKit Go.Shelf

/-- What text (of quoted: with another test) answers. -/
def textV (j : Nat) (ok : List UInt8 → Bool) : Option (List UInt8 × Nat) → Value
  | some p => .tuple #[.string ⟨p.1.toArray⟩, .int .i64 ((j + 1 + p.2 : Nat) : Int), .bool (ok p.1)]
  | none => .tuple #[.string ⟨#[]⟩, .int .i64 j, .bool false]
theorem text_end (q : UInt8) (u : List UInt8) : textL q (q :: u) = some ([], 1) := by unfold textL; rw [if_pos rfl]
theorem text_char {q c : UInt8} (u : List UInt8) (h1 : c ≠ q) (h2 : c ≠ 92) : textL q (c :: u) = (textL q u).map fun p => (c :: p.1, p.2 + 1) := by
  conv => lhs; unfold textL
  rw [if_neg h1, if_neg h2]
theorem quot_at {s : ByteArray} {j : Nat} (h : s.size ≤ j) : s.data.toList.drop j = [] := List.drop_eq_nil_of_le (by rw [sz]; exact h)
theorem acc_conv {w wr : World} {l : List UInt8} {v : Value} (h : Acc w l v wr) : (convert 43 9 v).run Tryz.prog wr.drew = .ok (.string ⟨l.toArray⟩) wr.drew := (h.next (Below.refl _ _).drew).str
theorem escP_hit {c x : UInt8} {u : List UInt8} (h : esc1 c = some x) : escP (c :: u) = some ([x], 1) := esc_hit h
theorem escP_u (u : List UInt8) : escP (117 :: u) = (rune4R u).map fun bs => (bs, 5) := by
  have e : esc1 117 = none := by decide
  unfold escP rune4R
  simp only [e, if_true]
  match u with
  | [] => rfl
  | [_] => rfl
  | [_, _] => rfl
  | [_, _, _] => rfl
  | _ :: _ :: _ :: _ :: _ => rfl
theorem escP_no {c : UInt8} {u : List UInt8} (h : esc1 c = none) (h2 : c ≠ 117) : escP (c :: u) = none := by
  unfold escP; simp only [h, if_neg h2]
theorem rune4R_len {u : List UInt8} {bs : List UInt8} (h : rune4R u = some bs) : 4 ≤ u.length ∧ bs.length ≤ 4 := by
  have hlen : 4 ≤ u.length := by
    rcases Nat.lt_or_ge u.length 4 with h4 | h4
    · rw [rune4R_short h4] at h; cases h
    · exact h4
  refine ⟨hlen, ?_⟩
  rw [rune4R_long hlen] at h
  split at h
  · split at h
    · cases h
    · cases h
      unfold Lib.encodeRune
      rw [List.length_map]
      exact (Lib.encodeRuneZ_length _).2
  · cases h
theorem str_new (w : World) (B : ByteArray) : ∀ j u, (Lib.byteCells B.data.toList)[j]? = some u → (w.alloc (.cells (Lib.byteCells B.data.toList).toArray 5)).cell? ((⟨w.heap.size, 0, none⟩ : Addr).add j) = some u := cells_new w _ _

set_option maxRecDepth 100000 in
set_option maxHeartbeats 16000000 in
theorem rtext_any (s : ByteArray) (a : Nat) (w : World) (hs : s.size ≤ 1048576) (ha : a < s.size) (hq92 : s[a] ≠ 92) :
    Calls Tryz.prog 63 #[.string s, .int .i64 a] w fun e w' => e = .returned (textV a Lib.validD (textL s[a] (s.data.toList.drop (a + 1)))) ∧ Below w.heap.size w w' := by
  obtain ⟨i0, hinf, hz0, hz1, hz2⟩ := info_parts info_u8
  obtain ⟨ANS, hA⟩ : ∃ A, textL s[a] (s.data.toList.drop (a + 1)) = A := ⟨_, rfl⟩
  rw [hA]
  have HU := Lib.hid fun (T : ByteArray) (hT : T.size ≤ 1099511627776) w => utf8_any T w hT
  have HA := Lib.hid hA
  obtain ⟨q, hq⟩ : ∃ q, s[a] = q := ⟨_, rfl⟩
  rw [hq] at HA hq92
  have HQ92 := Lib.hid hq92
  have hqn : s[a].toNat = q.toNat := by rw [hq]
  have hgen := Lib.hid fun (l x : List UInt8) (i n : Nat) (hi : a + 1 ≤ i) (h : (textL q (s.data.toList.drop i)).map (fun p => (l ++ p.1, i - (a + 1) + p.2)) = ANS)
      (h2 : textL q (s.data.toList.drop i) = (textL q (s.data.toList.drop (i + n))).map (fun p => (x ++ p.1, p.2 + n))) =>
    (show (textL q (s.data.toList.drop (i + n))).map (fun p => ((l ++ x) ++ p.1, i + n - (a + 1) + p.2)) = ANS by
      rw [← h, h2, Option.map_map]
      congr 1; funext p
      simp only [Function.comp, List.append_assoc]
      congr 1; omega)
  clear hA hq hq92
  go_enter Tryz.func63, Tryz.ntmps63
  go_wp2_with fail
  go_loopg [7, 8] (s.size - (a + 1)) (fun gk v u wr => ∃ (i : Nat) (l : List UInt8), gk = s.size - i ∧ u = .int .i64 i ∧ a + 1 ≤ i ∧ i ≤ s.size ∧ l.length ≤ 4 * i ∧ Acc w l v wr ∧ (textL q (s.data.toList.drop i)).map (fun p => (l ++ p.1, i - (a + 1) + p.2)) = ANS)
  case atStart => exact ⟨a + 1, [], rfl, rfl, Nat.le_refl _, ha, by simp, Acc.nil w, by rw [HA.out]; cases ANS <;> simp⟩
  case round =>
    obtain ⟨i, l, rfl, rfl, hai, his, hll, hacc, hr⟩ := hrel
    have HR := Lib.hid hr
    have HC := Lib.hid hacc
    clear hr hacc HA
    obtain ⟨av, cv, rfl⟩ := owns_form HC.out.own
    by_cases hlt : i < s.size
    · have HD := Lib.hid (drop_at hlt)
      have HC1 : ∀ n, Hid (Acc w l (.slice av l.length cv) (wr.drewN n)) := fun n => Lib.hid (HC.out.next (bdrewN (Below.refl _ _) n))
      go_wp2_with fail
      go_quiet (fail)
      have HC2 := HC1 nq
      clear HC HC1
      generalize World.drewN wr nq = V at *
      by_cases hcq : s[i] = q
      · have t0 : (s[i].toNat == s[a].toNat) = true := by rw [hcq, hqn]; simp
        have HA2 : Hid (ANS = some (l, i - (a + 1) + 1)) := Lib.hid (by
          rw [← HR.out, HD.out, hcq, text_end]; simp)
        have t1 : ((s[i].toNat : Int) == (s[a].toNat : Int)) = true := by rw [hcq, hqn]; simp
        have hcv := acc_conv HC2.out
        have hw1 : IntKind.i64.wrap ((i : Int) + 1) = (i : Int) + 1 := IntWalk.i64_in _ (by omega)
        have HB := Lib.hid (HC2.out.bel)
        have HUV := Lib.hid (HU.out ⟨l.toArray⟩ (by show l.length ≤ _; omega))
        have HV2 : Hid (i + 1 = a + 1 + (i - (a + 1) + 1)) := Lib.hid (by omega)
        clear hcq HD HR HC2
        go_wp2_with fail
        go_region_with (go_at_call 37; refine (HUV.out _).mono ?_; rintro e w' ⟨rfl, rfl⟩)
        all_goals
          go_wp2_with fail
          go_ret3
          refine ⟨?_, HB.out.drew⟩
          rw [HA2.out]
          show _ = Ending.returned (.tuple #[.string ⟨l.toArray⟩, .int .i64 ((a + 1 + (i - (a + 1) + 1) : Nat) : Int), .bool (Lib.validD l)])
          rw [← HV2.out]
          rfl
      · have t1 : ((s[i].toNat : Int) == (s[a].toNat : Int)) = false := by
          have : s[i].toNat ≠ s[a].toNat := fun e => hcq (UInt8.toNat_inj.1 (by rw [e, hqn]))
          simp; omega
        by_cases h92 : s[i] = 92
        · have t2 : ((s[i].toNat : Int) != 92) = false := by rw [h92]; rfl
          have HB92 : Hid (textL q (s.data.toList.drop i) = match escP (s.data.toList.drop (i + 1)) with | none => none | some p => (textL q (s.data.toList.drop (i + 1 + p.2))).map fun r => (p.1 ++ r.1, r.2 + (1 + p.2))) := Lib.hid (by
            rw [HD.out, h92, textL_back q HQ92.out]
            cases escP (s.data.toList.drop (i + 1)) with
            | none => rfl
            | some p =>
              simp only [List.drop_drop]
              congr 1; funext r
              congr 1; omega)
          clear hcq h92 HD
          by_cases hlt1 : i + 1 < s.size
          · have HD1 := Lib.hid (drop_at hlt1)
            obtain ⟨c, hc⟩ : ∃ c, s[i + 1] = c := ⟨_, rfl⟩
            have HC0 := Lib.hid hc
            have hcn : s[i + 1].toNat = c.toNat := by rw [hc]
            have hge : ¬ (i : Int) + 1 ≥ s.size := by omega
            rw [hc] at HD1
            clear hc
            have C3 : Hid (l.length + 1 ≤ maxLen) := by unfold Hid maxLen; omega
            have C4 : Hid ((l.length + 1) * 1 ≤ 140737488355328) := by unfold Hid; omega
            have HNX : ∀ (x : UInt8) (v' : Value) (w2 : World), esc1 c = some x → (V.alloc (.cells #[.int .u8 x.toNat] 5)).grownBy w2 (Value.slice av l.length cv).ownBlock → w2.ownsRow w.heap.size 5 1 v' (l.length + 1) (Lib.byteCells l ++ [.int .u8 x.toNat]) →
                Hid (Acc w (l ++ [x]) v' w2 ∧ (textL q (s.data.toList.drop (i + 1 + 1))).map (fun p => ((l ++ [x]) ++ p.1, i + 1 + 1 - (a + 1) + p.2)) = ANS ∧ (l ++ [x]).length ≤ 4 * (i + 1 + 1)) := fun x v' w2 hx hg ho => Lib.hid (by
              refine ⟨HC2.out.more (l' := [x]) (ballocR V _) hg ho (by simp) (by simp [Lib.byteCells]), ?_, by simp; omega⟩
              have h1 := HB92.out
              rw [HD1.out, escP_hit hx] at h1
              exact hgen.out l [x] i 2 hai HR.out h1)
            by_cases hlit : c.toNat = 92 ∨ c.toNat = 39 ∨ c.toNat = 34
            · have hx : Hid (esc1 c = some c) := Lib.hid (by
                unfold esc1
                rw [if_pos]
                rcases hlit with h | h | h
                · exact .inl (UInt8.toNat_inj.1 h)
                · exact .inr (.inl (UInt8.toNat_inj.1 h))
                · exact .inr (.inr (UInt8.toNat_inj.1 h)))
              have C5 : Hid (w.heap.size ≤ (V.alloc (.cells #[.int .u8 c.toNat] 5)).heap.size) := Lib.hid (HC2.out.room _)
              have HNX2 := HNX c
              have HNX3 := Lib.hid HNX2
              clear HNX HNX2
              have hl3 : c.toNat = 92 ∨ (c.toNat = 39) ∨ (c.toNat = 34) := hlit
              clear hlit
              rcases hl3 with h | h | h
              · have t3 : ((c.toNat : Int) == 92) = true := by rw [h]; rfl
                clear h
                go_wp2_with (at_builtin; refine wpList_append_own _ rfl _ _ 43 rfl w.heap.size 5 i0 (.int .u8 0) 1 1 Tryz.underlying43 hinf hz0 hz1 hz2 rfl (by decide) _ _ _ rfl (HC2.out.own.alloc _) ⟨V.heap.size, 0, none⟩ 1 1 [.int .u8 c.toNat] rfl rfl (cells_new V [.int .u8 c.toNat] 5) (all_int (l := [(c.toNat : Int)]) (k := .u8)) C3.out C4.out C5.out ?_; intro v' w2 hown' hgrow _; obtain ⟨a2, c2, rfl⟩ := owns_form hown'; have HN := HNX3.out _ _ hx.out hgrow hown'; clear hown' hgrow)
                go_roundg (s.size - (i + 1 + 1))
                case measure => omega
                case rel => exact ⟨i + 1 + 1, l ++ [c], rfl, rfl, by omega, by omega, HN.out.2.2, HN.out.1, HN.out.2.1⟩
              · have t3 : ((c.toNat : Int) == 92) = false := by rw [h]; rfl
                have t4 : ((c.toNat : Int) == 39) = true := by rw [h]; rfl
                clear h
                go_wp2_with (at_builtin; refine wpList_append_own _ rfl _ _ 43 rfl w.heap.size 5 i0 (.int .u8 0) 1 1 Tryz.underlying43 hinf hz0 hz1 hz2 rfl (by decide) _ _ _ rfl (HC2.out.own.alloc _) ⟨V.heap.size, 0, none⟩ 1 1 [.int .u8 c.toNat] rfl rfl (cells_new V [.int .u8 c.toNat] 5) (all_int (l := [(c.toNat : Int)]) (k := .u8)) C3.out C4.out C5.out ?_; intro v' w2 hown' hgrow _; obtain ⟨a2, c2, rfl⟩ := owns_form hown'; have HN := HNX3.out _ _ hx.out hgrow hown'; clear hown' hgrow)
                go_roundg (s.size - (i + 1 + 1))
                case measure => omega
                case rel => exact ⟨i + 1 + 1, l ++ [c], rfl, rfl, by omega, by omega, HN.out.2.2, HN.out.1, HN.out.2.1⟩
              · have t3 : ((c.toNat : Int) == 92) = false := by rw [h]; rfl
                have t4 : ((c.toNat : Int) == 39) = false := by rw [h]; rfl
                have t5 : ((c.toNat : Int) == 34) = true := by rw [h]; rfl
                clear h
                go_wp2_with (at_builtin; refine wpList_append_own _ rfl _ _ 43 rfl w.heap.size 5 i0 (.int .u8 0) 1 1 Tryz.underlying43 hinf hz0 hz1 hz2 rfl (by decide) _ _ _ rfl (HC2.out.own.alloc _) ⟨V.heap.size, 0, none⟩ 1 1 [.int .u8 c.toNat] rfl rfl (cells_new V [.int .u8 c.toNat] 5) (all_int (l := [(c.toNat : Int)]) (k := .u8)) C3.out C4.out C5.out ?_; intro v' w2 hown' hgrow _; obtain ⟨a2, c2, rfl⟩ := owns_form hown'; have HN := HNX3.out _ _ hx.out hgrow hown'; clear hown' hgrow)
                go_roundg (s.size - (i + 1 + 1))
                case measure => omega
                case rel => exact ⟨i + 1 + 1, l ++ [c], rfl, rfl, by omega, by omega, HN.out.2.2, HN.out.1, HN.out.2.1⟩
            · have n1 : ((c.toNat : Int) == 92) = false := by simp; omega
              have n2 : ((c.toNat : Int) == 39) = false := by simp; omega
              have n3 : ((c.toNat : Int) == 34) = false := by simp; omega
              by_cases hm : c.toNat = 110 ∨ c.toNat = 116 ∨ c.toNat = 114
              · clear hlit
                rcases hm with h | h | h
                · obtain rfl : c = 110 := UInt8.toNat_inj.1 h
                  have hx : Hid (esc1 110 = some 10) := Lib.hid (by decide)
                  have C5 : Hid (w.heap.size ≤ (V.alloc (.cells #[.int .u8 10] 5)).heap.size) := Lib.hid (HC2.out.room _)
                  have HNX3 := Lib.hid (HNX 10)
                  clear HNX h
                  go_wp2_with (at_builtin; refine wpList_append_own _ rfl _ _ 43 rfl w.heap.size 5 i0 (.int .u8 0) 1 1 Tryz.underlying43 hinf hz0 hz1 hz2 rfl (by decide) _ _ _ rfl (HC2.out.own.alloc _) ⟨V.heap.size, 0, none⟩ 1 1 [.int .u8 10] rfl rfl (cells_new V [.int .u8 10] 5) (all_int (l := [10]) (k := .u8)) C3.out C4.out C5.out ?_; intro v' w2 hown' hgrow _; obtain ⟨a2, c2, rfl⟩ := owns_form hown'; have HN := HNX3.out _ _ hx.out hgrow hown'; clear hown' hgrow)
                  go_roundg (s.size - (i + 1 + 1))
                  case measure => omega
                  case rel => exact ⟨i + 1 + 1, l ++ [10], rfl, rfl, by omega, by omega, HN.out.2.2, HN.out.1, HN.out.2.1⟩
                · obtain rfl : c = 116 := UInt8.toNat_inj.1 h
                  have hx : Hid (esc1 116 = some 9) := Lib.hid (by decide)
                  have C5 : Hid (w.heap.size ≤ (V.alloc (.cells #[.int .u8 9] 5)).heap.size) := Lib.hid (HC2.out.room _)
                  have HNX3 := Lib.hid (HNX 9)
                  clear HNX h
                  go_wp2_with (at_builtin; refine wpList_append_own _ rfl _ _ 43 rfl w.heap.size 5 i0 (.int .u8 0) 1 1 Tryz.underlying43 hinf hz0 hz1 hz2 rfl (by decide) _ _ _ rfl (HC2.out.own.alloc _) ⟨V.heap.size, 0, none⟩ 1 1 [.int .u8 9] rfl rfl (cells_new V [.int .u8 9] 5) (all_int (l := [9]) (k := .u8)) C3.out C4.out C5.out ?_; intro v' w2 hown' hgrow _; obtain ⟨a2, c2, rfl⟩ := owns_form hown'; have HN := HNX3.out _ _ hx.out hgrow hown'; clear hown' hgrow)
                  go_roundg (s.size - (i + 1 + 1))
                  case measure => omega
                  case rel => exact ⟨i + 1 + 1, l ++ [9], rfl, rfl, by omega, by omega, HN.out.2.2, HN.out.1, HN.out.2.1⟩
                · obtain rfl : c = 114 := UInt8.toNat_inj.1 h
                  have hx : Hid (esc1 114 = some 13) := Lib.hid (by decide)
                  have C5 : Hid (w.heap.size ≤ (V.alloc (.cells #[.int .u8 13] 5)).heap.size) := Lib.hid (HC2.out.room _)
                  have HNX3 := Lib.hid (HNX 13)
                  clear HNX h
                  go_wp2_with (at_builtin; refine wpList_append_own _ rfl _ _ 43 rfl w.heap.size 5 i0 (.int .u8 0) 1 1 Tryz.underlying43 hinf hz0 hz1 hz2 rfl (by decide) _ _ _ rfl (HC2.out.own.alloc _) ⟨V.heap.size, 0, none⟩ 1 1 [.int .u8 13] rfl rfl (cells_new V [.int .u8 13] 5) (all_int (l := [13]) (k := .u8)) C3.out C4.out C5.out ?_; intro v' w2 hown' hgrow _; obtain ⟨a2, c2, rfl⟩ := owns_form hown'; have HN := HNX3.out _ _ hx.out hgrow hown'; clear hown' hgrow)
                  go_roundg (s.size - (i + 1 + 1))
                  case measure => omega
                  case rel => exact ⟨i + 1 + 1, l ++ [13], rfl, rfl, by omega, by omega, HN.out.2.2, HN.out.1, HN.out.2.1⟩
              · have n4 : ((c.toNat : Int) == 110) = false := by simp; omega
                have n5 : ((c.toNat : Int) == 116) = false := by simp; omega
                have n6 : ((c.toNat : Int) == 114) = false := by simp; omega
                have hesc : Hid (esc1 c = none) := Lib.hid (by
                  have e : ∀ v : UInt8, c.toNat ≠ v.toNat → c ≠ v := fun v h e => h (by rw [e])
                  unfold esc1
                  rw [if_neg (by rintro (h | h | h); exact e 92 (fun h => hlit (.inl h)) h; exact e 39 (fun h => hlit (.inr (.inl h))) h; exact e 34 (fun h => hlit (.inr (.inr h))) h),
                    if_neg (e 110 (fun h => hm (.inl h))), if_neg (e 116 (fun h => hm (.inr (.inl h)))), if_neg (e 114 (fun h => hm (.inr (.inr h))))])
                clear hlit hm HNX C3 C4
                by_cases hu : c = 117
                · subst hu
                  have hW := rrune4_any s (i + 1 + 1) V (by omega) (by omega)
                  rw [show ((i + 1 + 1 : Nat) : Int) = (i : Int) + 1 + 1 by omega] at hW
                  have HW := Lib.hid hW
                  clear hW
                  have HE4 : Hid (escP (s.data.toList.drop (i + 1)) = (rune4R (s.data.toList.drop (i + 1 + 1))).map fun bs => (bs, 5)) := Lib.hid (by rw [HD1.out, escP_u])
                  cases hr4 : rune4R (s.data.toList.drop (i + 1 + 1)) with
                  | none =>
                    rw [hr4] at HW HE4
                    have HA2 : Hid (ANS = none) := Lib.hid (by
                      rw [← HR.out, HB92.out, HE4.out]; rfl)
                    clear hr4
                    go_wp2_with (go_at_call 83; refine HW.out.mono ?_; rintro e w2 ⟨rfl, hb2⟩; simp only [runeA])
                    go_ret3
                    refine ⟨?_, HC2.out.bel.trans (hb2.mono HC2.out.bel.size)⟩
                    rw [HA2.out]
                    rfl
                  | some bs =>
                    rw [hr4] at HW HE4
                    obtain ⟨hl4, hl5⟩ := rune4R_len hr4
                    rw [List.length_drop, sz] at hl4
                    have HNX : Hid ((textL q (s.data.toList.drop (i + 6))).map (fun p => ((l ++ bs) ++ p.1, i + 6 - (a + 1) + p.2)) = ANS) := Lib.hid (by
                      have h1 := HB92.out
                      rw [HE4.out] at h1
                      exact hgen.out l bs i 6 hai HR.out h1)
                    clear hr4 HE4 HB92
                    obtain ⟨T, hT⟩ : ∃ T : ByteArray, (⟨bs.toArray⟩ : ByteArray) = T := ⟨_, rfl⟩
                    have HT : Hid (T.data.toList = bs) := Lib.hid (by rw [← hT])
                    have hTs : T.size = bs.length := by rw [← hT]; rfl
                    have C3 : Hid (l.length + T.size ≤ maxLen) := by unfold Hid maxLen; omega
                    have C4 : Hid ((l.length + T.size) * 1 ≤ 140737488355328) := by unfold Hid; omega
                    go_upto_region 28 with (go_at_call 83; refine HW.out.mono ?_; rintro e w2 ⟨rfl, hb2⟩; simp only [runeA, hT])
                    have hcv := Lib.run_convert_string_bytes (P := Tryz.prog) w2 9 43 5 T (u := .string) Tryz.underlying9 Tryz.underlying43 Tryz.underlying5
                    have hb3 := Lib.bytesWorld_below w2 5 T
                    have HNW : Hid (∀ j u, (Lib.byteCells bs)[j]? = some u → (Lib.bytesWorld w2 5 T).cell? ((⟨w2.heap.size, 0, none⟩ : Addr).add j) = some u) := Lib.hid fun j u hj => by
                      rw [← HT.out] at hj
                      unfold Lib.byteCells at hj
                      rw [List.getElem?_map] at hj
                      have hjl : j < T.size := by
                        rcases Nat.lt_or_ge j T.size with h | h
                        · exact h
                        · rw [List.getElem?_eq_none (by rw [sz]; exact h)] at hj; cases hj
                      have h1 := Lib.bytesWorld_cell w2 5 T j hjl
                      rw [List.getElem?_eq_getElem (by rw [sz]; exact hjl)] at hj
                      cases hj
                      rw [Addr.add_lit, Nat.zero_add, h1, List.getD_eq_getElem?_getD, List.getElem?_eq_getElem (by rw [sz]; exact hjl)]
                      rfl
                    generalize grownCap w2 T.size 0 5 = cap4 at *
                    generalize Lib.bytesWorld w2 5 T = V4 at *
                    have HC3 := Lib.hid ((HC2.out.next hb2).next hb3)
                    have hlb : (Lib.byteCells bs).length = T.size * 1 := by unfold Lib.byteCells; rw [List.length_map, hTs]; omega
                    have HLB := Lib.hid hlb
                    have HTS := Lib.hid hTs
                    have C5 : Hid (w.heap.size ≤ V4.heap.size) := Lib.hid HC3.out.bel.size
                    have HONE : Hid (∀ u ∈ Lib.byteCells bs, u.oneCell' = true) := Lib.hid (by
                      intro u hu
                      unfold Lib.byteCells at hu
                      obtain ⟨x, _, rfl⟩ := List.mem_map.1 hu
                      rfl)
                    clear hb2 hb3 hlb hT hTs HC2
                    go_wp2_with (at_builtin; refine wpList_append_own _ rfl _ _ 43 rfl w.heap.size 5 i0 (.int .u8 0) 1 1 Tryz.underlying43 hinf hz0 hz1 hz2 rfl (by decide) _ _ _ rfl HC3.out.own ⟨w2.heap.size, 0, none⟩ T.size cap4 (Lib.byteCells bs) rfl HLB.out HNW.out HONE.out C3.out C4.out C5.out ?_; intro v' w5 hown' hgrow _; obtain ⟨a2, c2, rfl⟩ := owns_form hown'; have HN := Lib.hid (HC3.out.more (l' := bs) (Below.refl _ _) hgrow hown' (by rw [List.length_append, HTS.out]) (by simp [Lib.byteCells])); clear hown' hgrow)
                    go_roundg (s.size - (i + 6))
                    case measure => omega
                    case rel => exact ⟨i + 6, l ++ bs, rfl, by go_num, by omega, by omega, by simp; omega, HN.out, HNX.out⟩
                · have hu2 : ((c.toNat : Int) == 117) = false := by
                    have : c.toNat ≠ 117 := fun e => hu (UInt8.toNat_inj.1 e)
                    simp; omega
                  have HA2 : Hid (ANS = none) := Lib.hid (by
                    rw [← HR.out, HB92.out, HD1.out, escP_no hesc.out hu]; rfl)
                  clear hu
                  go_wp2_with fail
                  go_ret3
                  refine ⟨?_, HC2.out.bel⟩
                  rw [HA2.out]
                  rfl
          · have hge : (i : Int) + 1 ≥ s.size := by omega
            have HA2 : Hid (ANS = none) := Lib.hid (by
              rw [← HR.out, HB92.out, quot_at (by omega)]; rfl)
            clear hlt1
            go_wp2_with fail
            go_ret3
            refine ⟨?_, HC2.out.bel⟩
            rw [HA2.out]
            rfl
        · have t2 : ((s[i].toNat : Int) != 92) = true := by
            have : s[i].toNat ≠ 92 := fun e => h92 (UInt8.toNat_inj.1 e)
            simp; omega
          have HNX : Hid ((textL q (s.data.toList.drop (i + 1))).map (fun p => ((l ++ [s[i]]) ++ p.1, i + 1 - (a + 1) + p.2)) = ANS) := Lib.hid (by
            refine hgen.out l [s[i]] i 1 hai HR.out ?_
            rw [HD.out, text_char _ hcq h92]
            rfl)
          clear hcq h92 HD
          have C3 : Hid (l.length + 1 ≤ maxLen) := by unfold Hid maxLen; omega
          have C4 : Hid ((l.length + 1) * 1 ≤ 140737488355328) := by unfold Hid; omega
          have C5 : Hid (w.heap.size ≤ (V.alloc (.cells #[.int .u8 s[i].toNat] 5)).heap.size) := Lib.hid (HC2.out.room _)
          go_wp2_with (at_builtin; refine wpList_append_own _ rfl _ _ 43 rfl w.heap.size 5 i0 (.int .u8 0) 1 1 Tryz.underlying43 hinf hz0 hz1 hz2 rfl (by decide) _ _ _ rfl (HC2.out.own.alloc _) ⟨V.heap.size, 0, none⟩ 1 1 [.int .u8 s[i].toNat] rfl rfl (cells_new V [.int .u8 s[i].toNat] 5) (all_int (l := [(s[i].toNat : Int)]) (k := .u8)) C3.out C4.out C5.out ?_; intro v' w2 hown' hgrow _; obtain ⟨a2, c2, rfl⟩ := owns_form hown'; have HN := Lib.hid (HC2.out.more (l' := [s[i]]) (ballocR V _) hgrow hown' (by simp) (by simp [Lib.byteCells])); clear hown' hgrow)
          go_roundg (s.size - (i + 1))
          case measure => omega
          case rel => exact ⟨i + 1, l ++ [s[i]], rfl, rfl, by omega, by omega, by simp; omega, HN.out, HNX.out⟩
    · have HA2 : Hid (ANS = none) := Lib.hid (by
        rw [← HR.out, quot_at (by omega)]; rfl)
      go_wp2_with fail
      go_ret3
      refine ⟨?_, HC.out.bel⟩
      rw [HA2.out]
      rfl
end Go.Proofs.YtimhhacfjgbomaaGreatDoor
