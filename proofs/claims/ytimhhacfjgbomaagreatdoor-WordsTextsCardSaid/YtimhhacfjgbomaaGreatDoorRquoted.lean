/-
  THE WALKS of the document's quoted and number.
-/
import Derived.Test.YtimhhacfjgbomaaGreatDoorRtext
namespace Go.Proofs.YtimhhacfjgbomaaGreatDoor
set_option linter.unusedSimpArgs false
set_option linter.unusedVariables false
open Go.RowKit Go.Shelf

theorem quot_stop {u : List UInt8} (h : [96, 96].isPrefixOf (96 :: u) = false) : quotL (96 :: u) = some ([], 1) := by
  unfold quotL
  rw [if_pos rfl]
  cases u with
  | nil => rfl
  | cons d r =>
    have hd : d ≠ 96 := fun e => by rw [e] at h; simp [List.isPrefixOf] at h
    simp only [if_neg hd]
theorem quot_two {u : List UInt8} (h : [96, 96].isPrefixOf (96 :: u) = true) : quotL (96 :: u) = (quotL (u.drop 1)).map fun p => (96 :: p.1, p.2 + 2) := by
  conv => lhs; unfold quotL
  rw [if_pos rfl]
  cases u with
  | nil => simp [List.isPrefixOf] at h
  | cons d r =>
    have hd : d = 96 := by simp [List.isPrefixOf] at h; exact h.symm
    simp only [if_pos hd]
    rfl
theorem quot_char {c : UInt8} (u : List UInt8) (h : c ≠ 96) : quotL (c :: u) = (quotL u).map fun p => (c :: p.1, p.2 + 1) := by
  conv => lhs; unfold quotL
  rw [if_neg h]

set_option maxRecDepth 100000 in
set_option maxHeartbeats 16000000 in
theorem rquoted_any (s : ByteArray) (a : Nat) (w : World) (hs : s.size ≤ 1048576) (ha : a < s.size) :
    Calls Tryz.prog 62 #[.string s, .int .i64 a] w fun e w' => e = .returned (textV a nameB (quotL (s.data.toList.drop (a + 1)))) ∧ Below w.heap.size w w' := by
  obtain ⟨i0, hinf, hz0, hz1, hz2⟩ := info_parts info_u8
  obtain ⟨ANS, hA⟩ : ∃ A, quotL (s.data.toList.drop (a + 1)) = A := ⟨_, rfl⟩
  rw [hA]
  have HU := Lib.hid fun (T : ByteArray) (hT : T.size ≤ 1099511627776) w => rname_any T w hT
  have HA := Lib.hid hA
  have hgen := Lib.hid fun (l x : List UInt8) (i n : Nat) (hi : a + 1 ≤ i) (h : (quotL (s.data.toList.drop i)).map (fun p => (l ++ p.1, i - (a + 1) + p.2)) = ANS)
      (h2 : quotL (s.data.toList.drop i) = (quotL (s.data.toList.drop (i + n))).map (fun p => (x ++ p.1, p.2 + n))) =>
    (show (quotL (s.data.toList.drop (i + n))).map (fun p => ((l ++ x) ++ p.1, i + n - (a + 1) + p.2)) = ANS by
      rw [← h, h2, Option.map_map]
      congr 1; funext p
      simp only [Function.comp, List.append_assoc]
      congr 1; omega)
  clear hA
  go_enter Tryz.func62, Tryz.ntmps62
  go_wp2_with fail
  go_loopg [7, 8] (s.size - (a + 1)) (fun gk v u wr => ∃ (i : Nat) (l : List UInt8), gk = s.size - i ∧ u = .int .i64 i ∧ a + 1 ≤ i ∧ i ≤ s.size ∧ l.length ≤ i ∧ Acc w l v wr ∧ (quotL (s.data.toList.drop i)).map (fun p => (l ++ p.1, i - (a + 1) + p.2)) = ANS)
  case atStart => exact ⟨a + 1, [], rfl, rfl, Nat.le_refl _, ha, by simp, Acc.nil w, by rw [HA.out]; cases ANS <;> simp⟩
  case round =>
    obtain ⟨i, l, rfl, rfl, hai, his, hll, hacc, hr⟩ := hrel
    have HR := Lib.hid hr
    have HC := Lib.hid hacc
    clear hr hacc HA
    obtain ⟨av, cv, rfl⟩ := owns_form HC.out.own
    by_cases hlt : i < s.size
    · have HD := Lib.hid (drop_at hlt)
      by_cases h96 : s[i] = 96
      · have t2 : ((s[i].toNat : Int) != 96) = false := by rw [h96]; rfl
        have HS := Lib.hid (rstarts_any s i ⟨#[96, 96]⟩ wr (by omega) his (by decide))
        have hD2 := HD.out
        rw [h96] at hD2
        have HD2 := Lib.hid hD2
        clear hD2 h96
        cases hp : [96, 96].isPrefixOf (s.data.toList.drop i) with
        | false =>
          rw [show (⟨#[96, 96]⟩ : ByteArray).data.toList = [96, 96] from rfl, hp] at HS
          have HA2 : Hid (ANS = some (l, i - (a + 1) + 1)) := Lib.hid (by
            rw [HD2.out] at hp
            rw [← HR.out, HD2.out, quot_stop hp]; simp)
          have hcv := acc_conv HC.out
          have hw1 : IntKind.i64.wrap ((i : Int) + 1) = (i : Int) + 1 := IntWalk.i64_in _ (by omega)
          have HB := Lib.hid (HC.out.bel)
          have HUV := Lib.hid (HU.out ⟨l.toArray⟩ (by show l.length ≤ _; omega))
          have HV2 : Hid (i + 1 = a + 1 + (i - (a + 1) + 1)) := Lib.hid (by omega)
          clear hp HD HD2 HR HC
          go_wp2_with (go_at_call 59; refine HS.out.mono ?_; rintro e w' ⟨rfl, rfl⟩)
          go_region_with (go_at_call 19; refine (HUV.out _).mono ?_; rintro e w' ⟨rfl, rfl⟩)
          all_goals
            go_wp2_with fail
            go_ret3
            refine ⟨?_, HB.out.drew⟩
            rw [HA2.out]
            show _ = Ending.returned (.tuple #[.string ⟨l.toArray⟩, .int .i64 ((a + 1 + (i - (a + 1) + 1) : Nat) : Int), .bool (nameB l)])
            rw [← HV2.out]
            rfl
        | true =>
          rw [show (⟨#[96, 96]⟩ : ByteArray).data.toList = [96, 96] from rfl, hp] at HS
          have HNX : Hid ((quotL (s.data.toList.drop (i + 2))).map (fun p => ((l ++ [96]) ++ p.1, i + 2 - (a + 1) + p.2)) = ANS ∧ i + 2 ≤ s.size) := Lib.hid (by
            refine ⟨hgen.out l [96] i 2 hai HR.out ?_, ?_⟩
            · rw [HD2.out] at hp ⊢
              rw [quot_two hp, List.drop_drop]
              rfl
            · have := (List.isPrefixOf_iff_prefix.1 hp).length_le
              rw [List.length_drop, sz] at this
              simp at this; omega)
          clear hp HD HD2
          have C3 : Hid (l.length + 1 ≤ maxLen) := by unfold Hid maxLen; omega
          have C4 : Hid ((l.length + 1) * 1 ≤ 140737488355328) := by unfold Hid; omega
          have C5 : Hid (w.heap.size ≤ (wr.alloc (.cells #[.int .u8 96] 5)).heap.size) := Lib.hid (HC.out.room _)
          have hin : i + 2 ≤ s.size := HNX.out.2
          go_wp2_with (first
            | (go_at_call 59; refine HS.out.mono ?_; rintro e w' ⟨rfl, rfl⟩)
            | (at_builtin; refine wpList_append_own _ rfl _ _ 43 rfl w.heap.size 5 i0 (.int .u8 0) 1 1 Tryz.underlying43 hinf hz0 hz1 hz2 rfl (by decide) _ _ _ rfl (HC.out.own.alloc _) ⟨wr.heap.size, 0, none⟩ 1 1 [.int .u8 96] rfl rfl (cells_new wr [.int .u8 96] 5) (all_int (l := [96]) (k := .u8)) C3.out C4.out C5.out ?_; intro v' w2 hown' hgrow _; obtain ⟨a2, c2, rfl⟩ := owns_form hown'; have HN := Lib.hid (HC.out.more (l' := [96]) (ballocR wr _) hgrow hown' (by simp) (by simp [Lib.byteCells])); clear hown' hgrow))
          go_roundg (s.size - (i + 2))
          case measure => omega
          case rel => exact ⟨i + 2, l ++ [96], rfl, rfl, by omega, by omega, by simp; omega, HN.out, HNX.out.1⟩
      · have t2 : ((s[i].toNat : Int) != 96) = true := by
          have : s[i].toNat ≠ 96 := fun e => h96 (UInt8.toNat_inj.1 e)
          simp; omega
        have HNX : Hid ((quotL (s.data.toList.drop (i + 1))).map (fun p => ((l ++ [s[i]]) ++ p.1, i + 1 - (a + 1) + p.2)) = ANS) := Lib.hid (by
          refine hgen.out l [s[i]] i 1 hai HR.out ?_
          rw [HD.out, quot_char _ h96]
          rfl)
        clear h96 HD
        have C3 : Hid (l.length + 1 ≤ maxLen) := by unfold Hid maxLen; omega
        have C4 : Hid ((l.length + 1) * 1 ≤ 140737488355328) := by unfold Hid; omega
        have C5 : Hid (w.heap.size ≤ (wr.alloc (.cells #[.int .u8 s[i].toNat] 5)).heap.size) := Lib.hid (HC.out.room _)
        go_wp2_with (at_builtin; refine wpList_append_own _ rfl _ _ 43 rfl w.heap.size 5 i0 (.int .u8 0) 1 1 Tryz.underlying43 hinf hz0 hz1 hz2 rfl (by decide) _ _ _ rfl (HC.out.own.alloc _) ⟨wr.heap.size, 0, none⟩ 1 1 [.int .u8 s[i].toNat] rfl rfl (cells_new wr [.int .u8 s[i].toNat] 5) (all_int (l := [(s[i].toNat : Int)]) (k := .u8)) C3.out C4.out C5.out ?_; intro v' w2 hown' hgrow _; obtain ⟨a2, c2, rfl⟩ := owns_form hown'; have HN := Lib.hid (HC.out.more (l' := [s[i]]) (ballocR wr _) hgrow hown' (by simp) (by simp [Lib.byteCells])); clear hown' hgrow)
        go_roundg (s.size - (i + 1))
        case measure => omega
        case rel => exact ⟨i + 1, l ++ [s[i]], rfl, rfl, by omega, by omega, by simp; omega, HN.out, HNX.out⟩
    · have HA2 : Hid (ANS = none) := Lib.hid (by
        rw [← HR.out, quot_at (by omega)]; rfl)
      go_wp2_with fail
      go_ret3
      refine ⟨?_, HC.out.bel⟩
      rw [HA2.out]
      rfl

/-- How number ends. -/
def NumQ (a : Nat) (r : Option (Nat × Nat)) (e : Ending) : Prop := match r with
  | some p => e = .returned (.tuple #[.int .u64 p.1, .int .i64 ((a + p.2 : Nat) : Int), .bool true])
  | none => ∃ x y : Int, e = .returned (.tuple #[.int .u64 x, .int .i64 y, .bool false])
theorem dig_step {L : List UInt8} {k : Nat} (h : k < L.length) (hd : digN L[k].toNat = true) : digL (L.drop k) = L[k] :: digL (L.drop (k + 1)) := by
  rw [List.drop_eq_getElem_cons h]
  unfold digL
  rw [List.takeWhile_cons_of_pos (p := fun c : UInt8 => digN c.toNat) hd]
theorem dig_stop {L : List UInt8} {k : Nat} (h : k < L.length) (hd : digN L[k].toNat = false) : digL (L.drop k) = [] := by
  rw [List.drop_eq_getElem_cons h]
  unfold digL
  rw [List.takeWhile_cons_of_neg (p := fun c : UInt8 => digN c.toNat) (by simp [hd])]
theorem numV_from (l : List UInt8) : ∀ n : Nat, n ≤ l.foldl (fun n c => 10 * n + (c.toNat - 48)) n := by
  induction l with
  | nil => intro n; exact Nat.le_refl _
  | cons c r ih => intro n; simp only [List.foldl_cons]; exact Nat.le_trans (by omega) (ih _)
theorem numV_app (l k : List UInt8) : numV (l ++ k) = k.foldl (fun n c => 10 * n + (c.toNat - 48)) (numV l) := by unfold numV; rw [List.foldl_append]
theorem numV_le (l k : List UInt8) : numV l ≤ numV (l ++ k) := by rw [numV_app]; exact numV_from k _

set_option maxRecDepth 100000 in
set_option maxHeartbeats 16000000 in
theorem rnumber_any (s : ByteArray) (a : Nat) (w : World) (hs : s.size ≤ 1048576) (ha : a < s.size) :
    Calls Tryz.prog 64 #[.string s, .int .i64 a] w fun e w' => NumQ a (rnum (s.data.toList.drop a)) e ∧ w = w' := by
  obtain ⟨ANS, hA⟩ : ∃ A, rnum (s.data.toList.drop a) = A := ⟨_, rfl⟩
  rw [hA]
  have HDG := Lib.hid fun (c : UInt8) => rdigit_any c w
  have HLT := Lib.hid fun (c : UInt8) => rletter_any c w
  have HA := Lib.hid hA
  clear hA
  go_enter Tryz.func64, Tryz.ntmps64
  go_wp2_with fail
  go_loopg [7, 8] (s.size - a) (fun gk v u wr => w = wr ∧ ∃ (k n : Nat) (l : List UInt8), gk = s.size - k ∧ v = .int .u64 n ∧ u = .int .i64 k ∧ a ≤ k ∧ k ≤ s.size ∧ n ≤ 9223372036854775808 ∧ l.length = k - a ∧ numV l = n ∧ digL (s.data.toList.drop a) = l ++ digL (s.data.toList.drop k))
  case atStart => exact ⟨rfl, a, 0, [], rfl, rfl, rfl, Nat.le_refl _, by omega, by omega, by simp, rfl, rfl⟩
  case round =>
    obtain ⟨rfl, k, n, l, rfl, rfl, rfl, hak, hk, hn, hl, hnv, hd⟩ := hrel
    have HN := Lib.hid (And.intro hnv (And.intro hl hd))
    clear hnv hl hd
    have hend : Hid (digL (s.data.toList.drop k) = [] → digL (s.data.toList.drop a) = l ∧ numV (digL (s.data.toList.drop a)) = n ∧ (digL (s.data.toList.drop a)).length = k - a) := Lib.hid fun h => by
      obtain ⟨h1, h2, h3⟩ := HN.out
      rw [h, List.append_nil] at h3
      rw [h3]
      exact ⟨rfl, h1, h2⟩
    have HH0 : Hid ((s.data.toList.drop a).head? = some s[a]) := Lib.hid (by rw [drop_at ha]; rfl)
    by_cases hlt : k < s.size
    · cases hdg : digN s[k].toNat with
      | true =>
        have HG := Lib.hid (HDG.out s[k])
        rw [hdg] at HG
        have HST := Lib.hid (dig_step (L := s.data.toList) (k := k) (by rw [sz]; exact hlt) (by rw [get_list hlt]; exact hdg))
        have hrange : 48 ≤ s[k].toNat ∧ s[k].toNat ≤ 57 := by simpa [digN] using hdg
        clear hdg
        obtain ⟨d, hdd⟩ : ∃ d, s[k].toNat - 48 = d := ⟨_, rfl⟩
        have hd9 : d ≤ 9 := by omega
        have e1 : (s[k].toNat : Int) - 48 = (d : Int) := by omega
        have u0 : IntKind.u8.wrap (d : Int) = (d : Int) := IntWalk.u8_in _ (by omega)
        have u1 : IntKind.u64.wrap (d : Int) = (d : Int) := IntWalk.u64_in _ (by omega)
        have u2 : IntKind.u64.wrap (9223372036854775808 - (d : Int)) = 9223372036854775808 - (d : Int) := IntWalk.u64_in _ (by omega)
        obtain ⟨q, hq⟩ : ∃ q : Nat, (9223372036854775808 - d) / 10 = q := ⟨_, rfl⟩
        have y1 : (9223372036854775808 - (d : Int)) / 10 = (q : Int) := by omega
        have y2 : Int.tdiv (9223372036854775808 - (d : Int)) 10 = (q : Int) := by rw [Int.tdiv_eq_ediv_of_nonneg (by omega)]; exact y1
        have hq9 : q ≤ 922337203685477580 := by omega
        have HSN : Hid (numV (l ++ [s[k]]) = 10 * n + d) := Lib.hid (by rw [numV_snoc, HN.out.1, hdd])
        have HDD : Hid (digL (s.data.toList.drop a) = (l ++ [s[k]]) ++ digL (s.data.toList.drop (k + 1))) := Lib.hid (by
          rw [HN.out.2.2, HST.out, get_list hlt]; simp)
        by_cases hbig : q < n
        · have t1 : (n : Int) > (q : Int) := by omega
          have HA2 : Hid (ANS = none) := Lib.hid (by
            rw [← HA.out]
            unfold rnum
            rw [if_neg]
            intro h
            have h1 := numV_le (l ++ [s[k]]) (digL (s.data.toList.drop (k + 1)))
            rw [← HDD.out, HSN.out] at h1
            have := h.1
            omega)
          clear hq hbig hdd
          go_wp2_with (go_at_call 61; refine HG.out.mono ?_; rintro e w' ⟨rfl, rfl⟩)
          go_ret3
          refine ⟨?_, rfl⟩
          rw [HA2.out]
          exact ⟨_, _, rfl⟩
        · have t1 : ¬ (n : Int) > (q : Int) := by omega
          have hn10 : 10 * n + d ≤ 9223372036854775808 := by omega
          have w1 : IntKind.u64.wrap (10 * (n : Int)) = 10 * (n : Int) := IntWalk.u64_in _ (by omega)
          have w2 : IntKind.u64.wrap (10 * (n : Int) + (d : Int)) = 10 * (n : Int) + (d : Int) := IntWalk.u64_in _ (by omega)
          clear hq hbig hdd
          go_wp2_with (go_at_call 61; refine HG.out.mono ?_; rintro e w' ⟨rfl, rfl⟩)
          go_roundg (s.size - (k + 1))
          case measure => omega
          case rel => exact ⟨rfl, k + 1, 10 * n + d, l ++ [s[k]], rfl, by go_num, rfl, by omega, hlt, hn10, by have := HN.out.2.1; simp; omega, HSN.out, HDD.out⟩
      | false =>
        have HG := Lib.hid (HDG.out s[k])
        rw [hdg] at HG
        have HE := Lib.hid (hend.out (by rw [dig_stop (L := s.data.toList) (k := k) (by rw [sz]; exact hlt) (by rw [get_list hlt]; exact hdg)]))
        have HL := Lib.hid (HLT.out s[k])
        have HR : Hid (ANS = if n ≤ 9223372036854775808 ∧ (s[a] ≠ 48 ∨ k - a = 1) ∧ letN s[k].toNat = false then some (n, k - a) else none) := Lib.hid (by
          rw [← HA.out]
          unfold rnum
          obtain ⟨h1, h2, h3⟩ := HE.out
          rw [h2, h3, HH0.out]
          have : (s.data.toList.drop a).drop (k - a) = s[k] :: s.data.toList.drop (k + 1) := by rw [List.drop_drop, show a + (k - a) = k by omega, drop_at hlt]
          rw [this]
          simp)
        clear hdg hend HDG HLT HN HE
        have hks : ((k : Int) == s.size) = false := by simp; omega
        cases hlet : letN s[k].toNat with
        | true =>
          rw [hlet] at HL
          have HA2 : Hid (ANS = none) := Lib.hid (by rw [HR.out, hlet]; simp)
          clear hlet
          by_cases h48 : s[a] = 48
          · have t1 : ((s[a].toNat : Int) != 48) = false := by rw [h48]; rfl
            clear h48
            by_cases hk1 : k = a + 1
            · have t2 : ((k : Int) == (a : Int) + 1) = true := by simp; omega
              clear hk1
              go_wp2_with (first | (go_at_call 61; refine HG.out.mono ?_; rintro e w' ⟨rfl, rfl⟩) | (go_at_call 60; refine HL.out.mono ?_; rintro e w' ⟨rfl, rfl⟩))
              go_ret3
              refine ⟨?_, rfl⟩
              rw [HA2.out]
              exact ⟨_, _, rfl⟩
            · have t2 : ((k : Int) == (a : Int) + 1) = false := by simp; omega
              clear hk1
              go_wp2_with (first | (go_at_call 61; refine HG.out.mono ?_; rintro e w' ⟨rfl, rfl⟩) | (go_at_call 60; refine HL.out.mono ?_; rintro e w' ⟨rfl, rfl⟩))
              go_ret3
              refine ⟨?_, rfl⟩
              rw [HA2.out]
              exact ⟨_, _, rfl⟩
          · have t1 : ((s[a].toNat : Int) != 48) = true := by
              have : s[a].toNat ≠ 48 := fun e => h48 (UInt8.toNat_inj.1 e)
              simp; omega
            clear h48
            go_wp2_with (first | (go_at_call 61; refine HG.out.mono ?_; rintro e w' ⟨rfl, rfl⟩) | (go_at_call 60; refine HL.out.mono ?_; rintro e w' ⟨rfl, rfl⟩))
            go_ret3
            refine ⟨?_, rfl⟩
            rw [HA2.out]
            exact ⟨_, _, rfl⟩
        | false =>
          rw [hlet] at HL
          have HR2 : Hid (ANS = if (s[a] ≠ 48 ∨ k - a = 1) then some (n, k - a) else none) := Lib.hid (by rw [HR.out, hlet]; simp [hn])
          have HKA : Hid (((a + (k - a) : Nat) : Int) = (k : Int)) := Lib.hid (by omega)
          clear hlet HR
          by_cases h48 : s[a] = 48
          · have t1 : ((s[a].toNat : Int) != 48) = false := by rw [h48]; rfl
            by_cases hk1 : k = a + 1
            · have t2 : ((k : Int) == (a : Int) + 1) = true := by simp; omega
              have HA2 : Hid (ANS = some (n, k - a)) := Lib.hid (by rw [HR2.out, if_pos (.inr (by omega))])
              clear hk1 h48
              go_wp2_with (first | (go_at_call 61; refine HG.out.mono ?_; rintro e w' ⟨rfl, rfl⟩) | (go_at_call 60; refine HL.out.mono ?_; rintro e w' ⟨rfl, rfl⟩))
              go_ret3
              refine ⟨?_, rfl⟩
              rw [HA2.out]
              show _ = Ending.returned (.tuple #[.int .u64 n, .int .i64 ((a + (k - a) : Nat) : Int), .bool true])
              rw [HKA.out]
              rfl
            · have t2 : ((k : Int) == (a : Int) + 1) = false := by simp; omega
              have HA2 : Hid (ANS = none) := Lib.hid (by rw [HR2.out, if_neg]; rintro (h | h); exact h h48; omega)
              clear hk1 h48
              go_wp2_with (first | (go_at_call 61; refine HG.out.mono ?_; rintro e w' ⟨rfl, rfl⟩) | (go_at_call 60; refine HL.out.mono ?_; rintro e w' ⟨rfl, rfl⟩))
              go_ret3
              refine ⟨?_, rfl⟩
              rw [HA2.out]
              exact ⟨_, _, rfl⟩
          · have t1 : ((s[a].toNat : Int) != 48) = true := by
              have : s[a].toNat ≠ 48 := fun e => h48 (UInt8.toNat_inj.1 e)
              simp; omega
            have HA2 : Hid (ANS = some (n, k - a)) := Lib.hid (by rw [HR2.out, if_pos (.inl h48)])
            clear h48
            go_wp2_with (first | (go_at_call 61; refine HG.out.mono ?_; rintro e w' ⟨rfl, rfl⟩) | (go_at_call 60; refine HL.out.mono ?_; rintro e w' ⟨rfl, rfl⟩))
            go_ret3
            refine ⟨?_, rfl⟩
            rw [HA2.out]
            show _ = Ending.returned (.tuple #[.int .u64 n, .int .i64 ((a + (k - a) : Nat) : Int), .bool true])
            rw [HKA.out]
            rfl
    · obtain rfl : k = s.size := by omega
      have HE := Lib.hid (hend.out (by rw [quot_at (Nat.le_refl _)]; rfl))
      have hks : ((s.size : Int) == s.size) = true := by simp
      have HR2 : Hid (ANS = if (s[a] ≠ 48 ∨ s.size - a = 1) then some (n, s.size - a) else none) := Lib.hid (by
        rw [← HA.out]
        unfold rnum
        obtain ⟨h1, h2, h3⟩ := HE.out
        rw [h2, h3, HH0.out]
        have : (s.data.toList.drop a).drop (s.size - a) = [] := by rw [List.drop_drop, show a + (s.size - a) = s.size by omega]; exact quot_at (Nat.le_refl _)
        rw [this]
        simp [hn])
      have HKA : Hid (((a + (s.size - a) : Nat) : Int) = (s.size : Int)) := Lib.hid (by omega)
      clear hend HDG HLT HN HE
      by_cases h48 : s[a] = 48
      · have t1 : ((s[a].toNat : Int) != 48) = false := by rw [h48]; rfl
        by_cases hk1 : s.size = a + 1
        · have t2 : ((s.size : Int) == (a : Int) + 1) = true := by simp; omega
          have HA2 : Hid (ANS = some (n, s.size - a)) := Lib.hid (by rw [HR2.out, if_pos (.inr (by omega))])
          clear hk1 h48
          go_wp2_with fail
          go_ret3
          refine ⟨?_, rfl⟩
          rw [HA2.out]
          show _ = Ending.returned (.tuple #[.int .u64 n, .int .i64 ((a + (s.size - a) : Nat) : Int), .bool true])
          rw [HKA.out]
          rfl
        · have t2 : ((s.size : Int) == (a : Int) + 1) = false := by simp; omega
          have HA2 : Hid (ANS = none) := Lib.hid (by rw [HR2.out, if_neg]; rintro (h | h); exact h h48; omega)
          clear hk1 h48
          go_wp2_with fail
          go_ret3
          refine ⟨?_, rfl⟩
          rw [HA2.out]
          exact ⟨_, _, rfl⟩
      · have t1 : ((s[a].toNat : Int) != 48) = true := by
          have : s[a].toNat ≠ 48 := fun e => h48 (UInt8.toNat_inj.1 e)
          simp; omega
        have HA2 : Hid (ANS = some (n, s.size - a)) := Lib.hid (by rw [HR2.out, if_pos (.inl h48)])
        clear h48
        go_wp2_with fail
        go_ret3
        refine ⟨?_, rfl⟩
        rw [HA2.out]
        show _ = Ending.returned (.tuple #[.int .u64 n, .int .i64 ((a + (s.size - a) : Nat) : Int), .bool true])
        rw [HKA.out]
        rfl
end Go.Proofs.YtimhhacfjgbomaaGreatDoor
