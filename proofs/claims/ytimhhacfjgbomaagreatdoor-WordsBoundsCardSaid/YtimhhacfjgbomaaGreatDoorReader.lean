/-
  THE WALK of words.classOf.
  THE WALK of the reader's gap: blanks and comments are passed over; a comment that has no end gives up.
  THE WALK of the reader's run: letters and digits.
-/
import Derived.Test.YtimhhacfjgbomaaGreatDoorBase
import Derived.Deep.LoopGhost
namespace Go.Proofs.YtimhhacfjgbomaaGreatDoor
set_option linter.unusedSimpArgs false
set_option linter.unusedVariables false
open Go.RowKit Go.Shelf Go.Lib

theorem indexByte_any : ∀ (l : List UInt8) (c : UInt8), decide (0 ≤ indexByte l c) = l.any (fun x => x.toNat == c.toNat)
  | [], c => rfl
  | x :: l, c => by
    unfold indexByte
    have ih := indexByte_any l c
    have hx : (x.toNat == c.toNat) = (x == c) := by
      by_cases h : x = c
      · subst h; rw [beq_self_eq_true, beq_self_eq_true]
      · have : x.toNat ≠ c.toNat := fun e => h (UInt8.toNat_inj.1 e)
        rw [beq_eq_false_iff_ne.2 this, beq_eq_false_iff_ne.2 h]
    rw [List.any_cons, hx, ← ih]
    by_cases h : (x == c) = true
    · simp [h]
    · have h' : (x == c) = false := by simpa using h
      rw [h']
      have hge := indexByte_ge l c
      by_cases h1 : indexByte l c = -1
      · simp [h1]
      · have h2 : (indexByte l c == -1) = false := by simpa using h1
        simp [h2]; omega
theorem u8_back (c : UInt8) : ((c.toNat : Int).toNat.toUInt8) = c := by rw [Int.toNat_natCast]; exact UInt8.ofNat_toNat

set_option maxHeartbeats 1000000 in
theorem class_any (c : UInt8) (w : World) : Calls Tryz.prog 69 #[.int .u8 c.toNat] w fun e w' => e = .returned (.int .i64 (cls c.toNat : Nat)) ∧ w = w' := by
  have hlt := c.toNat_lt
  have hI : ∀ w, Calls Tryz.prog 36 #[.string ⟨#[40, 41, 91, 93, 123, 125, 44, 46, 58, 124, 61, 60, 62, 43, 45, 42, 47, 37, 36]⟩, .int .u8 c.toNat] w fun e w' => e = .returned (.int .i64 (indexByte signs c)) ∧ w = w' := fun w =>
    (Tryz.strings_IndexByte _ _ w).mono fun e w' h => ⟨by rw [h.1, u8_back]; rfl, h.2.symm⟩
  have hs := indexByte_any signs c
  have HS : Hid (decide (0 ≤ indexByte signs c) = signN c.toNat) := hs
  have HI := Lib.hid hI
  clear hI hs
  generalize indexByte signs c = I at *
  obtain ⟨C, hC⟩ : ∃ C, cls c.toNat = C := ⟨_, rfl⟩
  rw [hC]
  have HC := Lib.hid hC
  clear hC
  unfold cls letN digN at HC
  generalize signN c.toNat = sg at *
  generalize c.toNat = n at *
  go_enter Tryz.func69, Tryz.ntmps69
  go_wp2_with (go_at_call 36; refine (HI.out _).mono ?_; rintro e w' ⟨rfl, rfl⟩)
  all_goals go_ret
  all_goals
    have h1 := HC.out
    have h2 := HS.out
    refine ⟨ret1 ?_, rfl⟩
    clear HC HS HI
    cases sg <;> simp at h1 h2 <;> (repeat' (split at h1)) <;> (simp at * ; omega)
end Go.Proofs.YtimhhacfjgbomaaGreatDoor
namespace Go.Proofs.YtimhhacfjgbomaaGreatDoor
set_option linter.unusedSimpArgs false
set_option linter.unusedVariables false
open Go.RowKit Go.Shelf Go.Lib

/-- What is given up with. -/
def refusedV (n : Nat) : List PanicEntry := [{ v := .iface 106 (.agg #[.int .i64 n]), recovered := false }]
/-- How gap ends. -/
def GapQ (B : Nat) (s : ByteArray) (n : Nat) (ok : Bool) (w : World) (e : Ending) (w' : World) : Prop :=
  w.grownBy w' (some B) ∧ if ok then e = .returned (.tuple #[]) ∧ Rd w' B s n else e = .panicked (refusedV n)

theorem extract_list (s : ByteArray) (j : Nat) : (s.extract j s.size).data.toList = s.data.toList.drop j := by
  have := extract_toList s j s.size
  rw [ByteArray.toList_eq] at this
  rw [this, List.take_of_length_le (by rw [List.length_drop, Array.length_toList]; show s.size - j ≤ s.size - j; omega)]
theorem extract_size (s : ByteArray) (j : Nat) : (s.extract j s.size).size = s.size - j := by simp
theorem blank_any (c : UInt8) : [32, 9, 10, 13].any (fun x : UInt8 => x.toNat == c.toNat) = blankN c.toNat := by
  simp only [List.any_cons, List.any_nil, Bool.or_false, blankN]
  have e : ∀ k : Nat, (k == c.toNat) = decide (c.toNat = k) := fun k => by by_cases h : c.toNat = k <;> simp [h]; omega
  show ((32 == c.toNat) || ((9 == c.toNat) || ((10 == c.toNat) || (13 == c.toNat)))) = _
  rw [e, e, e, e]
  cases decide (c.toNat = 32) <;> cases decide (c.toNat = 9) <;> cases decide (c.toNat = 10) <;> simp

theorem head_of {v : ByteArray} (h : 0 < v.size) : ∃ r, v.data.toList = v[0] :: r := by
  obtain ⟨⟨l⟩⟩ := v
  cases l with
  | nil => exact absurd h (Nat.lt_irrefl 0)
  | cons c r => exact ⟨r, rfl⟩
theorem Rd.set' {w : World} {B : Nat} {s : ByteArray} {i : Nat} (h : Rd w B s i) {x : Int} {j : Nat} (hx : x = (j : Int)) : Rd (w.setCell ⟨B, 1, none⟩ (.int .i64 x)) B s j := by
  subst hx; exact h.set j

set_option maxRecDepth 100000 in
set_option maxHeartbeats 8000000 in
theorem gap_any {n₀ : Nat} (B : Nat) (s : ByteArray) (i : Nat) (w : World) (hi : i ≤ s.size) (hs : s.size ≤ 1048576) (hR : Rd w B s i) (hE : Env n₀ w) (hB : n₀ ≤ B) :
    Calls Tryz.prog 96 #[.pointer (some ⟨B, 0, none⟩)] w (GapQ B s (i + (skip (s.data.toList.drop i)).1) (skip (s.data.toList.drop i)).2 w) := by
  obtain ⟨END, hEND⟩ : ∃ n, i + (skip (s.data.toList.drop i)).1 = n := ⟨_, rfl⟩
  obtain ⟨OK, hOK⟩ : ∃ b, (skip (s.data.toList.drop i)).2 = b := ⟨_, rfl⟩
  rw [hEND, hOK]
  have HEND := Lib.hid hEND
  have HOK := Lib.hid hOK
  have HR := Lib.hid hR
  clear hEND hOK hR
  go_enter Tryz.func96, Tryz.ntmps96
  go_wp2_with fail
  go_loopg [2] (s.size - i) (fun gk _ wr => ∃ j : Nat, gk = s.size - j ∧ j ≤ s.size ∧ Rd wr B s j ∧ w.grownBy wr (some B) ∧ j + (skip (s.data.toList.drop j)).1 = END ∧ (skip (s.data.toList.drop j)).2 = OK)
  case atStart => exact ⟨i, rfl, hi, HR.out, only_refl _ _, HEND.out, HOK.out⟩
  case round =>
    obtain ⟨j, rfl, hj, hRj, hg, h1, h2⟩ := hrel
    have HRj := Lib.hid hRj
    have HG := Lib.hid hg
    have H1 := Lib.hid h1
    have H2 := Lib.hid h2
    clear hRj hg h1 h2
    have r0 := HRj.out.s
    have r1 := HRj.out.at_
    by_cases hlt : j < s.size
    · go_wp2_with fail
      go_quiet (fail)
      have HR1 : Hid (Rd (wr.drewN nq) B s j) := HRj.out
      have HG1 : Hid (w.grownBy (wr.drewN nq) (some B)) := only_drewN HG.out nq
      clear HRj HG r0 r1
      generalize World.drewN wr nq = V1 at *
      have r0 := HR1.out.s
      have r1 := HR1.out.at_
      go_wp2_with fail
      go_quiet (fail)
      have hRV : Rd (V1.drewN nq) B s j := HR1.out
      have hGV : w.grownBy (V1.drewN nq) (some B) := only_drewN HG1.out nq
      have hvs := extract_size s j
      have hvl := extract_list s j
      clear HR1 HG1 r0 r1
      generalize World.drewN V1 nq = V at *
      generalize s.extract j s.size = v at *
      have hv0 : 0 < v.size := by omega
      have hvb : j + v.size ≤ s.size := by omega
      have HVL := Lib.hid hvl
      have HVS := Lib.hid hvs
      have HRV := Lib.hid hRV
      have HGV := Lib.hid hGV
      clear hvl hvs hRV hGV
      have r0 := HRV.out.s
      have r1 := HRV.out.at_
      have f1 := HRV.out.fr 1
      obtain ⟨r, hr⟩ := head_of hv0
      rw [HVL.out] at hr
      have hI : ∀ w, Calls Tryz.prog 36 #[.string ⟨#[32, 9, 10, 13]⟩, .int .u8 v[0].toNat] w fun e w' => e = .returned (.int .i64 (indexByte [32, 9, 10, 13] v[0])) ∧ w = w' := fun w =>
        (Tryz.strings_IndexByte _ _ w).mono fun e w' h => ⟨by rw [h.1, u8_back], h.2.symm⟩
      have hib : decide ((0 : Int) ≤ indexByte [32, 9, 10, 13] v[0]) = blankN v[0].toNat := by rw [indexByte_any, blank_any]
      have hP1 : ∀ w, Calls Tryz.prog 111 #[.string v, .string ⟨#[47, 47]⟩] w fun e w' => e = .returned (.bool ([47, 47].isPrefixOf (s.data.toList.drop j))) ∧ w = w' := fun w =>
        (Tryz.strings_HasPrefix v ⟨#[47, 47]⟩ w).mono fun e w' h => ⟨by rw [h.1, HVL.out]; rfl, h.2.symm⟩
      have hP2 : ∀ w, Calls Tryz.prog 111 #[.string v, .string ⟨#[47, 42]⟩] w fun e w' => e = .returned (.bool ([47, 42].isPrefixOf (s.data.toList.drop j))) ∧ w = w' := fun w =>
        (Tryz.strings_HasPrefix v ⟨#[47, 42]⟩ w).mono fun e w' h => ⟨by rw [h.1, HVL.out]; rfl, h.2.symm⟩
      have hN : ∀ w, Calls Tryz.prog 36 #[.string v, .int .u8 10] w fun e w' => e = .returned (.int .i64 (indexByte (s.data.toList.drop j) 10)) ∧ w = w' := fun w =>
        (Tryz.strings_IndexByte v 10 w).mono fun e w' h => ⟨by rw [h.1, HVL.out]; rfl, h.2.symm⟩
      have HI := Lib.hid hI; have HP1 := Lib.hid hP1; have HP2 := Lib.hid hP2; have HN := Lib.hid hN
      have hsk := skip_eq (s.data.toList.drop j)
      have hlen : (s.data.toList.drop j).length = s.size - j := by rw [List.length_drop, Array.length_toList]; rfl
      have HSK := Lib.hid hsk
      have HLEN := Lib.hid hlen
      have HHD := Lib.hid hr
      clear hI hP1 hP2 hN hsk hlen hr
      have HIB := Lib.hid hib
      clear hib
      generalize indexByte [32, 9, 10, 13] v[0] = I at *
      -- what each way of going on does
      have HGO : Hid (∀ n : Nat, gap1 (s.data.toList.drop j) = (n, true) → 0 < n → (j + n) + (skip (s.data.toList.drop (j + n))).1 = END ∧ (skip (s.data.toList.drop (j + n))).2 = OK ∧ j + n ≤ s.size) := fun n hg hn => by
        have h1 := H1.out; have h2 := H2.out; have h3 := HSK.out
        have h4 := gap1_le (s.data.toList.drop j)
        rw [HLEN.out, hg] at h4
        rw [hg, if_neg (by simp; omega), List.drop_drop] at h3
        rw [h3] at h1 h2
        simp only at h1 h2 h4
        exact ⟨by omega, h2, by omega⟩
      have HST : Hid (gap1 (s.data.toList.drop j) = (0, true) → j = END ∧ OK = true) := fun hg => by
        have h1 := H1.out; have h2 := H2.out; have h3 := HSK.out
        rw [hg, if_pos rfl] at h3
        rw [h3] at h1 h2
        exact ⟨by simpa using h1, by simpa using h2.symm⟩
      have HBD : Hid (gap1 (s.data.toList.drop j) = (0, false) → j = END ∧ OK = false) := fun hg => by
        have h1 := H1.out; have h2 := H2.out; have h3 := HSK.out
        rw [hg, if_pos rfl] at h3
        rw [h3] at h1 h2
        exact ⟨by simpa using h1, by simpa using h2.symm⟩
      cases hbl : blankN v[0].toNat with
      | true =>
        have hI0 : 0 ≤ I := by have := HIB.out; rw [hbl] at this; simpa using this
        have hgo := HGO.out 1 (by rw [HHD.out]; unfold gap1; simp [hbl]) (by omega)
        have HGN := Lib.hid hgo
        clear hbl hgo
        go_wp2_with (go_at_call 36; refine (HI.out _).mono ?_; rintro e w' ⟨rfl, rfl⟩)
        go_roundg (s.size - (j + 1))
        case measure => omega
        case rel => exact ⟨j + 1, rfl, HGN.out.2.2, HRV.out.set' (by omega), only_setCell HGV.out (.inl rfl) _, HGN.out.1, HGN.out.2.1⟩
      | false =>
        have hI0 : I < 0 := by have := HIB.out; rw [hbl] at this; simpa using this
        have HBL := Lib.hid hbl
        clear hbl
        cases hp1 : [47, 47].isPrefixOf (s.data.toList.drop j) with
        | true =>
          rw [hp1] at HP1
          have hl0 : 0 < lineL (s.data.toList.drop j) := by
            have h1 := hp1; rw [HHD.out] at h1 ⊢
            have : v[0] = 47 := by simp only [List.isPrefixOf_cons_cons, Bool.and_eq_true, beq_iff_eq] at h1; exact h1.1.symm
            rw [this]; unfold lineL; simp
          have hgo := HGO.out (lineL (s.data.toList.drop j)) (by
            have h1 := hp1; rw [HHD.out] at h1 ⊢; unfold gap1; simp only [HBL.out, h1]; rfl) hl0
          have HGN := Lib.hid hgo
          clear hgo hp1 HP2
          rcases lineL_index (s.data.toList.drop j) with ⟨h1, h2⟩ | ⟨h1, h2⟩
          · rw [h1] at HN
            have hln : lineL (s.data.toList.drop j) = v.size := by rw [h2, HLEN.out, HVS.out]
            rw [hln] at HGN
            clear h1 h2 hln
            go_wp2_with (first
              | (go_at_call_of 36 (Value.string v); refine (HN.out _).mono ?_; rintro e w' ⟨rfl, rfl⟩)
              | (go_at_call 36; refine (HI.out _).mono ?_; rintro e w' ⟨rfl, rfl⟩)
              | (go_at_call 111; refine (HP1.out _).mono ?_; rintro e w' ⟨rfl, rfl⟩))
            go_roundg (s.size - (j + v.size))
            case measure => omega
            case rel => exact ⟨j + v.size, rfl, HGN.out.2.2, HRV.out.set' (by omega), only_setCell HGV.out (.inl rfl) _, HGN.out.1, HGN.out.2.1⟩
          · rw [h1] at HN
            have hln : lineL (s.data.toList.drop j) ≤ s.size := by have := HLEN.out; omega
            generalize lineL (s.data.toList.drop j) = N at *
            clear h1 h2
            have hb2 := HGN.out.2.2
            go_wp2_with (first
              | (go_at_call_of 36 (Value.string v); refine (HN.out _).mono ?_; rintro e w' ⟨rfl, rfl⟩)
              | (go_at_call 36; refine (HI.out _).mono ?_; rintro e w' ⟨rfl, rfl⟩)
              | (go_at_call 111; refine (HP1.out _).mono ?_; rintro e w' ⟨rfl, rfl⟩))
            go_roundg (s.size - (j + N))
            case measure => omega
            case rel => exact ⟨j + N, rfl, HGN.out.2.2, HRV.out.set' (by omega), only_setCell HGV.out (.inl rfl) _, HGN.out.1, HGN.out.2.1⟩
        | false =>
          rw [hp1] at HP1
          have HQ1 := Lib.hid hp1
          clear hp1 HN
          cases hp2 : [47, 42].isPrefixOf (s.data.toList.drop j) with
          | true =>
            rw [hp2] at HP2
            have hv2 : 2 ≤ v.size := by
              have hq := (List.isPrefixOf_iff_prefix.1 hp2).length_le
              rw [HLEN.out] at hq
              change 2 ≤ s.size - j at hq
              have hq2 := HVS.out
              omega
            obtain ⟨m, hm⟩ := (hE.only HGV.out hB).maxLen
            have hX : ∀ w, w.cell? ⟨2, 0, none⟩ = some (.int .i64 m) → Calls Tryz.prog 71 #[.string (v.extract 2 v.size), .string ⟨#[42, 47]⟩] w fun e w' => e = .returned (.int .i64 (index ((s.data.toList.drop j).drop 2) [42, 47])) ∧ w = w' := fun w hw =>
              (Tryz.strings_Index (v.extract 2 v.size) ⟨#[42, 47]⟩ m w (by rw [extract_size]; omega) hw).mono fun e w' h => ⟨by rw [h.1, extract_list, HVL.out], h.2.symm⟩
            have HX := Lib.hid hX
            have HMX := Lib.hid hm
            clear hX hm
            have hg1 : gap1 (s.data.toList.drop j) = match endL ((s.data.toList.drop j).drop 2) with | some n => (n + 4, true) | none => (0, false) := by
              have h1 := hp2; have h2 := HQ1.out; rw [HHD.out] at h1 h2 ⊢; unfold gap1; simp only [HBL.out, h1, h2]; rfl
            have HG1 := Lib.hid hg1
            clear hg1 hp2
            rcases endL_index ((s.data.toList.drop j).drop 2) with ⟨h1, h2⟩ | ⟨n, h1, h2, h3⟩
            · rw [h1] at HX
              have hbd := HBD.out (by rw [HG1.out, h2])
              have HBN := Lib.hid hbd
              clear h1 h2 hbd
              go_wp2_with (first
                | (go_at_call 36; refine (HI.out _).mono ?_; rintro e w' ⟨rfl, rfl⟩)
                | (go_at_call_of 111 (Value.string ⟨#[47, 47]⟩); refine (HP1.out _).mono ?_; rintro e w' ⟨rfl, rfl⟩)
                | (go_at_call_of 111 (Value.string ⟨#[47, 42]⟩); refine (HP2.out _).mono ?_; rintro e w' ⟨rfl, rfl⟩)
                | (go_at_call 71; refine (HX.out _ HMX.out).mono ?_; rintro e w' ⟨rfl, rfl⟩))
              exact ⟨rfl, HGV.out, by rw [HBN.out.2, ← HBN.out.1]; rfl⟩
            · rw [h1] at HX
              have hgo := HGO.out (n + 4) (by rw [HG1.out, h2]) (by omega)
              have HGN := Lib.hid hgo
              have hnb := hgo.2.2
              clear h1 h2 hgo
              go_wp2_with (first
                | (go_at_call 36; refine (HI.out _).mono ?_; rintro e w' ⟨rfl, rfl⟩)
                | (go_at_call_of 111 (Value.string ⟨#[47, 47]⟩); refine (HP1.out _).mono ?_; rintro e w' ⟨rfl, rfl⟩)
                | (go_at_call_of 111 (Value.string ⟨#[47, 42]⟩); refine (HP2.out _).mono ?_; rintro e w' ⟨rfl, rfl⟩)
                | (go_at_call 71; refine (HX.out _ HMX.out).mono ?_; rintro e w' ⟨rfl, rfl⟩))
              go_roundg (s.size - (j + (n + 4)))
              case measure => omega
              case rel => exact ⟨j + (n + 4), rfl, HGN.out.2.2, HRV.out.set' (by omega), only_setCell HGV.out (.inl rfl) _, HGN.out.1, HGN.out.2.1⟩
          | false =>
            rw [hp2] at HP2
            have hst := HST.out (by
              have h1 := hp2; have h2 := HQ1.out; rw [HHD.out] at h1 h2 ⊢; unfold gap1; simp only [HBL.out, h1, h2]; rfl)
            have HSN := Lib.hid hst
            clear hst hp2
            go_wp2_with (first
              | (go_at_call 36; refine (HI.out _).mono ?_; rintro e w' ⟨rfl, rfl⟩)
              | (go_at_call_of 111 (Value.string ⟨#[47, 47]⟩); refine (HP1.out _).mono ?_; rintro e w' ⟨rfl, rfl⟩)
              | (go_at_call_of 111 (Value.string ⟨#[47, 42]⟩); refine (HP2.out _).mono ?_; rintro e w' ⟨rfl, rfl⟩))
            go_end0
            exact ⟨HGV.out, by rw [HSN.out.2, ← HSN.out.1]; exact ⟨rfl, HRV.out⟩⟩
    · go_wp2_with fail
      go_quiet (fail)
      go_wp2_with fail
      go_end0
      have hjs : j = s.size := by omega
      have hsk : skip (s.data.toList.drop j) = (0, true) := by rw [List.drop_of_length_le (by rw [Array.length_toList]; show s.size ≤ j; omega)]; rfl
      have h1 := H1.out
      have h2 := H2.out
      rw [hsk] at h1 h2
      simp only [Nat.add_zero] at h1 h2
      subst h1; subst h2
      exact ⟨only_drewN HG.out _, rfl, HRj.out⟩
end Go.Proofs.YtimhhacfjgbomaaGreatDoor
namespace Go.Proofs.YtimhhacfjgbomaaGreatDoor
set_option linter.unusedSimpArgs false
set_option linter.unusedVariables false
open Go.RowKit Go.Shelf Go.Lib

theorem ba_ext {a b : ByteArray} (h : a.data.toList = b.data.toList) : a = b := by
  obtain ⟨x⟩ := a
  obtain ⟨y⟩ := b
  simp only at h
  rw [Array.toList_inj.1 h]
theorem retS {a b : ByteArray} (h : a = b) : Ending.returned (.string a) = .returned (.string b) := by rw [h]
theorem extract_take (s : ByteArray) (i j : Nat) : (s.extract i j).data.toList = (s.data.toList.drop i).take (j - i) := by
  have := extract_toList s i j
  rw [ByteArray.toList_eq] at this
  exact this
theorem sz (s : ByteArray) : s.data.toList.length = s.size := by rw [Array.length_toList]; rfl
theorem drop_at {s : ByteArray} {j : Nat} (h : j < s.size) : s.data.toList.drop j = s[j] :: s.data.toList.drop (j + 1) := by
  rw [List.drop_eq_getElem_cons (by rw [sz]; exact h)]
  rfl
theorem runB_cls (c : UInt8) : runB c = (decide (cls c.toNat = 1) || decide (cls c.toNat = 2)) := by
  unfold runB cls
  cases letN c.toNat <;> cases digN c.toNat <;> simp
  split
  · simp
  · split
    · simp
    · split <;> simp

/-- How run, quoted, .. end: a text, the reader further on. -/
def RunQ (B : Nat) (s : ByteArray) (t : List UInt8) (n : Nat) (w : World) (e : Ending) (w' : World) : Prop :=
  e = .returned (.string ⟨t.toArray⟩) ∧ w.grownBy w' (some B) ∧ Rd w' B s n

set_option maxRecDepth 100000 in
set_option maxHeartbeats 8000000 in
theorem run_any (B : Nat) (s : ByteArray) (i : Nat) (w : World) (hi : i ≤ s.size) (hs : s.size ≤ 1048576) (hR : Rd w B s i) :
    Calls Tryz.prog 70 #[.pointer (some ⟨B, 0, none⟩)] w (RunQ B s (runL (s.data.toList.drop i)) (i + (runL (s.data.toList.drop i)).length) w) := by
  obtain ⟨END, hEND⟩ : ∃ n, i + (runL (s.data.toList.drop i)).length = n := ⟨_, rfl⟩
  have hT : s.extract i END = ⟨(runL (s.data.toList.drop i)).toArray⟩ := ba_ext (by
    rw [extract_take, ← hEND, Nat.add_sub_cancel_left]
    show _ = runL _
    unfold runL
    exact (List.prefix_iff_eq_take.1 (List.takeWhile_prefix _)).symm)
  have hEs : END ≤ s.size := by
    have := runL_le (s.data.toList.drop i)
    rw [List.length_drop, sz] at this
    omega
  have hiE : i ≤ END := by omega
  rw [hEND]
  have HST0 := hEND
  have HEND := Lib.hid hEND
  have HT := Lib.hid hT
  have HR := Lib.hid hR
  clear hEND hT hR
  have r0 := HR.out.s
  have r1 := HR.out.at_
  have HST := Lib.hid HST0
  clear HST0
  go_enter Tryz.func70, Tryz.ntmps70
  go_wp2_with fail
  go_loopg [8] (s.size - i) (fun gk _ wr => ∃ j : Nat, gk = s.size - j ∧ j ≤ s.size ∧ Rd wr B s j ∧ w.grownBy wr (some B) ∧ j + (runL (s.data.toList.drop j)).length = END)
  case atStart => exact ⟨i, rfl, hi, HR.out, only_refl _ _, HST.out⟩
  case round =>
    obtain ⟨j, rfl, hj, hRj, hg, h1⟩ := hrel
    have HRj := Lib.hid hRj
    have HG := Lib.hid hg
    have H1 := Lib.hid h1
    clear hRj hg h1 r0 r1
    have r0 := HRj.out.s
    have r1 := HRj.out.at_
    by_cases hgo : j < s.size ∧ ∃ h : j < s.size, runB s[j] = true
    · obtain ⟨hlt, _, hb⟩ := hgo
      have hC := class_any s[j]
      have hnx : (j + 1) + (runL (s.data.toList.drop (j + 1))).length = END := by
        have h1 := H1.out
        rw [drop_at hlt] at h1
        unfold runL at h1 ⊢
        rw [List.takeWhile_cons_of_pos hb, List.length_cons] at h1
        omega
      have HNX := Lib.hid hnx
      have hcc := runB_cls s[j]
      rw [hb] at hcc
      have hcl : cls s[j].toNat = 1 ∨ cls s[j].toNat = 2 := by simpa using hcc.symm
      have HC := Lib.hid hC
      clear hb hC hnx hcc
      generalize cls s[j].toNat = C at *
      rcases hcl with rfl | rfl
      all_goals
        go_wp2_with fail
        go_quiet ((go_at_call 69; exact Calls.quiet_of_same ((HC.out _).mono fun _ _ h => ⟨h.1, h.2.symm⟩)))
        have HR1 : Hid (Rd (wr.drewN nq) B s j) := HRj.out
        have HG1 : Hid (w.grownBy (wr.drewN nq) (some B)) := only_drewN HG.out nq
        clear HRj HG r0 r1
        generalize World.drewN wr nq = V1 at *
        have r0 := HR1.out.s
        have r1 := HR1.out.at_
        have f1 := HR1.out.fr 1
        go_wp2_with fail
        go_roundg (s.size - (j + 1))
        case measure => omega
        case rel => exact ⟨j + 1, rfl, by omega, HR1.out.set' (by omega), only_setCell HG1.out (.inl rfl) _, HNX.out⟩
    · have hje : j = END := by
        have h1 := H1.out
        rcases Nat.lt_or_ge j s.size with h | h
        · have hb : runB s[j] = false := by
            cases hb : runB s[j] with
            | false => rfl
            | true => exact absurd ⟨h, h, hb⟩ hgo
          rw [drop_at h] at h1
          unfold runL at h1
          rw [List.takeWhile_cons_of_neg (by rw [hb]; simp)] at h1
          simpa using h1
        · rw [List.drop_of_length_le (by rw [sz]; exact h)] at h1
          simpa [runL] using h1
      subst hje
      rcases Nat.lt_or_ge j s.size with hlt | hge
      · have hC := class_any s[j]
        have hcl : cls s[j].toNat ≠ 1 ∧ cls s[j].toNat ≠ 2 := by
          have hcc := runB_cls s[j]
          cases hb : runB s[j] with
          | true => exact absurd ⟨hlt, hlt, hb⟩ hgo
          | false => rw [hb] at hcc; simpa using hcc.symm
        have e1 : (((cls s[j].toNat : Nat) : Int) == 1) = false := by simp; omega
        have e2 : (((cls s[j].toNat : Nat) : Int) == 2) = false := by simp; omega
        have HC := Lib.hid hC
        clear hC hgo hcl
        generalize ((cls s[j].toNat : Nat) : Int) = C at *
        go_wp2_with fail
        go_quiet ((go_at_call 69; exact Calls.quiet_of_same ((HC.out _).mono fun _ _ h => ⟨h.1, h.2.symm⟩)))
        have HR1 : Hid (Rd (wr.drewN nq) B s j) := HRj.out
        have HG1 : Hid (w.grownBy (wr.drewN nq) (some B)) := only_drewN HG.out nq
        clear HRj HG r0 r1
        generalize World.drewN wr nq = V1 at *
        have r0 := HR1.out.s
        have r1 := HR1.out.at_
        go_wp2_with fail
        go_quiet (fail)
        go_wp2_with fail
        go_ret
        exact ⟨retS HT.out, only_drewN HG1.out _, HR1.out⟩
      · clear hgo
        have hd : decide (j < s.size) = false := by simp; omega
        go_wp2_with fail
        go_quiet (fail)
        have HR1 : Hid (Rd (wr.drewN nq) B s j) := HRj.out
        have HG1 : Hid (w.grownBy (wr.drewN nq) (some B)) := only_drewN HG.out nq
        clear HRj HG r0 r1
        generalize World.drewN wr nq = V1 at *
        have r0 := HR1.out.s
        have r1 := HR1.out.at_
        go_wp2_with fail
        go_quiet (fail)
        go_wp2_with fail
        go_ret
        exact ⟨retS HT.out, only_drewN HG1.out _, HR1.out⟩
end Go.Proofs.YtimhhacfjgbomaaGreatDoor
