/-
  THE WALK of the reader's quoted: a name between quotes.
-/
import Derived.Test.YtimhhacfjgbomaaGreatDoorName
import Derived.Test.YtimhhacfjgbomaaGreatDoorBuilder
import Derived.Deep.LoopGhost
namespace Go.Proofs.YtimhhacfjgbomaaGreatDoor
set_option linter.unusedSimpArgs false
set_option linter.unusedVariables false
open Go.RowKit Go.Shelf Go.Lib

/-- Up to the next sign. -/
theorem quotL_cut : ∀ u : List UInt8, (index u [96] = -1 ∧ quotL u = none) ∨ ∃ k : Nat, index u [96] = k ∧ k < u.length ∧
    quotL u = if [96].isPrefixOf (u.drop (k + 1)) then (quotL (u.drop (k + 2))).map (fun p => (u.take k ++ 96 :: p.1, k + 2 + p.2)) else some (u.take k, k + 1)
  | [] => .inl ⟨rfl, rfl⟩
  | c :: r => by
    by_cases h : c = 96
    · subst h
      right
      refine ⟨0, by unfold index; rw [if_pos (by simp [List.isPrefixOf])]; rfl, by simp, ?_⟩
      conv => lhs; unfold quotL
      rw [if_pos rfl]
      cases r with
      | nil => simp [List.isPrefixOf]
      | cons d r' =>
        by_cases hd : d = 96
        · subst hd
          simp only [List.drop_succ_cons, List.drop_zero, List.take_zero, List.nil_append, if_true]
          rw [if_pos (by simp [List.isPrefixOf])]
          congr 1
          funext p
          rw [show 0 + 2 + p.2 = p.2 + 2 by omega]
        · have hd' : (96 == d) = false := by simpa using fun e => hd e.symm
          simp [List.isPrefixOf, hd, hd']
    · have h' : ¬ [96].isPrefixOf (c :: r) = true := by simp [List.isPrefixOf]; exact fun e => h e.symm
      have hi : index (c :: r) [96] = if index r [96] == -1 then -1 else index r [96] + 1 := by
        conv => lhs; unfold index
        rw [if_neg h']
      have hq : quotL (c :: r) = (quotL r).map fun p => (c :: p.1, p.2 + 1) := by
        conv => lhs; unfold quotL
        rw [if_neg h]
      rw [hi, hq]
      rcases quotL_cut r with ⟨h1, h2⟩ | ⟨k, h1, h2, h3⟩
      · left; rw [h1, h2]; exact ⟨rfl, rfl⟩
      · right
        have : ((k : Int) == -1) = false := by rw [beq_eq_false_iff_ne]; omega
        refine ⟨k + 1, by rw [h1]; simp [this], by simp; omega, ?_⟩
        rw [h3]
        simp only [List.drop_succ_cons, List.take_succ_cons]
        split
        · rw [Option.map_map]
          congr 1
          funext p
          simp only [Function.comp, List.cons_append, Prod.mk.injEq, true_and]
          omega
        · rfl

/-- How quoted ends. -/
def QuotQ (B : Nat) (s : ByteArray) (o : Option (List UInt8 × Nat)) (w : World) (e : Ending) (w' : World) : Prop :=
  w.grownBy w' (some B) ∧ match o with
    | none => e = .returned (.tuple #[.string ⟨#[]⟩, .bool false])
    | some p => e = .returned (.tuple #[.string ⟨p.1.toArray⟩, .bool (nameB p.1)]) ∧ Rd w' B s p.2
theorem only_step {a b c : World} {row : Option Nat} {n : Nat} (h : a.grownBy b row) (hb : Below n b c) (hn : a.heap.size ≤ n) : a.grownBy c row :=
  ⟨hb.os.trans h.os, hb.tape.trans h.tape, hb.output.trans h.output, Nat.le_trans h.size hb.size, fun i hi hne => (hb.block i (by omega)).trans (h.block i hi hne)⟩

/-- What is known in the loop. -/
structure QuI (B b : Nat) (s : ByteArray) (w : World) (j : Nat) (acc : List UInt8) (wr : World) : Prop where
  rd : Rd wr B s j
  bld : Bld wr b acc
  only : w.grownBy wr (some B)
  len : acc.length ≤ j
theorem QuI.drew {B b : Nat} {s : ByteArray} {w : World} {j : Nat} {acc : List UInt8} {wr : World} (h : QuI B b s w j acc wr) (n : Nat) : QuI B b s w j acc (wr.drewN n) :=
  ⟨h.rd, h.bld.next (bdrewN (Below.refl _ _) n), only_drewN h.only n, h.len⟩
theorem QuI.write {B b : Nat} {s : ByteArray} {w : World} {j : Nat} {acc acc' : List UInt8} {wr w1 : World} (h : QuI B b s w j acc wr) (hb : Below b wr w1) (hB : B < b) (hw : w.heap.size ≤ b) (hbld : Bld w1 b acc') (x : Int) (j' : Nat) (hx : x = (j' : Int)) (hl : acc'.length ≤ j') :
    QuI B b s w j' acc' (w1.setCell ⟨B, 1, none⟩ (.int .i64 x)) :=
  ⟨Rd.set' (i := j) ((hb.block B hB).trans h.rd) hx, hbld.set hB _, only_setCell (only_step h.only hb hw) (.inl rfl) _, hl⟩
theorem QuI.set {B b : Nat} {s : ByteArray} {w : World} {j : Nat} {acc : List UInt8} {wr : World} (h : QuI B b s w j acc wr) (hB : B < b) (hw : w.heap.size ≤ b) (x : Int) (j' : Nat) (hx : x = (j' : Int)) (hl : acc.length ≤ j') :
    QuI B b s w j' acc (wr.setCell ⟨B, 1, none⟩ (.int .i64 x)) := h.write (Below.refl _ _) hB hw h.bld x j' hx hl

theorem QuI.grow {B b : Nat} {s : ByteArray} {w : World} {j : Nat} {acc acc' : List UInt8} {wr w1 : World} (h : QuI B b s w j acc wr) (hb : Below b wr w1) (hB : B < b) (hw : w.heap.size ≤ b) (hbld : Bld w1 b acc') (hl : acc'.length ≤ j + 1) : Rd w1 B s j ∧ Bld w1 b acc' ∧ w.grownBy w1 (some B) :=
  ⟨(hb.block B hB).trans h.rd, hbld, only_step h.only hb hw⟩
theorem ret2s {a b : ByteArray} {c d : Bool} (h : a = b) (h' : c = d) : Ending.returned (.tuple #[.string a, .bool c]) = .returned (.tuple #[.string b, .bool d]) := by rw [h, h']

set_option maxRecDepth 100000 in
set_option maxHeartbeats 8000000 in
theorem quoted_any {n₀ : Nat} (B : Nat) (s : ByteArray) (i : Nat) (w : World) (hi : i < s.size) (hs : s.size ≤ 1048576) (hR : Rd w B s i) (hE : Env n₀ w) (hB : n₀ ≤ B) :
    Calls Tryz.prog 114 #[.pointer (some ⟨B, 0, none⟩)] w (QuotQ B s ((quotL (s.data.toList.drop (i + 1))).map fun p => (p.1, i + 1 + p.2)) w) := by
  have hBl := hR.lt
  obtain ⟨b, hb⟩ : ∃ b, w.heap.size = b := ⟨_, rfl⟩
  have r0 := hR.s
  have r1 := hR.at_
  have f1 := hR.fr 1
  have h0 : QuI B b s w (i + 1) [] ((w.setCell ⟨B, 1, none⟩ (.int .i64 ((i : Int) + 1))).alloc (.cells #[.pointer none, .slice none 0 0] 66)) := by
    have h1 : Rd (w.setCell ⟨B, 1, none⟩ (.int .i64 ((i : Int) + 1))) B s (i + 1) := Rd.set' hR (by omega)
    refine ⟨h1.next (ballocR _ _), ?_, only_alloc (only_setCell (only_refl w _) (.inl rfl) _) _, by simp⟩
    have h2 := Bld.new (w.setCell ⟨B, 1, none⟩ (.int .i64 ((i : Int) + 1)))
    have h3 : (w.setCell ⟨B, 1, none⟩ (.int .i64 ((i : Int) + 1))).heap.size = b := by rw [← hb]; simp [World.setCell]
    rw [h3] at h2; exact h2
  have H0 := Lib.hid h0
  obtain ⟨ANS, hA⟩ : ∃ A, (quotL (s.data.toList.drop (i + 1))).map (fun p => (p.1, i + 1 + p.2)) = A := ⟨_, rfl⟩
  rw [hA]
  have HA := Lib.hid hA
  have HB := Lib.hid hb
  clear h0 hA hR
  rw [hb] at hBl
  have hbw : w.heap.size ≤ b := by omega
  have HE := Lib.hid hE
  clear hE
  go_enter Tryz.func114, Tryz.ntmps114
  go_wp2_with fail
  go_step3
  go_wp2_with fail
  go_step3
  go_wp2_with fail
  go_loopg [5] (s.size - (i + 1)) (fun gk _ wr => ∃ (j : Nat) (acc : List UInt8), gk = s.size - j ∧ j ≤ s.size ∧ QuI B b s w j acc wr ∧ (quotL (s.data.toList.drop j)).map (fun p => (acc ++ p.1, j + p.2)) = ANS)
  case atStart => exact ⟨i + 1, [], rfl, by omega, H0.out, HA.out⟩
  case round =>
    obtain ⟨j, acc, rfl, hj, hq, h1⟩ := hrel
    have HQ := Lib.hid hq
    have H1 := Lib.hid h1
    clear hq h1 r0 r1 f1
    have r0 := HQ.out.rd.s
    have r1 := HQ.out.rd.at_
    have hlen : (s.data.toList.drop j).length = s.size - j := by rw [List.length_drop, sz]
    have hel := extract_list s j
    have hes := extract_size s j
    obtain ⟨m, hm⟩ := (HE.out.only HQ.out.only hB).maxLen
    have hal := HQ.out.len
    rcases quotL_cut (s.data.toList.drop j) with ⟨h2, h3⟩ | ⟨k, h2, h3, h4⟩
    · have hC : ∀ w, w.cell? ⟨2, 0, none⟩ = some (.int .i64 m) → Calls Tryz.prog 132 #[.string (s.extract j s.size), .string ⟨#[96]⟩] w fun e w' => e = .returned (.tuple #[.string (s.extract j s.size), .string ⟨#[]⟩, .bool false]) ∧ ∃ n, w' = w.drewN n := fun w hw =>
        (Tryz.strings_Cut (s.extract j s.size) ⟨#[96]⟩ m w (by omega) hw).mono fun e w' h => ⟨by
          rw [h.1]
          have : Lib.cut (s.extract j s.size).data.toList [96] = ((s.extract j s.size).data.toList, [], false) := by unfold Lib.cut; rw [hel, h2]; rfl
          show Ending.returned (.tuple #[.string ⟨(Lib.cut (s.extract j s.size).data.toList [96]).1.toArray⟩, .string ⟨(Lib.cut (s.extract j s.size).data.toList [96]).2.1.toArray⟩, .bool (Lib.cut (s.extract j s.size).data.toList [96]).2.2]) = _
          rw [this], h.2⟩
      have HC := Lib.hid hC
      have HM := Lib.hid hm
      have HA : Hid (ANS = none) := Lib.hid (by have := H1.out; rw [h3] at this; exact this.symm)
      clear hC hm h2 h3 hel hes hlen H1
      go_wp2_with fail
      go_quiet ((go_at_call 132; exact Calls.quiet_of (HC.out _ HM.out)))
      go_wp2_with fail
      go_ret2
      refine ⟨only_drewN HQ.out.only _, ?_⟩
      rw [HA.out]
      rfl
    · obtain ⟨P, hP⟩ : ∃ P : ByteArray, P.data.toList = (s.data.toList.drop j).take k := ⟨⟨((s.data.toList.drop j).take k).toArray⟩, rfl⟩
      obtain ⟨R, hR⟩ : ∃ R : ByteArray, R.data.toList = (s.data.toList.drop j).drop (k + 1) := ⟨⟨((s.data.toList.drop j).drop (k + 1)).toArray⟩, rfl⟩
      have hPs : P.size = k := by rw [← sz, hP, List.length_take]; omega
      have hC : ∀ w, w.cell? ⟨2, 0, none⟩ = some (.int .i64 m) → Calls Tryz.prog 132 #[.string (s.extract j s.size), .string ⟨#[96]⟩] w fun e w' => e = .returned (.tuple #[.string P, .string R, .bool true]) ∧ ∃ n, w' = w.drewN n := fun w hw =>
        (Tryz.strings_Cut (s.extract j s.size) ⟨#[96]⟩ m w (by omega) hw).mono fun e w' h => ⟨by
          rw [h.1]
          have : Lib.cut (s.extract j s.size).data.toList [96] = (P.data.toList, R.data.toList, true) := by
            unfold Lib.cut; rw [hel, h2, if_pos (by omega), hP, hR]; rfl
          show Ending.returned (.tuple #[.string ⟨(Lib.cut (s.extract j s.size).data.toList [96]).1.toArray⟩, .string ⟨(Lib.cut (s.extract j s.size).data.toList [96]).2.1.toArray⟩, .bool (Lib.cut (s.extract j s.size).data.toList [96]).2.2]) = _
          rw [this], h.2⟩
      have hkj : j + k + 1 ≤ s.size := by omega
      have HC := Lib.hid hC
      have HM := Lib.hid hm
      have HPs := Lib.hid hPs
      have HP := Lib.hid hP
      have h5 : (quotL (s.data.toList.drop j)).map (fun p => (acc ++ p.1, j + p.2)) = if [96].isPrefixOf (s.data.toList.drop (j + k + 1)) then (quotL (s.data.toList.drop (j + k + 2))).map (fun p => (acc ++ P.data.toList ++ [96] ++ p.1, j + k + 2 + p.2)) else some (acc ++ P.data.toList, j + k + 1) := by
        rw [h4, List.drop_drop, List.drop_drop, ← hP, show j + (k + 1) = j + k + 1 by omega, show j + (k + 2) = j + k + 2 by omega]
        split
        · rw [Option.map_map]
          congr 1; funext p
          simp only [Function.comp, List.append_assoc, List.cons_append, List.nil_append, Nat.add_assoc]
        · simp only [Option.map_some, Nat.add_assoc]
      have H5 := Lib.hid (h5.symm.trans H1.out)
      have hW : ∀ w, Bld w b acc → Calls Tryz.prog 50 #[.pointer (some ⟨b, 0, none⟩), .string P] w fun e w' => e = .returned (.tuple #[.int .i64 P.size, .nilIface]) ∧ Bld w' b (acc ++ P.data.toList) ∧ Below b w w' := fun w h => wstring_any b acc P w h (by omega)
      have HW := Lib.hid hW
      have HQ1 : ∀ n, Hid (QuI B b s w j acc (wr.drewN n)) := fun n => HQ.out.drew n
      clear hC hm h2 h3 h4 hel hes hlen H1 hP hR hW h5
      have hPk : P.size ≤ 1048576 := by omega
      go_wp2_with fail
      go_quiet ((go_at_call 132; exact Calls.quiet_of (HC.out _ HM.out)))
      have HQ2 := HQ1 nq
      clear HQ HQ1 r0 r1 HC HM hPs
      generalize World.drewN wr nq = V at *
      have r0 := HQ2.out.rd.s
      have r1 := HQ2.out.rd.at_
      clear r0 r1
      go_wp2_with fail
      refine (HW.out _ HQ2.out.bld).mono ?_
      rintro e w1 ⟨rfl, hb1, hl1⟩
      have hsum : (acc ++ P.data.toList).length ≤ j + P.size := by rw [List.length_append, sz]; omega
      obtain ⟨g1, g3⟩ : Rd w1 B s j ∧ w.grownBy w1 (some B) := ⟨(hl1.block B hBl).trans HQ2.out.rd, only_step HQ2.out.only hl1 hbw⟩
      have r0 := g1.s
      have r1 := g1.at_
      have f1 := g1.fr 1
      have G3 : QuI B b s w (j + P.size + 1) (acc ++ P.data.toList) (w1.setCell ⟨B, 1, none⟩ (.int .i64 ((j : Int) + ((P.size : Int) + 1)))) :=
        ⟨Rd.set' g1 (by omega), hb1.set hBl _, only_setCell g3 (.inl rfl) _, by omega⟩
      have HG := Lib.hid G3
      clear G3 g1 g3 hb1 hl1 HQ2 hsum
      go_wp2_with fail
      generalize w1.setCell ⟨B, 1, none⟩ (.int .i64 ((j : Int) + ((P.size : Int) + 1))) = V2 at *
      clear r0 r1 f1
      obtain ⟨J, hJ⟩ : ∃ J, j + P.size + 1 = J := ⟨_, rfl⟩
      have hjJ : j < J := by omega
      have hJs : J ≤ s.size := by have := HPs.out; omega
      have hkJ : j + k + 1 = J := by have := HPs.out; omega
      rw [hJ] at HG
      rw [show j + k + 2 = J + 1 by omega, hkJ] at H5
      have hJl := HG.out.len
      have HJ := Lib.hid hJ
      clear hJ hkJ hkj
      obtain ⟨acc', hacc⟩ : ∃ a, acc ++ P.data.toList = a := ⟨_, rfl⟩
      rw [hacc] at HG H5 hJl
      have HACC := Lib.hid hacc
      clear hacc
      have r0 := HG.out.rd.s
      have r1 := HG.out.rd.at_
      have hH : ∀ w, Calls Tryz.prog 111 #[.string (s.extract J s.size), .string ⟨#[96]⟩] w fun e w' => e = .returned (.bool ([96].isPrefixOf (s.data.toList.drop J))) ∧ w = w' := fun w =>
        (Tryz.strings_HasPrefix (s.extract J s.size) ⟨#[96]⟩ w).mono fun e w' h => ⟨by rw [h.1, ← extract_list]; rfl, h.2.symm⟩
      cases hp : [96].isPrefixOf (s.data.toList.drop J) with
      | true =>
        have hJ1 : J + 1 ≤ s.size := by
          have h1 := (List.isPrefixOf_iff_prefix.1 hp).length_le
          rw [List.length_drop, sz] at h1
          simp at h1; omega
        rw [hp] at hH H5
        rw [if_pos rfl] at H5
        have HH := Lib.hid hH
        have HB1 := wbyte_any b acc' 96
        have HB2 : Hid (∀ w, Bld w b acc' → Calls Tryz.prog 49 #[.pointer (some ⟨b, 0, none⟩), .int .u8 96] w fun e w' => e = .returned .nilIface ∧ Bld w' b (acc' ++ [96]) ∧ Below b w w') := Lib.hid fun w h => HB1 w h (by omega)
        clear hH hp HB1
        have HG1 : ∀ n, Hid (QuI B b s w J acc' (V2.drewN n)) := fun n => HG.out.drew n
        go_quiet ((go_at_call 111; exact Calls.quiet_of_same ((HH.out _).mono fun _ _ h => ⟨h.1, h.2.symm⟩)))
        have HG2 := HG1 nq
        clear HG HG1 HH r0 r1
        generalize World.drewN V2 nq = V3 at *
        go_wp2_with fail
        refine (HB2.out _ HG2.out.bld).mono ?_
        rintro e w2 ⟨rfl, hb2, hl2⟩
        obtain ⟨g1, g3⟩ : Rd w2 B s J ∧ w.grownBy w2 (some B) := ⟨(hl2.block B hBl).trans HG2.out.rd, only_step HG2.out.only hl2 hbw⟩
        have r0 := g1.s
        have r1 := g1.at_
        have f1 := g1.fr 1
        have G3 : QuI B b s w (J + 1) (acc' ++ [96]) (w2.setCell ⟨B, 1, none⟩ (.int .i64 ((J : Int) + 1))) :=
          ⟨Rd.set' g1 (by omega), hb2.set hBl _, only_setCell g3 (.inl rfl) _, by simp; omega⟩
        have HG3 := Lib.hid G3
        clear G3 g1 g3 hb2 hl2 HG2
        go_wp2_with fail
        go_roundg (s.size - (J + 1))
        case measure => omega
        case rel => exact ⟨J + 1, acc' ++ [96], rfl, hJ1, HG3.out, H5.out⟩
      | false =>
        rw [hp] at hH H5
        rw [if_neg (by simp)] at H5
        have HH := Lib.hid hH
        clear hH hp
        have HG1 : ∀ n, Hid (QuI B b s w J acc' (V2.drewN n)) := fun n => HG.out.drew n
        go_quiet ((go_at_call 111; exact Calls.quiet_of_same ((HH.out _).mono fun _ _ h => ⟨h.1, h.2.symm⟩)))
        have HG2 := HG1 nq
        clear HG HG1 HH r0 r1
        generalize World.drewN V2 nq = V3 at *
        go_wp2_with fail
        refine (bstringF_any b acc' V3 HG2.out.bld.f).mono ?_
        rintro e w2 ⟨rfl, hB2, hl2⟩
        go_wp2_with fail
        refine (bstringF_any b acc' w2 hB2).mono ?_
        rintro e w3 ⟨rfl, _, hl3⟩
        have hl4 := hl2.trans hl3
        have hA3 : Hid (Rd w3 B s J ∧ w.grownBy w3 (some B)) := ⟨(hl4.block B hBl).trans HG2.out.rd, only_step HG2.out.only hl4 hbw⟩
        have hE3 : Env n₀ w3 := HE.out.only hA3.out.2 hB
        have hN := name_any ⟨acc'.toArray⟩ w3 (by rw [← sz]; show acc'.length ≤ _; omega) hE3
        have HN := Lib.hid hN
        have HF5 := Lib.hid H5.out
        clear hN hE3 hl2 hl3 hl4 hB2 HG2
        go_wp2_with fail
        refine HN.out.mono ?_
        rintro e w4 ⟨rfl, hl5⟩
        have hA4 : Hid (Rd w4 B s J ∧ w.grownBy w4 (some B)) := ⟨hA3.out.1.next hl5, only_trans hA3.out.2 (only_of_below hl5 _)⟩
        clear hl5 hA3 HN
        go_wp2_with fail
        go_ret2
        refine ⟨hA4.out.2, ?_⟩
        rw [← H5.out]
        exact ⟨rfl, hA4.out.1⟩
end Go.Proofs.YtimhhacfjgbomaaGreatDoor
