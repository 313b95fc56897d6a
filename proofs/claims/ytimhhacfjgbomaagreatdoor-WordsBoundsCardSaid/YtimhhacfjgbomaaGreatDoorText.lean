/-
  THE WALK of the reader's text: what stands in quotes.
-/
import Derived.Test.YtimhhacfjgbomaaGreatDoorEscape
import Derived.Test.YtimhhacfjgbomaaGreatDoorValids
import Derived.Test.YtimhhacfjgbomaaGreatDoorBuilder
namespace Go.Proofs.YtimhhacfjgbomaaGreatDoor
set_option linter.unusedSimpArgs false
set_option linter.unusedVariables false
open Go.RowKit Go.Shelf

/-- Behind a backslash. -/
theorem textL_back (q : UInt8) (hq : q ≠ 92) (u : List UInt8) : textL q (92 :: u) = match escP u with
    | none => none
    | some p => (textL q (u.drop p.2)).map fun r => (p.1 ++ r.1, p.2 + 1 + r.2) := by
  conv => lhs; unfold textL
  rw [if_neg (fun e => hq e.symm), if_pos rfl]
  unfold escP
  cases u with
  | nil => rfl
  | cons d r =>
    simp only
    cases he : esc1 d with
    | some x =>
      simp only [List.drop_succ_cons, List.drop_zero]
      congr 1; funext p
      simp only [List.cons_append, List.nil_append]
      congr 1; omega
    | none =>
      simp only
      by_cases hd : d = 117
      · simp only [hd, if_true]
        match r with
        | [] => rfl
        | [_] => rfl
        | [_, _] => rfl
        | [_, _, _] => rfl
        | a :: b :: e :: f :: r' =>
          simp only
          cases hr : rune4 a b e f with
          | none => rfl
          | some bs =>
            simp only [Option.map_some, List.drop_succ_cons, List.drop_zero]
            congr 1; funext p
            congr 1; omega
      · simp only [hd, if_false]
theorem escP_len {u : List UInt8} {p : List UInt8 × Nat} (h : escP u = some p) : 1 ≤ p.1.length ∧ p.1.length ≤ p.2 ∧ p.2 ≤ u.length := by
  unfold escP at h
  split at h
  · cases h
  · split at h
    · cases h; simp
    · split at h
      · split at h
        · rename_i a b e f r
          obtain ⟨bs, h1, rfl⟩ := Option.map_eq_some_iff.1 h
          have : 1 ≤ bs.length ∧ bs.length ≤ 4 := by
            unfold rune4 at h1
            split at h1
            · split at h1
              · cases h1
              · cases h1
                unfold Lib.encodeRune Lib.encodeRuneZ
                rw [List.length_map]
                (repeat' split) <;> simp
            · cases h1
          simp; omega
        · cases h
      · cases h

/-- How text ends. -/
def TextQ (B : Nat) (s : ByteArray) (o : Option (List UInt8 × Nat)) (w : World) (e : Ending) (w' : World) : Prop :=
  w.grownBy w' (some B) ∧ match o with
    | none => e = .returned (.tuple #[.string ⟨#[]⟩, .bool false])
    | some p => e = .returned (.tuple #[.string ⟨p.1.toArray⟩, .bool (Lib.validD p.1)]) ∧ Rd w' B s p.2
/-- What is known in the loop. -/
structure TxI (B b : Nat) (s : ByteArray) (w : World) (j : Nat) (acc : List UInt8) (v : Value) (wr : World) : Prop where
  rd : Rd wr B s j
  own : wr.ownsRow b 5 1 v acc.length (Lib.byteCells acc)
  only : w.grownBy wr (some B)
  len : acc.length ≤ j
theorem TxI.drew {B b : Nat} {s : ByteArray} {w : World} {j : Nat} {acc : List UInt8} {v : Value} {wr : World} (h : TxI B b s w j acc v wr) (n : Nat) : TxI B b s w j acc v (wr.drewN n) :=
  ⟨h.rd, h.own, only_drewN h.only n, h.len⟩
theorem own_ne {B b g : Nat} {w wr : World} {t : TypeId} {k : Nat} {v : Value} {n : Nat} {xs : List Value} (h : wr.ownsRow b t k v n xs) (hB : B < b) : v.ownBlock ≠ some B := fun e => by
  have := (h.lt B e).1; omega
theorem TxI.set' {B b : Nat} {s : ByteArray} {w : World} {j : Nat} {acc : List UInt8} {v : Value} {wr : World} (hrd : Rd wr B s j) (hown : wr.ownsRow b 5 1 v acc.length (Lib.byteCells acc)) (honly : w.grownBy wr (some B)) (hB : B < b) {x : Int} {j' : Nat} (hx : x = (j' : Int)) (hl : acc.length ≤ j') :
    TxI B b s w j' acc v (wr.setCell ⟨B, 1, none⟩ (.int .i64 x)) :=
  ⟨Rd.set' hrd hx, hown.kept (only_setCell (only_refl wr (some B)) (.inl rfl) _) (.inr (own_ne (g := 0) (w := w) hown hB)), only_setCell honly (.inl rfl) _, hl⟩
theorem TxI.set {B b : Nat} {s : ByteArray} {w : World} {j : Nat} {acc : List UInt8} {v : Value} {wr : World} (h : TxI B b s w j acc v wr) (hB : B < b) {x : Int} {j' : Nat} (hx : x = (j' : Int)) (hl : acc.length ≤ j') :
    TxI B b s w j' acc v (wr.setCell ⟨B, 1, none⟩ (.int .i64 x)) :=
  ⟨Rd.set' h.rd hx, h.own.kept (only_setCell (only_refl wr (some B)) (.inl rfl) _) (.inr (own_ne (g := 0) (w := w) h.own hB)), only_setCell h.only (.inl rfl) _, hl⟩
theorem TxI.row {B b : Nat} {s : ByteArray} {w : World} {j : Nat} {acc : List UInt8} {v : Value} {wr : World} (h : TxI B b s w j acc v wr) :
    (v = .slice none 0 0 ∧ acc = []) ∨ ∃ g c, v = .slice (some ⟨g, 0, none⟩) acc.length c ∧ acc.length ≤ c ∧ g < wr.heap.size ∧ Lib.Bytes wr g 0 ⟨acc.toArray⟩ := by
  have h2 := h.own
  rcases h.own.2 with ⟨rfl, hn⟩ | ⟨g, cap, cur, rfl, hb, hh, hnc, _, _, _⟩
  · exact .inl ⟨rfl, List.eq_nil_of_length_eq_zero hn⟩
  · refine .inr ⟨g, cap, rfl, hnc, (Array.getElem?_eq_some_iff.1 hh).1, fun i hi => ?_⟩
    have hi' : i < acc.length := hi
    have := h2.cells (g := g) rfl i (.int .u8 (acc[i].toNat : Int)) (by unfold Lib.byteCells; simp [hi'])
    have e : (⟨acc.toArray⟩ : ByteArray)[i] = acc[i] := rfl
    rw [e]
    simpa [Addr.add_lit] using this
/-- Behind an append. -/
theorem TxI.more {B b : Nat} {s : ByteArray} {w : World} {j j' : Nat} {acc acc' : List UInt8} {v v' : Value} {wr wa w1 : World} (hrd : Rd wr B s j) (hown : wr.ownsRow b 5 1 v acc.length (Lib.byteCells acc)) (honly : w.grownBy wr (some B)) (hb : Below wr.heap.size wr wa)
    (hg : wa.grownBy w1 v.ownBlock) (ho : w1.ownsRow b 5 1 v' (acc ++ acc').length (Lib.byteCells (acc ++ acc'))) (hB : B < b) (hw : w.heap.size ≤ b) : Rd w1 B s j ∧ w1.ownsRow b 5 1 v' (acc ++ acc').length (Lib.byteCells (acc ++ acc')) ∧ w.grownBy w1 (some B) := by
  have hne := own_ne (g := 0) (w := w) hown hB
  refine ⟨(hg.block B (Nat.lt_of_lt_of_le hrd.lt hb.size) (fun e => hne e.symm)).trans ((hb.block B hrd.lt).trans hrd), ho, ?_⟩
  have h1 := only_trans honly (only_of_below hb (some B))
  refine ⟨hg.os.trans h1.os, hg.tape.trans h1.tape, hg.output.trans h1.output, Nat.le_trans h1.size hg.size, fun i hi hn => (hg.block i (Nat.lt_of_lt_of_le hi h1.size) (fun e => ?_)).trans (h1.block i hi hn)⟩
  have := (hown.lt i e.symm).1
  omega
set_option maxRecDepth 100000 in
theorem validN_any {n₀ : Nat} (w : World) (_hE : Env n₀ w) : Calls Tryz.prog 130 #[.slice none 0 0] w fun e w' => e = .returned (.bool true) ∧ Below w.heap.size w w' := by
  go_enter Tryz.func130, Tryz.ntmps130
  go_wp2
  go_rounds 1
  go_ret
  exact ⟨rfl, Below.refl _ _⟩

set_option maxRecDepth 100000 in
set_option maxHeartbeats 8000000 in
theorem text_any {n₀ : Nat} (B : Nat) (s : ByteArray) (i : Nat) (w : World) (hi : i < s.size) (hq : s[i] ≠ 92) (hs : s.size ≤ 1048576) (hR : Rd w B s i) (hE : Env n₀ w) (hB : n₀ ≤ B) :
    Calls Tryz.prog 113 #[.pointer (some ⟨B, 0, none⟩)] w (TextQ B s ((textL s[i] (s.data.toList.drop (i + 1))).map fun p => (p.1, i + 1 + p.2)) w) := by
  have hBl := hR.lt
  obtain ⟨i0, hinf, hz0, hz1, hz2⟩ := info_parts info_u8
  obtain ⟨b, hb⟩ : ∃ b, w.heap.size = b := ⟨_, rfl⟩
  have r0 := hR.s
  have r1 := hR.at_
  obtain ⟨ANS, hA⟩ : ∃ A, (textL s[i] (s.data.toList.drop (i + 1))).map (fun p => (p.1, i + 1 + p.2)) = A := ⟨_, rfl⟩
  rw [hA]
  have HA := Lib.hid hA
  have HB := Lib.hid hb
  rw [hb] at hBl
  have hbw : w.heap.size ≤ b := by omega
  have f1 := hR.fr 1
  have HR := Lib.hid hR
  have HQ92 := Lib.hid hq
  have HE := Lib.hid hE
  have H1 : ∀ n, Hid (TxI B b s w (i + 1) [] (.slice none 0 0) ((w.drewN n).setCell ⟨B, 1, none⟩ (.int .i64 ((i : Int) + 1)))) := fun n =>
    Lib.hid ⟨Rd.set' (HR.out.drew n) (by omega), ⟨rfl, .inl ⟨rfl, rfl⟩⟩, only_setCell (only_drewN (only_refl w _) n) (.inl rfl) _, by simp⟩
  clear hA hR hq hE
  go_enter Tryz.func113, Tryz.ntmps113
  go_wp2_with fail
  go_quiet (fail)
  have H2 := H1 nq
  have HV : Hid (Rd (w.drewN nq) B s i) := Lib.hid (HR.out.drew nq)
  clear H1 HR r0 r1 f1
  generalize World.drewN w nq = V at *
  generalize s[i] = q at *
  have r1 := HV.out.at_
  have f1 := HV.out.fr 1
  go_wp2_with fail
  generalize V.setCell ⟨B, 1, none⟩ (.int .i64 ((i : Int) + 1)) = V2 at *
  clear r1 f1 HV
  go_loopg [4] (s.size - (i + 1)) (fun gk v wr => ∃ (j : Nat) (acc : List UInt8), gk = s.size - j ∧ j ≤ s.size ∧ TxI B b s w j acc v wr ∧ (textL q (s.data.toList.drop j)).map (fun p => (acc ++ p.1, j + p.2)) = ANS)
  case atStart => exact ⟨i + 1, [], rfl, by omega, H2.out, HA.out⟩
  case round =>
    obtain ⟨j, acc, rfl, hj, hI, hA1⟩ := hrel
    have HI := Lib.hid hI
    have HA1 := Lib.hid hA1
    have hal := hI.len
    clear hI hA1 H2 HA
    have r0 := HI.out.rd.s
    have r1 := HI.out.rd.at_
    have HI1 : ∀ n, Hid (TxI B b s w j acc u4 (wr.drewN n)) := fun n => Lib.hid (HI.out.drew n)
    by_cases hlt : j < s.size
    · go_wp2_with fail
      go_quiet (fail)
      have HI2 := HI1 nq
      clear HI HI1 r0 r1
      generalize World.drewN wr nq = V3 at *
      have r0 := HI2.out.rd.s
      have r1 := HI2.out.rd.at_
      have HI3 : ∀ n, Hid (TxI B b s w j acc u4 (V3.drewN n)) := fun n => Lib.hid (HI2.out.drew n)
      go_wp2_with fail
      go_quiet (fail)
      have HI4 := HI3 nq
      clear HI2 HI3 r0 r1
      generalize World.drewN V3 nq = V4 at *
      have hd := drop_at hlt
      rw [hd] at HA1
      clear hd
      generalize s[j] = c at *
      by_cases hcq : c = q
      · subst hcq
        have t0 : ((c.toNat : Int) == (c.toNat : Int)) = true := by simp
        have hA2 : ANS = some (acc, j + 1) := by
          have := HA1.out
          unfold textL at this
          rw [if_pos rfl] at this
          simpa using this.symm
        have HA2 := Lib.hid hA2
        clear hA2 HA1
        have r1 := HI4.out.rd.at_
        have f1 := HI4.out.rd.fr 1
        have HI5 : Hid (TxI B b s w (j + 1) acc u4 (V4.setCell ⟨B, 1, none⟩ (.int .i64 ((j : Int) + 1)))) := Lib.hid (HI4.out.set hBl (by omega) (by omega))
        have HE5 : Hid (Env n₀ (V4.setCell ⟨B, 1, none⟩ (.int .i64 ((j : Int) + 1)))) := Lib.hid (HE.out.only HI5.out.only hB)
        go_wp2_with fail
        generalize V4.setCell ⟨B, 1, none⟩ (.int .i64 ((j : Int) + 1)) = V5 at *
        clear r1 f1 HI4 t0
        rcases HI5.out.row with ⟨hv, ha⟩ | ⟨g, cp, hv, hcp, hgl, hrow⟩
        · subst hv; subst ha
          have hcv : ∀ W, (convert 43 9 (.slice none 0 0)).run Tryz.prog W = .ok (.string ⟨#[]⟩) W := fun _ => by kernel_rfl
          have HJ : Hid (RdW B s (j + 1) w V5) := Lib.hid ⟨HI5.out.rd, HI5.out.only⟩
          clear HI5
          go_region_with (go_at_call 130; refine (validN_any (n₀ := n₀) _ ?henv).mono ?_; (case henv => exact HE5.out.next (Below.refl _ _).drew); rintro e w' ⟨rfl, hbx⟩)
          all_goals
            have hS : RdW B s (j + 1) w w' := keepR' (keepR' HJ.out (Below.refl _ _).drew) hbx
            go_wp2_with fail
            go_ret2
            refine ⟨hS.2, ?_⟩
            rw [HA2.out]
            exact ⟨rfl, hS.1⟩
        · subst hv
          have HJ : Hid (RdW B s (j + 1) w V5) := Lib.hid ⟨HI5.out.rd, HI5.out.only⟩
          have HROW := Lib.hid hrow
          have hcv : ∀ W, Lib.Bytes W g 0 ⟨acc.toArray⟩ → (convert 43 9 (.slice (some ⟨g, 0, none⟩) acc.length cp)).run Tryz.prog W = .ok (.string ⟨acc.toArray⟩) W := fun W h =>
            Lib.run_convert_whole W 43 5 9 Tryz.underlying43 Tryz.underlying5 Tryz.underlying9 g 0 ⟨acc.toArray⟩ h cp
          have HCV := Lib.hid hcv
          have hcv1 := hcv V5.drew (hrow.drewN 1)
          clear HI5 hrow hcv
          go_region_with (go_at_call 130; refine (validB_any (n₀ := n₀) g 0 cp ⟨acc.toArray⟩ _ ?hsz ?hcp ?hbb ?hgg ?henv).mono ?_; (case henv => exact HE5.out.next (Below.refl _ _).drew); (case hsz => show acc.length ≤ _; omega); (case hcp => exact hcp); (case hbb => exact HROW.out.drewN 1); (case hgg => exact hgl); rintro e w' ⟨rfl, hbx⟩; have hcv2 := HCV.out w' (bytes_keep (HROW.out.drewN 1) hbx hgl))
          all_goals
            have hS : RdW B s (j + 1) w w' := keepR' (keepR' HJ.out (Below.refl _ _).drew) hbx
            go_wp2_with fail
            go_ret2
            refine ⟨hS.2, ?_⟩
            rw [HA2.out]
            exact ⟨rfl, hS.1⟩
      · have t0 : ((c.toNat : Int) == (q.toNat : Int)) = false := by
          have : c.toNat ≠ q.toNat := fun e => hcq (UInt8.toNat_inj.1 e)
          simp; omega
        by_cases hc92 : c = 92
        · have t1 : ((c.toNat : Int) == 92) = true := by rw [hc92]; rfl
          have hE4 : Env n₀ V4 := HE.out.only HI4.out.only hB
          have hC := esc_any B s j V4 hlt hs HI4.out.rd hE4 hB
          have hA1 := HA1.out
          rw [hc92, textL_back q HQ92.out] at hA1
          have hpl : ∀ p, escP (s.data.toList.drop (j + 1)) = some p → 1 ≤ p.1.length ∧ p.1.length ≤ p.2 ∧ p.2 + (j + 1) ≤ s.size := fun p hp => by
            have := escP_len hp
            rw [List.length_drop, sz] at this
            omega
          cases ho : escP (s.data.toList.drop (j + 1)) with
          | none =>
            rw [ho] at hC hA1
            have HC := Lib.hid hC
            have HA2 : Hid (ANS = none) := Lib.hid hA1.symm
            clear hC hA1 ho hE4 HA1 hc92 hpl
            go_wp2_with fail
            refine HC.out.mono ?_
            rintro e w1 ⟨hg1, v1, rfl⟩
            have HS : Hid (w.grownBy w1 (some B)) := Lib.hid (only_trans HI4.out.only hg1)
            clear hg1 HC
            go_wp2_with fail
            go_ret2
            refine ⟨HS.out, ?_⟩
            rw [HA2.out]
            rfl
          | some p =>
            rw [ho] at hC hA1
            obtain ⟨hp1, hp2, hp3⟩ := hpl p ho
            obtain ⟨bs, k⟩ := p
            simp only at hp1 hp2 hp3 hA1
            have hA2 : (textL q (s.data.toList.drop (j + k + 1))).map (fun p => (acc ++ bs ++ p.1, j + k + 1 + p.2)) = ANS := by
              rw [← hA1, Option.map_map, List.drop_drop, show j + 1 + k = j + k + 1 by omega]
              congr 1; funext p
              simp only [Function.comp, List.append_assoc]
              congr 1; omega
            have HC := Lib.hid hC
            have HA2 := Lib.hid hA2
            clear hC hA1 hA2 ho hE4 HA1 hc92 hpl
            go_wp2_with fail
            refine HC.out.mono ?_
            rintro e w1 ⟨hg1, v1, rfl, hrd1, ho1⟩
            have ho2 := ho1
            obtain ⟨g1, cp1, rfl, hg1b⟩ : ∃ g cap, v1 = .slice (some ⟨g, 0, none⟩) bs.length cap ∧ V4.heap.size ≤ g := by
              rcases ho1.2 with ⟨_, hn⟩ | ⟨g, cap, cur, hv, hb', _⟩
              · simp only at hn; omega
              · exact ⟨g, cap, hv, hb'⟩
            have hnews : ∀ (i : Nat) (u : Value), (Lib.byteCells bs)[i]? = some u → w1.cell? ((⟨g1, 0, none⟩ : Addr).add i) = some u := fun i u hu => by
              have := ho2.cells (g := g1) rfl i u hu
              simpa [Addr.add_lit] using this
            have HN := Lib.hid hnews
            have HO : Hid (w1.ownsRow b 5 1 u4 acc.length (Lib.byteCells acc)) := Lib.hid (HI4.out.own.kept hg1 (.inr (own_ne (g := 0) (w := w) HI4.out.own hBl)))
            have HG1 : Hid (w.grownBy w1 (some B)) := Lib.hid (only_trans HI4.out.only hg1)
            have HRD : Hid (Rd w1 B s (j + k)) := Lib.hid hrd1
            have C1 : Hid (∀ u ∈ Lib.byteCells bs, u.oneCell' = true) := fun u hu => by
              unfold Lib.byteCells at hu
              obtain ⟨x, _, rfl⟩ := List.mem_map.1 hu
              rfl
            have C2 : Hid ((Lib.byteCells bs).length = bs.length * 1) := by unfold Hid Lib.byteCells; simp
            have C3 : Hid (acc.length + bs.length ≤ maxLen) := by unfold Hid maxLen; omega
            have C4 : Hid ((acc.length + bs.length) * 1 ≤ 140737488355328) := by unfold Hid; omega
            have C5 : Hid (b ≤ w1.heap.size) := by unfold Hid; have := HG1.out.size; omega
            clear hg1 hrd1 ho1 ho2 hnews HC HI4 t0 t1
            go_wp2_with (at_builtin; refine wpList_append_own _ rfl _ _ 43 rfl b 5 i0 (.int .u8 0) 1 1 Tryz.underlying43 hinf hz0 hz1 hz2 rfl (by decide) _ _ _ rfl HO.out ⟨g1, 0, none⟩ bs.length cp1 (Lib.byteCells bs) rfl C2.out HN.out C1.out C3.out C4.out C5.out ?_; intro v' w2 hown' hgrow _; obtain ⟨k1, k2, k3⟩ := TxI.more (j' := j) (acc' := bs) HRD.out HO.out HG1.out (Below.refl _ _) hgrow (by simpa [Lib.byteCells] using hown') hBl hbw; have K1 := Lib.hid k1; have K2 := Lib.hid k2; have K3 := Lib.hid k3; have r1 := k1.at_; have f1 := k1.fr 1; clear k1 k2 k3 hown' hgrow)
            have HN2 : Hid (TxI B b s w (j + k + 1) (acc ++ bs) v' (w2.setCell ⟨B, 1, none⟩ (.int .i64 ((j : Int) + (k : Int) + 1)))) :=
              Lib.hid (TxI.set' K1.out K2.out K3.out hBl (by omega) (by rw [List.length_append]; omega))
            go_roundg (s.size - (j + k + 1))
            case measure => omega
            case rel => exact ⟨j + k + 1, acc ++ bs, rfl, by omega, HN2.out, HA2.out⟩
        · have t1 : ((c.toNat : Int) == 92) = false := by
            have : c.toNat ≠ 92 := fun e => hc92 (UInt8.toNat_inj.1 e)
            simp; omega
          have hA2 : (textL q (s.data.toList.drop (j + 1))).map (fun p => (acc ++ [c] ++ p.1, j + 1 + p.2)) = ANS := by
            rw [← HA1.out]
            conv => rhs; unfold textL
            rw [if_neg hcq, if_neg hc92, Option.map_map]
            congr 1; funext p
            simp only [Function.comp, List.append_assoc, List.cons_append, List.nil_append]
            congr 1; omega
          have HA2 := Lib.hid hA2
          clear hA2 HA1
          have C3 : Hid (acc.length + 1 ≤ maxLen) := by unfold Hid maxLen; omega
          have C4 : Hid ((acc.length + 1) * 1 ≤ 140737488355328) := by unfold Hid; omega
          have C5 : Hid (b ≤ (V4.alloc (.cells #[.int .u8 c.toNat] 5)).heap.size) := by unfold Hid; have := HI4.out.only.size; simp; omega
          have HO := Lib.hid HI4.out.own
          go_wp2_with (at_builtin; refine wpList_append_own _ rfl _ _ 43 rfl b 5 i0 (.int .u8 0) 1 1 Tryz.underlying43 hinf hz0 hz1 hz2 rfl (by decide) _ _ _ rfl (HO.out.alloc _) ⟨V4.heap.size, 0, none⟩ 1 1 [.int .u8 c.toNat] rfl rfl (one_new _ _ _) one_int C3.out C4.out C5.out ?_; intro v' w2 hown' hgrow _; obtain ⟨k1, k2, k3⟩ := TxI.more (j' := j) (acc' := [c]) HI4.out.rd HI4.out.own HI4.out.only (ballocR V4 _) hgrow (by simpa [Lib.byteCells] using hown') hBl hbw; have K1 := Lib.hid k1; have K2 := Lib.hid k2; have K3 := Lib.hid k3; have r1 := k1.at_; have f1 := k1.fr 1; clear k1 k2 k3 hown' hgrow)
          have HN : Hid (TxI B b s w (j + 1) (acc ++ [c]) v' (w2.setCell ⟨B, 1, none⟩ (.int .i64 ((j : Int) + 1)))) :=
            Lib.hid (TxI.set' K1.out K2.out K3.out hBl (by omega) (by simp; omega))
          go_roundg (s.size - (j + 1))
          case measure => omega
          case rel => exact ⟨j + 1, acc ++ [c], rfl, by omega, HN.out, HA2.out⟩
    · have hje : j = s.size := by omega
      have hA2 : ANS = none := by
        have := HA1.out
        rw [List.drop_of_length_le (by rw [sz]; omega)] at this
        exact this.symm
      have HA2 := Lib.hid hA2
      clear hA2 HA1 hje
      have hd : decide (j < s.size) = false := by simp; omega
      go_wp2_with fail
      go_quiet (fail)
      go_wp2_with fail
      go_ret2
      refine ⟨(HI1 nq).out.only, ?_⟩
      rw [HA2.out]
      rfl
end Go.Proofs.YtimhhacfjgbomaaGreatDoor
