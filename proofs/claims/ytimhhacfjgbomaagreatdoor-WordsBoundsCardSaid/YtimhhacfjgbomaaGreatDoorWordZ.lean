/-
  FOR THE WALK of the reader's word: signs of two bytes.
  THE WALK of the reader's word: a sign. (Printed by gen_word.py.)
  THE WALK of the reader's word, whatever begins.
-/
import Derived.Test.YtimhhacfjgbomaaGreatDoorWordB
import Derived.Laws.Panics
import Derived.Deep.RegionHeld3
import Derived.Test.YtimhhacfjgbomaaGreatDoorWords04
import Derived.Test.YtimhhacfjgbomaaGreatDoorWord2
namespace Go.Proofs.YtimhhacfjgbomaaGreatDoor
set_option linter.unusedSimpArgs false
set_option linter.unusedVariables false
open Go.RowKit Go.Shelf

theorem keepW {B b : Nat} {s : ByteArray} {i : Nat} {w : World} {j : Nat} {k n : Int} {t : ByteArray} {V V' : World} (h : WoI B b s i w j k t n V ∧ V.cell? ⟨B, 0, none⟩ = some (.string s) ∧ V.cell? ⟨B, 1, none⟩ = some (.int .i64 j)) (hb : Below V.heap.size V V') :
    WoI B b s i w j k t n V' ∧ V'.cell? ⟨B, 0, none⟩ = some (.string s) ∧ V'.cell? ⟨B, 1, none⟩ = some (.int .i64 j) := ⟨h.1.next hb, (h.1.next hb).rd.s, (h.1.next hb).rd.at_⟩
theorem two_short {u : List UInt8} (h : u.length < 2) : two u = false := by
  match u, h with
  | [], _ => rfl
  | [c], _ => simp [two, List.isPrefixOf]
  | a :: b :: r, h => simp at h; omega
theorem two_two (a b : UInt8) (r : List UInt8) : two (a :: b :: r) = ([[60, 62], [60, 61], [62, 61]] : List (List UInt8)).contains [a, b] := by
  unfold two
  simp only [List.isPrefixOf, List.contains_cons, List.contains_nil, Bool.or_false, Bool.and_true]
  have e : ∀ (x y : UInt8), ([a, b] == [x, y]) = (x == a && y == b) := fun x y => by
    show (a == x && (b == y && true)) = _
    rw [Bool.and_true, BEq.comm (a := a), BEq.comm (a := b)]
  rw [e, e, e]
  cases (60 == a && 62 == b) <;> cases (60 == a && 61 == b) <;> cases (62 == a && 61 == b) <;> rfl
theorem three_new (w : World) (x y z : Value) (t : TypeId) : ∀ (j : Nat) (e : Value), [x, y, z][j]? = some e → (w.alloc (.cells #[x, y, z] t)).cell? ⟨w.heap.size, 0 + j, none⟩ = some e := by
  have hb := new_at w (.cells #[x, y, z] t)
  intro j e h
  match j, h with
  | 0, h => cases h; rw [show 0 + 0 = 0 from rfl, Lib.cell_of_heap hb]; rfl
  | 1, h => cases h; rw [show 0 + 1 = 1 from rfl, Lib.cell_of_heap hb]; rfl
  | 2, h => cases h; rw [show 0 + 2 = 2 from rfl, Lib.cell_of_heap hb]; rfl
  | j + 3, h => simp at h
theorem two_any (s : ByteArray) (i : Nat) (h : i + 1 < s.size) (W : World) :
    Calls Tryz.prog 115 #[.slice (some ⟨W.heap.size, 0, none⟩) 3 3, .string (s.extract i (i + 2))] (W.alloc (.cells #[.string ⟨#[60, 62]⟩, .string ⟨#[60, 61]⟩, .string ⟨#[62, 61]⟩] 9)).drew fun e w' =>
      e = .returned (.bool (two (s.data.toList.drop i))) ∧ w' = (W.alloc (.cells #[.string ⟨#[60, 62]⟩, .string ⟨#[60, 61]⟩, .string ⟨#[62, 61]⟩] 9)).drew := by
  have hd := drop_at (show i < s.size by omega)
  have hd2 := drop_at h
  have he : (s.extract i (i + 2)).data.toList = [s[i], s[i + 1]] := by rw [extract_take, hd, hd2, show i + 2 - i = 2 by omega]; rfl
  refine (Tryz.slices_Contains_string W.heap.size 0 3 3 [⟨#[60, 62]⟩, ⟨#[60, 61]⟩, ⟨#[62, 61]⟩] (s.extract i (i + 2)) (W.alloc (.cells #[.string ⟨#[60, 62]⟩, .string ⟨#[60, 61]⟩, .string ⟨#[62, 61]⟩] 9)).drew (by decide) (by decide) (fun j hj => three_new W _ _ _ 9 j _ ?_)).mono fun e w' hh => ⟨?_, hh.2⟩
  · have hj' : j < 3 := hj
    match j, hj' with
    | 0, _ => rfl
    | 1, _ => rfl
    | 2, _ => rfl
  · rw [hh.1, hd, hd2, two_two]
    congr 2
    have e : ∀ (x y : UInt8), s.extract i (i + 2) = ⟨#[x, y]⟩ ↔ [s[i], s[i + 1]] = [x, y] := fun x y => by
      rw [← he]
      exact ⟨fun h => by rw [h], fun h => ba_ext h⟩
    rw [Bool.eq_iff_iff, Lib.containsS_iff, List.contains_iff_mem]
    simp only [List.take_succ_cons, List.take_zero, List.mem_cons, List.not_mem_nil, or_false, e]
/-- What holds while the sign is laid. -/
def SX (B b : Nat) (s : ByteArray) (i : Nat) (w : World) (J : Nat) (V : World) : Prop := (∃ k t, WoI B b s i w J k t 0 V) ∧ V.cell? ⟨B, 0, none⟩ = some (.string s) ∧ V.cell? ⟨B, 1, none⟩ = some (.int .i64 J) ∧ V.cell? ⟨b + 1, 1, none⟩ = some (.int .i64 i)
theorem SX.of {B b : Nat} {s : ByteArray} {i : Nat} {w : World} {J : Nat} {V : World} (h : ∃ k t, WoI B b s i w J k t 0 V) : SX B b s i w J V := by
  obtain ⟨k, t, h⟩ := h
  exact ⟨⟨k, t, h⟩, h.rd.s, h.rd.at_, h.loc.cells.2.1⟩
theorem keepX0 {B b : Nat} {s : ByteArray} {i : Nat} {w : World} {J : Nat} {V : World} (hB : B < b) (h : SX B b s i w J V) (x : Int) : SX B b s i w J (V.setCell ⟨b + 1, 0, none⟩ (.int .i64 x)).drew := by
  obtain ⟨⟨k, t, h⟩, _⟩ := h
  exact SX.of ⟨_, _, (h.set0 hB x).drew 1⟩
theorem keepX2 {B b : Nat} {s : ByteArray} {i : Nat} {w : World} {J : Nat} {V : World} (hB : B < b) (h : SX B b s i w J V) (x : ByteArray) : SX B b s i w J (V.setCell ⟨b + 1, 2, none⟩ (.string x)).drew := by
  obtain ⟨⟨k, t, h⟩, _⟩ := h
  exact SX.of ⟨_, _, (h.set2 hB x).drew 1⟩
theorem keepX0' {B b : Nat} {s : ByteArray} {i : Nat} {w : World} {J : Nat} {V : World} (hB : B < b) (h : SX B b s i w J V) (x : Int) : SX B b s i w J (V.setCell ⟨b + 1, 0, none⟩ (.int .i64 x)) := by
  obtain ⟨⟨k, t, h⟩, _⟩ := h
  exact SX.of ⟨_, _, h.set0 hB x⟩
theorem keepX2' {B b : Nat} {s : ByteArray} {i : Nat} {w : World} {J : Nat} {V : World} (hB : B < b) (h : SX B b s i w J V) (x : ByteArray) : SX B b s i w J (V.setCell ⟨b + 1, 2, none⟩ (.string x)) := by
  obtain ⟨⟨k, t, h⟩, _⟩ := h
  exact SX.of ⟨_, _, h.set2 hB x⟩
theorem keepXd {B b : Nat} {s : ByteArray} {i : Nat} {w : World} {J : Nat} {V : World} (h : SX B b s i w J V) : SX B b s i w J V.drew := by
  obtain ⟨⟨k, t, h⟩, _⟩ := h
  exact SX.of ⟨_, _, h.drew 1⟩
end Go.Proofs.YtimhhacfjgbomaaGreatDoor
namespace Go.Proofs.YtimhhacfjgbomaaGreatDoor
set_option linter.unusedSimpArgs false
set_option linter.unusedVariables false
open Go.RowKit Go.Shelf

set_option maxRecDepth 100000 in
set_option maxHeartbeats 8000000 in
theorem word_sign {n₀ : Nat} (B : Nat) (s : ByteArray) (i : Nat) (w : World) (hi : i < s.size) (hs : s.size ≤ 1048576) (hR : Rd w B s i) (hE : Env n₀ w) (hB : n₀ ≤ B) (hk : cls s[i].toNat = 5) :
    Calls Tryz.prog 97 #[.pointer (some ⟨B, 0, none⟩)] w (WordQ B s i (word1 (s.data.toList.drop i)) w) := by
  have hBl := hR.lt
  obtain ⟨b, hb⟩ : ∃ b, w.heap.size = b := ⟨_, rfl⟩
  have hI := WoI.start hR hb
  have r0 := hR.s
  have r1 := hR.at_
  have hd := drop_at hi
  obtain ⟨ANS, hA⟩ : ∃ A, word1 (s.data.toList.drop i) = A := ⟨_, rfl⟩
  rw [hA]
  have hC := class_any s[i]
  rw [hb] at hBl
  rw [hk] at hC
  have hA2 : ANS = if two (s.data.toList.drop i) then some (⟨5, (s.data.toList.drop i).take 2, 0⟩, 2) else some (⟨5, (s.data.toList.drop i).take 1, 0⟩, 1) := by
    rw [← hA, hd, w1_sign hk]
  have HA := Lib.hid hA2
  have HI := Lib.hid hI
  have HE := Lib.hid hE
  have HC := Lib.hid hC
  clear hA hA2 hC hd hI hR hE hk
  go_enter Tryz.func97, Tryz.ntmps97
  go_wp2_with fail
  generalize (w.alloc (.cells #[.int .i64 0, .int .i64 0, .string ⟨#[]⟩, .int .u64 0] 33)).alloc (.cells #[.int .i64 0, .int .i64 i, .string ⟨#[]⟩, .int .u64 0] 33) = V at *
  clear r0 r1
  have r0 := HI.out.rd.s
  have r1 := HI.out.rd.at_
  have HI1 : ∀ n, Hid (WoI B b s i w i 0 ⟨#[]⟩ 0 (V.drewN n)) := fun n => Lib.hid (HI.out.drew n)
  go_quiet ((go_at_call 69; exact Calls.quiet_of_same ((HC.out _).mono fun _ _ h => ⟨h.1, h.2.symm⟩)))
  have HI2 := HI1 nq
  clear HI HI1 r0 r1 HC
  generalize World.drewN V nq = V1 at *
  have r0 := HI2.out.rd.s
  have r1 := HI2.out.rd.at_
  have hw1 : IntKind.i64.wrap ((i : Int) + 1) = (i : Int) + 1 := by rw [IntWalk.i64_left]; unfold wrap64; omega
  have hw2 : IntKind.i64.wrap ((i : Int) + 2) = (i : Int) + 2 := by rw [IntWalk.i64_left]; unfold wrap64; omega
  by_cases hlt : i + 1 < s.size
  · have hcn : ∀ (W : World), Calls Tryz.prog 115 #[.slice (some ⟨W.heap.size, 0, none⟩) 3 3, .string (s.extract i (i + 2))] (W.alloc (.cells #[.string ⟨#[60, 62]⟩, .string ⟨#[60, 61]⟩, .string ⟨#[62, 61]⟩] 9)).drew fun e w' => e = .returned (.bool (two (s.data.toList.drop i))) ∧ w' = (W.alloc (.cells #[.string ⟨#[60, 62]⟩, .string ⟨#[60, 61]⟩, .string ⟨#[62, 61]⟩] 9)).drew := fun W =>
      (two_any s i hlt W)
    have HCN := Lib.hid hcn
    have hltz : (i : Int) + 1 < s.size := by omega
    clear hcn
    cases h2 : two (s.data.toList.drop i) with
    | true =>
      rw [h2] at HCN HA
      have HA3 : Hid (ANS = some (⟨5, (s.data.toList.drop i).take 2, 0⟩, 2)) := HA
      clear h2 HA
      have hS0 : WoI B b s i w i 0 ⟨#[]⟩ 0 V1 ∧ V1.cell? ⟨B, 0, none⟩ = some (.string s) ∧ V1.cell? ⟨B, 1, none⟩ = some (.int .i64 i) := ⟨HI2.out, r0, r1⟩
      have k0 : 0 ≤ (i : Int) := by omega
      have k1 : 0 ≤ (i : Int) + 2 := by omega
      have k2 : ((i : Int) + 2).toNat = i + 2 := by omega
      have k3 : (i : Int) ≤ (i : Int) + 2 := by omega
      have k4 : (i : Int) + 2 ≤ s.size := by omega
      clear r0 r1 HI2
      go_wp2_with fail
      go_region_held3 (fun w' => WoI B b s i w i 0 ⟨#[]⟩ 0 w' ∧ w'.cell? ⟨B, 0, none⟩ = some (.string s) ∧ w'.cell? ⟨B, 1, none⟩ = some (.int .i64 i)) (first | assumption | exact keepW (by assumption) (ballocR _ _) | exact keepW (by assumption) (Below.refl _ _).drew) (first | (go_at_call 115; refine (HCN.out _).mono ?_; rintro e w' ⟨rfl, rfl⟩))
      have HI3 : Hid (WoI B b s i w i 0 ⟨#[]⟩ 0 ((V1.alloc (.cells #[.string ⟨#[60, 62]⟩, .string ⟨#[60, 61]⟩, .string ⟨#[62, 61]⟩] 9)).drew)) := Lib.hid (And.left (by assumption))
      generalize World.drew (V1.alloc (.cells #[.string ⟨#[60, 62]⟩, .string ⟨#[60, 61]⟩, .string ⟨#[62, 61]⟩] 9)) = V3 at *
      have r0 := HI3.out.rd.s
      have r1 := HI3.out.rd.at_
      have f1 := HI3.out.rd.fr 1
      obtain ⟨J, hJ⟩ : ∃ J, i + 2 = J := ⟨_, rfl⟩
      have HJ := Lib.hid (HI3.out.setAt hBl (x := (i : Int) + 2) (j' := J) (by omega))
      have HJE := Lib.hid hJ
      have hJs : (J : Int) ≤ s.size := by omega
      have hiJ : (i : Int) ≤ J := by omega
      have hi0 : (0 : Int) ≤ i := by omega
      clear HI3 hJ
      go_wp2_with fail
      generalize World.setCell _ ⟨B, 1, none⟩ (.int .i64 ((i : Int) + 2)) = V4 at *
      clear r0 r1 f1
      have c0 := HJ.out.loc.cells.1
      have c2 := HJ.out.loc.cells.2.2.1
      have f0 := HJ.out.loc.fr 0
      have f2 := HJ.out.loc.fr 2
      have hS0 : (∃ k t, WoI B b s i w J k t 0 V4) ∧ V4.cell? ⟨B, 0, none⟩ = some (.string s) ∧ V4.cell? ⟨B, 1, none⟩ = some (.int .i64 J) ∧ V4.cell? ⟨b + 1, 1, none⟩ = some (.int .i64 i) := SX.of ⟨_, _, HJ.out⟩
      go_region_held3 (fun w' => (∃ k t, WoI B b s i w J k t 0 w') ∧ w'.cell? ⟨B, 0, none⟩ = some (.string s) ∧ w'.cell? ⟨B, 1, none⟩ = some (.int .i64 J) ∧ w'.cell? ⟨b + 1, 1, none⟩ = some (.int .i64 i)) (first | assumption | exact keepX0 hBl (by assumption) _ | exact keepX2 hBl (by assumption) _ | exact keepX0' hBl (by assumption) _ | exact keepX2' hBl (by assumption) _ | exact keepXd (by assumption)) (fail)
      have HI5 := Lib.hid (((HJ.out.set0 hBl 5).set2 hBl (s.extract i J)).drew 1)
      have HTE : Hid (s.extract i J = ⟨((s.data.toList.drop i).take 2).toArray⟩) := Lib.hid (ba_ext (by rw [extract_take, ← HJE.out, Nat.add_sub_cancel_left]))
      clear hS0 c0 c2 f0 f2 HJ
      generalize s.extract i J = T at *
      change Hid (WoI B b s i w J 5 T 0 ((V4.setCell ⟨b + 1, 0, none⟩ (.int .i64 5)).setCell ⟨b + 1, 2, none⟩ (.string T)).drew) at HI5
      generalize World.drew ((V4.setCell ⟨b + 1, 0, none⟩ (.int .i64 5)).setCell ⟨b + 1, 2, none⟩ (.string T)) = V6 at *
      obtain ⟨c0, c1, c2, c3⟩ := HI5.out.loc.cells
      obtain ⟨q0, q1, q2, q3⟩ := HI5.out.res.cells
      have f0 := HI5.out.loc.fr 0
      have g0 := HI5.out.res.fr 0
      have f1 := HI5.out.loc.fr 1
      have g1 := HI5.out.res.fr 1
      have f2 := HI5.out.loc.fr 2
      have g2 := HI5.out.res.fr 2
      have f3 := HI5.out.loc.fr 3
      have g3 := HI5.out.res.fr 3
      go_wp2_with fail
      obtain ⟨V9, e9, s9, rd9, o9⟩ := HI5.out.done hBl
      rw [e9]
      obtain ⟨d0, d1, d2, d3⟩ := s9.cells
      exact bodyPost_ret (v := .agg #[.int .i64 5, .int .i64 i, .string T, .int .u64 0]) (by simp [results, Tryz.results97, go_sem, d0, d1, d2, d3]) rfl ⟨o9, by rw [HA3.out]; exact ⟨by rw [HTE.out]; rfl, by rw [HJE.out]; exact rd9⟩⟩
    | false =>
      rw [h2] at HCN HA
      have HA3 : Hid (ANS = some (⟨5, (s.data.toList.drop i).take 1, 0⟩, 1)) := HA
      clear h2 HA
      have hS0 : WoI B b s i w i 0 ⟨#[]⟩ 0 V1 ∧ V1.cell? ⟨B, 0, none⟩ = some (.string s) ∧ V1.cell? ⟨B, 1, none⟩ = some (.int .i64 i) := ⟨HI2.out, r0, r1⟩
      have k0 : 0 ≤ (i : Int) := by omega
      have k1 : 0 ≤ (i : Int) + 2 := by omega
      have k2 : ((i : Int) + 2).toNat = i + 2 := by omega
      have k3 : (i : Int) ≤ (i : Int) + 2 := by omega
      have k4 : (i : Int) + 2 ≤ s.size := by omega
      clear r0 r1 HI2
      go_wp2_with fail
      go_region_held3 (fun w' => WoI B b s i w i 0 ⟨#[]⟩ 0 w' ∧ w'.cell? ⟨B, 0, none⟩ = some (.string s) ∧ w'.cell? ⟨B, 1, none⟩ = some (.int .i64 i)) (first | assumption | exact keepW (by assumption) (ballocR _ _) | exact keepW (by assumption) (Below.refl _ _).drew) (first | (go_at_call 115; refine (HCN.out _).mono ?_; rintro e w' ⟨rfl, rfl⟩))
      have HI3 : Hid (WoI B b s i w i 0 ⟨#[]⟩ 0 ((V1.alloc (.cells #[.string ⟨#[60, 62]⟩, .string ⟨#[60, 61]⟩, .string ⟨#[62, 61]⟩] 9)).drew)) := Lib.hid (And.left (by assumption))
      generalize World.drew (V1.alloc (.cells #[.string ⟨#[60, 62]⟩, .string ⟨#[60, 61]⟩, .string ⟨#[62, 61]⟩] 9)) = V3 at *
      have r0 := HI3.out.rd.s
      have r1 := HI3.out.rd.at_
      have f1 := HI3.out.rd.fr 1
      obtain ⟨J, hJ⟩ : ∃ J, i + 1 = J := ⟨_, rfl⟩
      have HJ := Lib.hid (HI3.out.setAt hBl (x := (i : Int) + 1) (j' := J) (by omega))
      have HJE := Lib.hid hJ
      have hJs : (J : Int) ≤ s.size := by omega
      have hiJ : (i : Int) ≤ J := by omega
      have hi0 : (0 : Int) ≤ i := by omega
      clear HI3 hJ
      go_wp2_with fail
      generalize World.setCell _ ⟨B, 1, none⟩ (.int .i64 ((i : Int) + 1)) = V4 at *
      clear r0 r1 f1
      have c0 := HJ.out.loc.cells.1
      have c2 := HJ.out.loc.cells.2.2.1
      have f0 := HJ.out.loc.fr 0
      have f2 := HJ.out.loc.fr 2
      have hS0 : (∃ k t, WoI B b s i w J k t 0 V4) ∧ V4.cell? ⟨B, 0, none⟩ = some (.string s) ∧ V4.cell? ⟨B, 1, none⟩ = some (.int .i64 J) ∧ V4.cell? ⟨b + 1, 1, none⟩ = some (.int .i64 i) := SX.of ⟨_, _, HJ.out⟩
      go_region_held3 (fun w' => (∃ k t, WoI B b s i w J k t 0 w') ∧ w'.cell? ⟨B, 0, none⟩ = some (.string s) ∧ w'.cell? ⟨B, 1, none⟩ = some (.int .i64 J) ∧ w'.cell? ⟨b + 1, 1, none⟩ = some (.int .i64 i)) (first | assumption | exact keepX0 hBl (by assumption) _ | exact keepX2 hBl (by assumption) _ | exact keepX0' hBl (by assumption) _ | exact keepX2' hBl (by assumption) _ | exact keepXd (by assumption)) (fail)
      have HI5 := Lib.hid (((HJ.out.set0 hBl 5).set2 hBl (s.extract i J)).drew 1)
      have HTE : Hid (s.extract i J = ⟨((s.data.toList.drop i).take 1).toArray⟩) := Lib.hid (ba_ext (by rw [extract_take, ← HJE.out, Nat.add_sub_cancel_left]))
      clear hS0 c0 c2 f0 f2 HJ
      generalize s.extract i J = T at *
      change Hid (WoI B b s i w J 5 T 0 ((V4.setCell ⟨b + 1, 0, none⟩ (.int .i64 5)).setCell ⟨b + 1, 2, none⟩ (.string T)).drew) at HI5
      generalize World.drew ((V4.setCell ⟨b + 1, 0, none⟩ (.int .i64 5)).setCell ⟨b + 1, 2, none⟩ (.string T)) = V6 at *
      obtain ⟨c0, c1, c2, c3⟩ := HI5.out.loc.cells
      obtain ⟨q0, q1, q2, q3⟩ := HI5.out.res.cells
      have f0 := HI5.out.loc.fr 0
      have g0 := HI5.out.res.fr 0
      have f1 := HI5.out.loc.fr 1
      have g1 := HI5.out.res.fr 1
      have f2 := HI5.out.loc.fr 2
      have g2 := HI5.out.res.fr 2
      have f3 := HI5.out.loc.fr 3
      have g3 := HI5.out.res.fr 3
      go_wp2_with fail
      obtain ⟨V9, e9, s9, rd9, o9⟩ := HI5.out.done hBl
      rw [e9]
      obtain ⟨d0, d1, d2, d3⟩ := s9.cells
      exact bodyPost_ret (v := .agg #[.int .i64 5, .int .i64 i, .string T, .int .u64 0]) (by simp [results, Tryz.results97, go_sem, d0, d1, d2, d3]) rfl ⟨o9, by rw [HA3.out]; exact ⟨by rw [HTE.out]; rfl, by rw [HJE.out]; exact rd9⟩⟩
  · have hz : decide ((i : Int) + 1 < s.size) = false := by simp; omega
    have h2 : two (s.data.toList.drop i) = false := two_short (by rw [List.length_drop, sz]; omega)
    have HA3 : Hid (ANS = some (⟨5, (s.data.toList.drop i).take 1, 0⟩, 1)) := Lib.hid (by rw [HA.out, h2]; rfl)
    have HIq : ∀ n, Hid (WoI B b s i w i 0 ⟨#[]⟩ 0 (V1.drewN n)) := fun n => Lib.hid (HI2.out.drew n)
    clear HA h2
    go_wp2_with fail
    go_quiet (fail)
    have HI3 := HIq nq
    clear HIq HI2 r0 r1
    generalize World.drewN V1 nq = V3 at *
    have r0 := HI3.out.rd.s
    have r1 := HI3.out.rd.at_
    have f1 := HI3.out.rd.fr 1
    obtain ⟨J, hJ⟩ : ∃ J, i + 1 = J := ⟨_, rfl⟩
    have HJ := Lib.hid (HI3.out.setAt hBl (x := (i : Int) + 1) (j' := J) (by omega))
    have HJE := Lib.hid hJ
    have hJs : (J : Int) ≤ s.size := by omega
    have hiJ : (i : Int) ≤ J := by omega
    have hi0 : (0 : Int) ≤ i := by omega
    clear HI3 hJ
    go_wp2_with fail
    generalize World.setCell _ ⟨B, 1, none⟩ (.int .i64 ((i : Int) + 1)) = V4 at *
    clear r0 r1 f1
    have c0 := HJ.out.loc.cells.1
    have c2 := HJ.out.loc.cells.2.2.1
    have f0 := HJ.out.loc.fr 0
    have f2 := HJ.out.loc.fr 2
    have hS0 : (∃ k t, WoI B b s i w J k t 0 V4) ∧ V4.cell? ⟨B, 0, none⟩ = some (.string s) ∧ V4.cell? ⟨B, 1, none⟩ = some (.int .i64 J) ∧ V4.cell? ⟨b + 1, 1, none⟩ = some (.int .i64 i) := SX.of ⟨_, _, HJ.out⟩
    go_region_held3 (fun w' => (∃ k t, WoI B b s i w J k t 0 w') ∧ w'.cell? ⟨B, 0, none⟩ = some (.string s) ∧ w'.cell? ⟨B, 1, none⟩ = some (.int .i64 J) ∧ w'.cell? ⟨b + 1, 1, none⟩ = some (.int .i64 i)) (first | assumption | exact keepX0 hBl (by assumption) _ | exact keepX2 hBl (by assumption) _ | exact keepX0' hBl (by assumption) _ | exact keepX2' hBl (by assumption) _ | exact keepXd (by assumption)) (fail)
    have HI5 := Lib.hid (((HJ.out.set0 hBl 5).set2 hBl (s.extract i J)).drew 1)
    have HTE : Hid (s.extract i J = ⟨((s.data.toList.drop i).take 1).toArray⟩) := Lib.hid (ba_ext (by rw [extract_take, ← HJE.out, Nat.add_sub_cancel_left]))
    clear hS0 c0 c2 f0 f2 HJ
    generalize s.extract i J = T at *
    change Hid (WoI B b s i w J 5 T 0 ((V4.setCell ⟨b + 1, 0, none⟩ (.int .i64 5)).setCell ⟨b + 1, 2, none⟩ (.string T)).drew) at HI5
    generalize World.drew ((V4.setCell ⟨b + 1, 0, none⟩ (.int .i64 5)).setCell ⟨b + 1, 2, none⟩ (.string T)) = V6 at *
    obtain ⟨c0, c1, c2, c3⟩ := HI5.out.loc.cells
    obtain ⟨q0, q1, q2, q3⟩ := HI5.out.res.cells
    have f0 := HI5.out.loc.fr 0
    have g0 := HI5.out.res.fr 0
    have f1 := HI5.out.loc.fr 1
    have g1 := HI5.out.res.fr 1
    have f2 := HI5.out.loc.fr 2
    have g2 := HI5.out.res.fr 2
    have f3 := HI5.out.loc.fr 3
    have g3 := HI5.out.res.fr 3
    go_wp2_with fail
    obtain ⟨V9, e9, s9, rd9, o9⟩ := HI5.out.done hBl
    rw [e9]
    obtain ⟨d0, d1, d2, d3⟩ := s9.cells
    exact bodyPost_ret (v := .agg #[.int .i64 5, .int .i64 i, .string T, .int .u64 0]) (by simp [results, Tryz.results97, go_sem, d0, d1, d2, d3]) rfl ⟨o9, by rw [HA3.out]; exact ⟨by rw [HTE.out]; rfl, by rw [HJE.out]; exact rd9⟩⟩
end Go.Proofs.YtimhhacfjgbomaaGreatDoor
namespace Go.Proofs.YtimhhacfjgbomaaGreatDoor
set_option linter.unusedSimpArgs false
set_option linter.unusedVariables false
open Go.RowKit Go.Shelf

theorem cls_le (c : Nat) : cls c ≤ 5 := by
  unfold cls
  (repeat' split) <;> omega
theorem word_any {n₀ : Nat} (B : Nat) (s : ByteArray) (i : Nat) (w : World) (hi : i < s.size) (hs : s.size ≤ 1048576) (hR : Rd w B s i) (hE : Env n₀ w) (hB : n₀ ≤ B) :
    Calls Tryz.prog 97 #[.pointer (some ⟨B, 0, none⟩)] w (WordQ B s i (word1 (s.data.toList.drop i)) w) := by
  have h := cls_le s[i].toNat
  match hk : cls s[i].toNat, h with
  | 0, _ => exact word_other B s i w hi hs hR hE hB hk
  | 1, _ => exact word_name B s i w hi hs hR hE hB hk
  | 2, _ => exact word_num B s i w hi hs hR hE hB hk
  | 3, _ => exact word_text B s i w hi hs hR hE hB hk
  | 4, _ => exact word_quot B s i w hi hs hR hE hB hk
  | 5, _ => exact word_sign B s i w hi hs hR hE hB hk
end Go.Proofs.YtimhhacfjgbomaaGreatDoor
