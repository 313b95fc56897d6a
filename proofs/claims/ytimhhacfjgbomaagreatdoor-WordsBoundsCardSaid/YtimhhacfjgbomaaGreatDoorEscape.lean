/-
  THE WALK of strconv.ParseUint to the base 16, of four bytes.
  THE WALK of the reader's escape: what stands behind a backslash.
  THE WALK of the reader's escape: what stands behind a backslash.
-/
import Derived.Test.YtimhhacfjgbomaaGreatDoorBase
import Derived.Test.YtimhhacfjgbomaaGreatDoorShelf
import Derived.Lib.ConvBytes
import Derived.Lib.ParseIntBMem
import Derived.Laws.Strings3
import Derived.Laws.Closers25
import Derived.Laws.Closers25b
import Derived.BigCall
import Derived.BigGuard
import Derived.Test.YtimhhacfjgbomaaGreatDoorReader
import Derived.Laws.Rows
import Derived.Handy
import Derived.IntWalk
import Derived.Deep.RegionHeld3
import Derived.Lib.RuneBytes
namespace Go.Proofs.YtimhhacfjgbomaaGreatDoor
set_option linter.unusedSimpArgs false
set_option linter.unusedVariables false
open Go.RowKit Go.Shelf

def hexR (acc : Nat) : List UInt8 → Option Nat
  | [] => some acc
  | c :: r => match hexN c.toNat with
    | some d => hexR (16 * acc + d) r
    | none => none
theorem hexR_four (a b c d : UInt8) : hexR 0 [a, b, c, d] = hex4 a b c d := by
  unfold hex4
  cases h1 : hexN a.toNat <;> cases h2 : hexN b.toNat <;> cases h3 : hexN c.toNat <;> cases h4 : hexN d.toNat <;> simp [hexR, h1, h2, h3, h4]
/-- What the text asks of a byte and of the byte with its bit 32 set. -/
def hexOK (c : UInt8) : Bool :=
  let l := (c ||| 32).toNat
  match hexN c.toNat with
  | some d => decide (d ≤ 15) && ((decide (48 ≤ c.toNat ∧ c.toNat ≤ 57) && decide (d = c.toNat - 48)) || (decide (58 ≤ c.toNat) && decide (c.toNat ≠ 95) && decide (97 ≤ l ∧ l ≤ 102) && decide (d = l - 87)))
  | none => (decide (c.toNat < 48) || decide (58 ≤ c.toNat)) && (decide (l < 97) || decide (103 ≤ l))
theorem hexOK_all (c : UInt8) : hexOK c = true := by
  have := (by decide +kernel : ∀ i : Fin 256, hexOK (UInt8.ofNat i.val) = true) ⟨c.toNat, c.toNat_lt⟩
  simpa using this
theorem lower_bits (c : UInt8) : bits .or .u8 (c.toNat : Int) 32 = ((c ||| 32).toNat : Int) := by
  have := (by decide +kernel : ∀ i : Fin 256, bits .or .u8 ((UInt8.ofNat i.val).toNat : Int) 32 = ((UInt8.ofNat i.val ||| 32).toNat : Int)) ⟨c.toNat, c.toNat_lt⟩
  simpa using this
/-- The number, or (0, ErrSyntax). -/
def hexTuple : Option Nat → Value
  | some n => .tuple #[.int .u64 n, .nilIface]
  | none => .tuple #[.int .u64 0, .iface 160 (.int .i64 2)]
theorem retT {a b : Value} (h : a = b) : Ending.returned a = .returned b := by rw [h]

set_option maxHeartbeats 32000000 in
set_option maxRecDepth 100000 in
theorem ihex_any (t : ByteArray) (hne : 0 < t.size) (hmax : t.size ≤ 7) (w : World) :
    Calls Tryz.prog 128 #[.string t, .int .i64 16, .int .i64 32] w fun e w' => e = .returned (hexTuple (hexR 0 t.data.toList)) ∧ w' = Lib.bytesWorld w 5 t := by
  have hemp : t.toList.isEmpty = false := by
    rw [← decide_eq_emptyBytes]
    exact decide_eq_false (fun h => absurd hne (by rw [h]; decide))
  have hcv := Lib.run_convert_string_bytes (P := Tryz.prog) w 9 43 5 t (u := .string) Tryz.underlying9 Tryz.underlying43 Tryz.underlying5
  have hB : ∀ j, j < t.size → (Lib.bytesWorld w 5 t).cell? ⟨w.heap.size, j, none⟩ = some (.int .u8 (t.data.toList.getD j 0).toNat) := fun j hj => Lib.bytesWorld_cell w 5 t j hj
  obtain ⟨W1, hW1⟩ : ∃ W1, W1 = Lib.bytesWorld w 5 t := ⟨_, rfl⟩
  rw [← hW1] at hcv hB ⊢
  clear hW1
  obtain ⟨bs, hL⟩ : ∃ bs, bs = t.data.toList := ⟨_, rfl⟩
  have hLn : bs.length = t.size := by rw [hL, Lib.size_eq]
  rw [← hL] at hB ⊢
  clear hL
  have hmv : IntKind.u64.wrap (IntKind.u64.wrap 4294967296 - 1) = 4294967295 := by
    rw [IntKind.wrap_u64, IntKind.wrap_u64]
    decide
  go_enter Tryz.func128, Tryz.ntmps128
  go_wp2
  go_loop [12, 13, 101] (fun vu vn vi => ∃ (k acc : Nat) (a : Int), vu = .bool false ∧ vn = .int .u64 a ∧ vi = .int .i64 k ∧ k ≤ t.size ∧ Hid (a = (acc : Int) ∧ acc < 16 ^ k ∧ hexR 0 bs = hexR acc (bs.drop k)))
    (fun _ _ vi => t.size - (RowKit.intOf vi).toNat)
  case atStart => exact ⟨0, 0, 0, rfl, rfl, rfl, by omega, rfl, by decide, rfl⟩
  case round =>
    obtain ⟨k, acc, a, rfl, rfl, rfl, hk, hh⟩ := hrel
    obtain ⟨ha, hacc, hdec⟩ := hh.out
    clear hh
    have hp7 : acc < 16 ^ 7 := Nat.lt_of_lt_of_le hacc (Nat.pow_le_pow_right (by decide) (by omega))
    have a0 : 0 ≤ a := by omega
    have a1 : a ≤ 268435455 := by omega
    by_cases hkn : k < t.size
    · have hc := hB k hkn
      have hdrop : bs.drop k = bs[k]'(by omega) :: bs.drop (k + 1) := List.drop_eq_getElem_cons (by omega)
      have hget : bs.getD k 0 = bs[k]'(by omega) := by simp [List.getD, List.getElem?_eq_getElem (show k < bs.length by omega)]
      have hp6 : 16 ^ k ≤ 16 ^ 6 := Nat.pow_le_pow_right (by decide) (by omega)
      rw [hdrop] at hdec
      rw [hget] at hc
      generalize bs[k]'(by omega) = c at hc hdec
      have hc256 : c.toNat < 256 := c.toNat_lt
      have hok := hexOK_all c
      have hlow : ∀ w, Calls Tryz.prog 136 #[.int .u8 c.toNat] w fun e w' => e = .returned (.int .u8 ((c ||| 32).toNat : Int)) ∧ w = w' := fun w => (Tryz.internal_strconv_lower c.toNat w).mono fun e w' h => ⟨by rw [h.1, lower_bits], h.2.symm⟩
      have HLOW := Lib.hid hlow
      have hl256 : (c ||| 32).toNat < 256 := (c ||| 32).toNat_lt
      clear hB hdrop hget hlow
      unfold hexOK at hok
      generalize (c ||| 32).toNat = L at *
      cases hx : hexN c.toNat with
      | some d =>
        rw [hx] at hok
        simp only [Bool.and_eq_true, Bool.or_eq_true, decide_eq_true_eq, Bool.not_eq_true', decide_eq_false_iff_not] at hok
        obtain ⟨hd15, hok⟩ := hok
        have hF : hexR acc (c :: bs.drop (k + 1)) = hexR (16 * acc + d) (bs.drop (k + 1)) := by
          conv => lhs; unfold hexR
          rw [hx]
        have hpw : 16 * acc + d < 16 ^ (k + 1) := by rw [Nat.pow_succ]; omega
        have ha6 : a ≤ 16777215 := by omega
        rcases hok with ⟨⟨hd0, hd1⟩, hd⟩ | ⟨⟨⟨h58, h95⟩, hl0, hl1⟩, hd⟩
        · have HN : Hid (a * 16 + ((c.toNat : Int) - 48) = ((16 * acc + d : Nat) : Int) ∧ 16 * acc + d < 16 ^ (k + 1) ∧ hexR 0 bs = hexR (16 * acc + d) (bs.drop (k + 1))) := Lib.hid ⟨by omega, hpw, hdec.trans hF⟩
          clear hacc hF hdec ha hpw hp6 hx hd hp7
          go_wp2
          refine ⟨⟨k + 1, 16 * acc + d, a * 16 + ((c.toNat : Int) - 48), rfl, (by first | rfl | (congr 1; omega)), (by first | rfl | (congr 1; omega)), by omega, HN⟩, by simp [RowKit.intOf]; omega⟩
        · have HN : Hid (a * 16 + ((L : Int) - 97 + 10) = ((16 * acc + d : Nat) : Int) ∧ 16 * acc + d < 16 ^ (k + 1) ∧ hexR 0 bs = hexR (16 * acc + d) (bs.drop (k + 1))) := Lib.hid ⟨by omega, hpw, hdec.trans hF⟩
          have hq : ((c.toNat : Int) == 95) = false := by simp; omega
          clear hacc hF hdec ha hpw hp6 hx hd hp7 h95
          go_wp2_with (go_at_call 136; refine (HLOW.out _).mono ?_; rintro e w' ⟨rfl, rfl⟩)
          refine ⟨⟨k + 1, 16 * acc + d, a * 16 + ((L : Int) - 97 + 10), rfl, (by first | rfl | (congr 1; omega)), (by first | rfl | (congr 1; omega)), by omega, HN⟩, by simp [RowKit.intOf]; omega⟩
      | none =>
        rw [hx] at hok
        simp only [Bool.and_eq_true, Bool.or_eq_true, decide_eq_true_eq] at hok
        obtain ⟨hnd, hl⟩ := hok
        have hF : hexR acc (c :: bs.drop (k + 1)) = none := by
          conv => lhs; unfold hexR
          rw [hx]
        have HD := Lib.hid (hdec.trans hF)
        clear hacc hF ha hdec hx hp6 hp7
        by_cases h95 : c.toNat = 95
        · rw [h95] at hc HLOW
          clear hnd h95 hc256
          rcases hl with hl | hl
          all_goals
            go_wp2_with (go_at_call 136; refine (HLOW.out _).mono ?_; rintro e w' ⟨rfl, rfl⟩)
            all_goals go_ret2
            all_goals exact ⟨retT (by rw [HD.out]; rfl), rfl⟩
        · have hq : ((c.toNat : Int) == 95) = false := by simp; omega
          clear h95
          rcases hnd with hnd | hnd <;> rcases hl with hl | hl
          all_goals
            go_wp2_with (go_at_call 136; refine (HLOW.out _).mono ?_; rintro e w' ⟨rfl, rfl⟩)
            all_goals go_ret2
            all_goals exact ⟨retT (by rw [HD.out]; rfl), rfl⟩
    · have hkk : k = t.size := by omega
      subst hkk
      have hF : hexR acc (bs.drop t.size) = some acc := by rw [List.drop_eq_nil_of_le (by omega)]; rfl
      rw [hF] at hdec
      subst ha
      have HD := Lib.hid hdec
      clear hacc hF a0 a1 hdec hp7
      go_wp2
      go_ret2
      exact ⟨retT (by rw [HD.out]; rfl), rfl⟩
end Go.Proofs.YtimhhacfjgbomaaGreatDoor
namespace Go.Proofs.YtimhhacfjgbomaaGreatDoor
set_option linter.unusedSimpArgs false
set_option linter.unusedVariables false
open Go.RowKit Go.Shelf

set_option maxHeartbeats 4000000 in
set_option maxRecDepth 100000 in
theorem hex_ok (s : ByteArray) (h0 : 0 < s.size) (h1 : s.size ≤ 7) (n : Nat) (h : hexR 0 s.data.toList = some n) (w : World) :
    Calls Tryz.prog 112 #[.string s, .int .i64 16, .int .i64 32] w fun e w' => e = .returned (.tuple #[.int .u64 n, .nilIface]) ∧ Below w.heap.size w w' := by
  have hI := ihex_any s h0 h1 w
  rw [h] at hI
  have hI : Calls Tryz.prog 128 #[.string s, .int .i64 16, .int .i64 32] w fun e w' => e = .returned (.tuple #[.int .u64 n, .nilIface]) ∧ Below w.heap.size w w' := hI.mono fun _ _ h => ⟨h.1, h.2 ▸ Lib.bytesWorld_below _ _ _⟩
  have HI := Lib.hid hI
  clear h hI
  go_enter Tryz.func112, Tryz.ntmps112
  go_wp2_with (go_at_call 128; refine HI.out.mono ?_; rintro e W1 ⟨rfl, hW⟩)
  go_wp2
  go_ret2
  exact ⟨rfl, hW⟩
set_option maxHeartbeats 4000000 in
set_option maxRecDepth 100000 in
theorem hex_no {n₀ : Nat} (s : ByteArray) (h0 : 0 < s.size) (h1 : s.size ≤ 7) (h : hexR 0 s.data.toList = none) (w : World) (hE : Env n₀ w) :
    Calls Tryz.prog 112 #[.string s, .int .i64 16, .int .i64 32] w fun e w' => (∃ N, e = .returned (.tuple #[.int .u64 0, .iface 162 (.pointer (some ⟨N, 0, none⟩))])) ∧ Below w.heap.size w w' := by
  have hI := ihex_any s h0 h1 w
  rw [h] at hI
  have hI : Calls Tryz.prog 128 #[.string s, .int .i64 16, .int .i64 32] w fun e w' => e = .returned (.tuple #[.int .u64 0, .iface 160 (.int .i64 2)]) ∧ Below w.heap.size w w' := hI.mono fun _ _ h => ⟨h.1, h.2 ▸ Lib.bytesWorld_below _ _ _⟩
  have HI := Lib.hid hI
  have HE := Lib.hid hE
  clear h hI hE
  go_enter Tryz.func112, Tryz.ntmps112
  go_wp2_with (go_at_call 128; refine HI.out.mono ?_)
  rintro e W1 ⟨rfl, hb1⟩
  obtain ⟨ev, hv1, hev⟩ := (HE.out.below hb1).errS
  have HV := Lib.hid hv1
  have HEV := Lib.hid hev
  clear hv1 hev
  go_wp2_with (go_at_call 129; refine (Tryz.strconv_toError_syntax ⟨#[80, 97, 114, 115, 101, 85, 105, 110, 116]⟩ s 16 32 ev _ (by omega) HV.out HEV.out).mono ?_)
  rintro e W2 ⟨N, rfl, h1, h2, h3⟩
  go_wp2
  go_ret2
  exact ⟨⟨N, rfl⟩, hb1.trans (h3.mono hb1.size)⟩
end Go.Proofs.YtimhhacfjgbomaaGreatDoor
namespace Go.Proofs.YtimhhacfjgbomaaGreatDoor
set_option linter.unusedSimpArgs false
set_option linter.unusedVariables false
open Go.RowKit Go.Shelf

/-- What is meant, and how many bytes say so. -/
def escP (u : List UInt8) : Option (List UInt8 × Nat) :=
  match u with
  | [] => none
  | d :: r => match esc1 d with
    | some x => some ([x], 1)
    | none => if d = 117 then match r with
      | a :: b :: e :: f :: _ => (rune4 a b e f).map fun bs => (bs, 5)
      | _ => none
      else none
/-- How escape ends. -/
def EscQ (B : Nat) (s : ByteArray) (i : Nat) (o : Option (List UInt8 × Nat)) (w : World) (e : Ending) (w' : World) : Prop :=
  w.grownBy w' (some B) ∧ match o with
    | none => ∃ v, e = .returned (.tuple #[v, .bool false])
    | some p => ∃ v, e = .returned (.tuple #[v, .bool true]) ∧ Rd w' B s (i + p.2) ∧ w'.ownsRow w.heap.size 5 1 v p.1.length (Lib.byteCells p.1)

theorem new_at (w : World) (o : Obj) : (w.alloc o).heap[w.heap.size]? = some o := by
  unfold World.alloc
  simp
theorem new_old {w : World} {o : Obj} {k : Nat} {x : Obj} (h : w.heap[k]? = some x) : (w.alloc o).heap[k]? = some x := by
  rw [Below.heap_alloc _ _ _ (Array.getElem?_eq_some_iff.1 h).1]; exact h
theorem new_at' {w : World} {n : Nat} (h : w.heap.size = n) (o : Obj) : (w.alloc o).heap[n]? = some o := h ▸ new_at w o
/-- The reader and the frame. -/
def RdW (B : Nat) (s : ByteArray) (J : Nat) (w V : World) : Prop := Rd V B s J ∧ w.grownBy V (some B)
theorem keepR {B : Nat} {s : ByteArray} {J : Nat} {w V V' : World} (h : RdW B s J w V ∧ V.cell? ⟨B, 0, none⟩ = some (.string s) ∧ V.cell? ⟨B, 1, none⟩ = some (.int .i64 J)) (hb : Below V.heap.size V V') :
    RdW B s J w V' ∧ V'.cell? ⟨B, 0, none⟩ = some (.string s) ∧ V'.cell? ⟨B, 1, none⟩ = some (.int .i64 J) := by
  have h1 := h.1.1.next hb
  exact ⟨⟨h1, only_trans h.1.2 (only_of_below hb _)⟩, h1.s, h1.at_⟩
theorem rune_any (n : Nat) (hn : n ≤ 65535) (B0 : Nat) (W : World) (hB0 : B0 ≤ W.heap.size) :
    Calls Tryz.prog 104 #[.slice none 0 0, .int .i32 n] W fun e W' => ∃ v, e = .returned v ∧ W'.ownsRow B0 5 1 v (Lib.encodeRune n).length (Lib.byteCells (Lib.encodeRune n)) ∧ Below W.heap.size W W' :=
  (Tryz.utf8_AppendRune_plain B0 (.slice none 0 0) 0 [] n (by omega) (by omega) W ⟨rfl, .inl ⟨rfl, rfl⟩⟩ (by omega) hB0).mono fun e W' h => by
    obtain ⟨v, he, ho, o, hg⟩ := h
    refine ⟨v, he, ?_, ((Below.refl _ _).alloc (Nat.le_refl _) o).grown hg (by simp) (fun k hk => by cases hk)⟩
    have h1 : (Lib.runeCells n).length = (Lib.encodeRune n).length := by unfold Lib.runeCells Lib.encodeRune; simp
    have h2 : Lib.byteCells (Lib.encodeRune n) = Lib.runeCells n := Lib.byteCells_encodeRune n
    rw [h2, ← h1]
    simpa using ho
theorem not_nil (W : World) (u : TypeId) (v : Value) : (binOp .eql 68 (.iface u v) .nilIface).run Tryz.prog W = .ok (.bool false) W := by kernel_rfl
theorem is_nil (W : World) : (binOp .eql 68 .nilIface .nilIface).run Tryz.prog W = .ok (.bool true) W := by kernel_rfl
theorem hexN_le {c d : Nat} (h : hexN c = some d) : d ≤ 15 := by
  unfold hexN at h
  split at h
  · cases h; omega
  · split at h
    · cases h; omega
    · split at h
      · cases h; omega
      · cases h
theorem hex4_le {a b c d : UInt8} {n : Nat} (h : hex4 a b c d = some n) : n ≤ 65535 := by
  unfold hex4 at h
  split at h
  · rename_i w x y z h1 h2 h3 h4
    cases h
    have := hexN_le h1; have := hexN_le h2; have := hexN_le h3; have := hexN_le h4
    omega
  · cases h
set_option maxRecDepth 10000 in
theorem vrune_any (n : Nat) (hn : n ≤ 65535) (x : Int) (hx : x = IntKind.i32.wrap n) (W : World) :
    Calls Tryz.prog 143 #[.int .i32 x] W fun e W' => e = .returned (.bool (!decide (55296 ≤ n ∧ n ≤ 57343))) ∧ W = W' := by
  have : IntKind.i32.wrap (n : Int) = n := by unfold IntKind.wrap; simp [IntKind.bits, IntKind.signed]; omega
  rw [hx, this]
  have e : Lib.validRune (n : Int) = !decide (55296 ≤ n ∧ n ≤ 57343) := by
    unfold Lib.validRune
    by_cases h : 55296 ≤ n ∧ n ≤ 57343
    · rw [decide_eq_true h, decide_eq_false (by omega)]; rfl
    · rw [decide_eq_false h, decide_eq_true (by omega)]; rfl
  exact (Tryz.utf8_ValidRune n W).mono fun e' W' h => ⟨by rw [h.1, e], h.2.symm⟩
theorem runew_any (n : Nat) (hn : n ≤ 65535) (x : Int) (hx : x = IntKind.i32.wrap n) (B0 : Nat) (W : World) (hB0 : B0 ≤ W.heap.size) :
    Calls Tryz.prog 104 #[.slice none 0 0, .int .i32 x] W fun e W' => ∃ v, e = .returned v ∧ W'.ownsRow B0 5 1 v (Lib.encodeRune n).length (Lib.byteCells (Lib.encodeRune n)) ∧ Below W.heap.size W W' := by
  have : IntKind.i32.wrap (n : Int) = n := by unfold IntKind.wrap; simp [IntKind.bits, IntKind.signed]; omega
  rw [hx, this]
  exact rune_any n hn B0 W hB0
theorem keepR' {B : Nat} {s : ByteArray} {J : Nat} {w V V' : World} (h : RdW B s J w V) (hb : Below V.heap.size V V') : RdW B s J w V' := ⟨h.1.next hb, only_trans h.2 (only_of_below hb _)⟩
/-- What is known behind the two tables. -/
structure EscI (B M : Nat) (s : ByteArray) (i : Nat) (w V : World) : Prop where
  rd : Rd V B s i
  only : w.grownBy V (some B)
  marks : V.heap[M]? = some (.cells #[.int .u8 92, .int .u8 39, .int .u8 34, .int .u8 110, .int .u8 116, .int .u8 114] 166 (0, 0))
  means : V.heap[M + 1]? = some (.cells #[.int .u8 92, .int .u8 39, .int .u8 34, .int .u8 10, .int .u8 9, .int .u8 13] 166 (0, 0))
theorem EscI.drew {B M : Nat} {s : ByteArray} {i : Nat} {w V : World} (h : EscI B M s i w V) (n : Nat) : EscI B M s i w (V.drewN n) := ⟨h.rd, only_drewN h.only n, h.marks, h.means⟩

theorem EscI.found {B M : Nat} {s : ByteArray} {i J : Nat} {w V : World} (h : EscI B M s J w V) (hJ : i + 1 = J) {o : Option (List UInt8 × Nat)} {x : UInt8} (ho : o = some ([x], 1)) (n : Int) (hn : n = x.toNat) :
    EscQ B s i o w (.returned (.tuple #[.slice (some ⟨V.heap.size, 0, none⟩) 1 1, .bool true])) (V.alloc (.cells #[.int .u8 n] 5)) := by
  subst hJ; subst hn; subst ho
  refine ⟨only_alloc h.only _, _, rfl, h.rd.next (ballocR _ _), rfl, .inr ⟨V.heap.size, 1, #[.int .u8 x.toNat], rfl, h.only.size, new_at _ _, Nat.le_refl _, by decide, rfl, rfl⟩⟩
theorem esc_tests {c : UInt8} {u : List UInt8} (h : esc1 c = none) (h2 : c ≠ 117) : escP (c :: u) = none := by simp [escP, h, h2]
theorem esc_hit {c x : UInt8} {u : List UInt8} (h : esc1 c = some x) : escP (c :: u) = some ([x], 1) := by simp [escP, h]

set_option maxRecDepth 100000 in
set_option maxHeartbeats 8000000 in
theorem esc_any {n₀ : Nat} (B : Nat) (s : ByteArray) (i : Nat) (w : World) (hi : i < s.size) (hs : s.size ≤ 1048576) (hR : Rd w B s i) (hE : Env n₀ w) (hB : n₀ ≤ B) :
    Calls Tryz.prog 131 #[.pointer (some ⟨B, 0, none⟩)] w (EscQ B s i (escP (s.data.toList.drop (i + 1))) w) := by
  have hBl := hR.lt
  obtain ⟨ANS, hA⟩ : ∃ A, escP (s.data.toList.drop (i + 1)) = A := ⟨_, rfl⟩
  rw [hA]
  have HA := Lib.hid hA
  clear hA
  have h1 : Rd (w.setCell ⟨B, 1, none⟩ (.int .i64 ((i : Int) + 1))) B s (i + 1) := Rd.set' hR (by omega)
  have hg : w.grownBy (w.setCell ⟨B, 1, none⟩ (.int .i64 ((i : Int) + 1))) (some B) := only_setCell (only_refl w _) (.inl rfl) _
  have r0 := hR.s
  have r1 := hR.at_
  have f1 := hR.fr 1
  have H1 := Lib.hid h1
  have HG := Lib.hid hg
  clear h1 hg hR
  go_enter Tryz.func131, Tryz.ntmps131
  go_wp2_with fail
  generalize w.setCell ⟨B, 1, none⟩ (.int .i64 ((i : Int) + 1)) = V at *
  clear r0 r1 f1
  obtain ⟨J, hJ⟩ : ∃ J, i + 1 = J := ⟨_, rfl⟩
  rw [hJ] at H1 HA
  have HJ := Lib.hid hJ
  have hJs : J ≤ s.size := by omega
  clear hJ
  have r0 := H1.out.s
  have r1 := H1.out.at_
  by_cases hn : J < s.size
  · have e0 : (J == s.size) = false := by simp; omega
    have e1 : ((J : Int) == (s.size : Int)) = false := by simp; omega
    go_quiet (fail)
    have HV : Hid (Rd (V.drewN nq) B s J) := H1.out
    have HGV : Hid (w.grownBy (V.drewN nq) (some B)) := only_drewN HG.out nq
    clear H1 HG r0 r1
    generalize World.drewN V nq = V1 at *
    have r0 := HV.out.s
    have r1 := HV.out.at_
    go_wp2_with fail
    obtain ⟨M, hM⟩ : ∃ M, V1.heap.size = M := ⟨_, rfl⟩
    have hI : EscI B M s J w ((V1.alloc (.cells #[.int .u8 92, .int .u8 39, .int .u8 34, .int .u8 110, .int .u8 116, .int .u8 114] 166)).alloc (.cells #[.int .u8 92, .int .u8 39, .int .u8 34, .int .u8 10, .int .u8 9, .int .u8 13] 166)) :=
      ⟨(HV.out.next (ballocR _ _)).next (ballocR _ _), only_alloc (only_alloc HGV.out _) _, new_old (new_at' hM _), new_at' (by simp [hM]) _⟩
    have HI := Lib.hid hI
    rw [hM]
    clear hI HV HGV r0 r1 hM
    generalize (V1.alloc (.cells #[.int .u8 92, .int .u8 39, .int .u8 34, .int .u8 110, .int .u8 116, .int .u8 114] 166)).alloc (.cells #[.int .u8 92, .int .u8 39, .int .u8 34, .int .u8 10, .int .u8 9, .int .u8 13] 166) = V2 at *
    have HI1 : ∀ n, Hid (EscI B M s J w (V2.drewN n)) := fun n => HI.out.drew n
    have r0 := HI.out.rd.s
    have r1 := HI.out.rd.at_
    go_quiet (fail)
    have HI2 := HI1 nq
    clear HI HI1 r0 r1
    generalize World.drewN V2 nq = V3 at *
    have hd : s.data.toList.drop J = s[J] :: s.data.toList.drop (J + 1) := drop_at hn
    rw [hd] at HA
    generalize s[J] = c at *
    clear hd
    have c0 : V3.cell? ⟨M, 0, none⟩ = some (.int .u8 92) := by have := HI2.out.marks; simp [World.cell?, this]
    have c1 : V3.cell? ⟨M, 1, none⟩ = some (.int .u8 39) := by have := HI2.out.marks; simp [World.cell?, this]
    have c2 : V3.cell? ⟨M, 2, none⟩ = some (.int .u8 34) := by have := HI2.out.marks; simp [World.cell?, this]
    have c3 : V3.cell? ⟨M, 3, none⟩ = some (.int .u8 110) := by have := HI2.out.marks; simp [World.cell?, this]
    have c4 : V3.cell? ⟨M, 4, none⟩ = some (.int .u8 116) := by have := HI2.out.marks; simp [World.cell?, this]
    have c5 : V3.cell? ⟨M, 5, none⟩ = some (.int .u8 114) := by have := HI2.out.marks; simp [World.cell?, this]
    have m0 : V3.cell? ⟨M + 1, 0, none⟩ = some (.int .u8 92) := by have := HI2.out.means; simp [World.cell?, this]
    have m1 : V3.cell? ⟨M + 1, 1, none⟩ = some (.int .u8 39) := by have := HI2.out.means; simp [World.cell?, this]
    have m2 : V3.cell? ⟨M + 1, 2, none⟩ = some (.int .u8 34) := by have := HI2.out.means; simp [World.cell?, this]
    have m3 : V3.cell? ⟨M + 1, 3, none⟩ = some (.int .u8 10) := by have := HI2.out.means; simp [World.cell?, this]
    have m4 : V3.cell? ⟨M + 1, 4, none⟩ = some (.int .u8 9) := by have := HI2.out.means; simp [World.cell?, this]
    have m5 : V3.cell? ⟨M + 1, 5, none⟩ = some (.int .u8 13) := by have := HI2.out.means; simp [World.cell?, this]
    have i0 : ∀ w, (Instr.index 166 (.agg #[.int .u8 92, .int .u8 39, .int .u8 34, .int .u8 110, .int .u8 116, .int .u8 114]) (.int .i64 0)).run Tryz.prog w = .ok (.int .u8 92) w := fun _ => by kernel_rfl
    have i1 : ∀ w, (Instr.index 166 (.agg #[.int .u8 92, .int .u8 39, .int .u8 34, .int .u8 110, .int .u8 116, .int .u8 114]) (.int .i64 1)).run Tryz.prog w = .ok (.int .u8 39) w := fun _ => by kernel_rfl
    have i2 : ∀ w, (Instr.index 166 (.agg #[.int .u8 92, .int .u8 39, .int .u8 34, .int .u8 110, .int .u8 116, .int .u8 114]) (.int .i64 2)).run Tryz.prog w = .ok (.int .u8 34) w := fun _ => by kernel_rfl
    have i3 : ∀ w, (Instr.index 166 (.agg #[.int .u8 92, .int .u8 39, .int .u8 34, .int .u8 110, .int .u8 116, .int .u8 114]) (.int .i64 3)).run Tryz.prog w = .ok (.int .u8 110) w := fun _ => by kernel_rfl
    have i4 : ∀ w, (Instr.index 166 (.agg #[.int .u8 92, .int .u8 39, .int .u8 34, .int .u8 110, .int .u8 116, .int .u8 114]) (.int .i64 4)).run Tryz.prog w = .ok (.int .u8 116) w := fun _ => by kernel_rfl
    have i5 : ∀ w, (Instr.index 166 (.agg #[.int .u8 92, .int .u8 39, .int .u8 34, .int .u8 110, .int .u8 116, .int .u8 114]) (.int .i64 5)).run Tryz.prog w = .ok (.int .u8 114) w := fun _ => by kernel_rfl
    by_cases h92 : c.toNat = 92
    · have hA : ANS = some ([92], 1) := HA.out.symm.trans (esc_hit (by rw [show c = 92 from UInt8.toNat_inj.1 h92]; rfl))
      rw [show (c.toNat : Int) = 92 by omega]
      have HAA := Lib.hid hA
      clear hA HA
      go_wp2
      go_rounds 1
      go_ret2
      exact HI2.out.found HJ.out HAA.out 92 rfl
    by_cases h39 : c.toNat = 39
    · have hA : ANS = some ([39], 1) := HA.out.symm.trans (esc_hit (by rw [show c = 39 from UInt8.toNat_inj.1 h39]; rfl))
      rw [show (c.toNat : Int) = 39 by omega]
      have HAA := Lib.hid hA
      clear hA HA
      go_wp2
      go_rounds 2
      go_ret2
      exact HI2.out.found HJ.out HAA.out 39 rfl
    by_cases h34 : c.toNat = 34
    · have hA : ANS = some ([34], 1) := HA.out.symm.trans (esc_hit (by rw [show c = 34 from UInt8.toNat_inj.1 h34]; rfl))
      rw [show (c.toNat : Int) = 34 by omega]
      have HAA := Lib.hid hA
      clear hA HA
      go_wp2
      go_rounds 3
      go_ret2
      exact HI2.out.found HJ.out HAA.out 34 rfl
    by_cases h110 : c.toNat = 110
    · have hA : ANS = some ([10], 1) := HA.out.symm.trans (esc_hit (by rw [show c = 110 from UInt8.toNat_inj.1 h110]; rfl))
      rw [show (c.toNat : Int) = 110 by omega]
      have HAA := Lib.hid hA
      clear hA HA
      go_wp2
      go_rounds 4
      go_ret2
      exact HI2.out.found HJ.out HAA.out 10 rfl
    by_cases h116 : c.toNat = 116
    · have hA : ANS = some ([9], 1) := HA.out.symm.trans (esc_hit (by rw [show c = 116 from UInt8.toNat_inj.1 h116]; rfl))
      rw [show (c.toNat : Int) = 116 by omega]
      have HAA := Lib.hid hA
      clear hA HA
      go_wp2
      go_rounds 5
      go_ret2
      exact HI2.out.found HJ.out HAA.out 9 rfl
    by_cases h114 : c.toNat = 114
    · have hA : ANS = some ([13], 1) := HA.out.symm.trans (esc_hit (by rw [show c = 114 from UInt8.toNat_inj.1 h114]; rfl))
      rw [show (c.toNat : Int) = 114 by omega]
      have HAA := Lib.hid hA
      clear hA HA
      go_wp2
      go_rounds 6
      go_ret2
      exact HI2.out.found HJ.out HAA.out 13 rfl
    have q0 : ((92 : Int) == c.toNat) = false := by simp; omega
    have q1 : ((39 : Int) == c.toNat) = false := by simp; omega
    have q2 : ((34 : Int) == c.toNat) = false := by simp; omega
    have q3 : ((110 : Int) == c.toNat) = false := by simp; omega
    have q4 : ((116 : Int) == c.toNat) = false := by simp; omega
    have q5 : ((114 : Int) == c.toNat) = false := by simp; omega
    have hesc : esc1 c = none := by
      have e : ∀ v : UInt8, c.toNat ≠ v.toNat → c ≠ v := fun v h e => h (by rw [e])
      unfold esc1
      rw [if_neg (by rintro (h | h | h); exact e 92 h92 h; exact e 39 h39 h; exact e 34 h34 h), if_neg (e 110 h110), if_neg (e 116 h116), if_neg (e 114 h114)]
    have HESC := Lib.hid hesc
    clear h92 h39 h34 h110 h116 h114 hesc
    go_wp2
    go_rounds 7
    clear q0 q1 q2 q3 q4 q5 c0 c1 c2 c3 c4 c5 m0 m1 m2 m3 m4 m5 i0 i1 i2 i3 i4 i5 e0 e1
    have HI3 : ∀ n, Hid (EscI B M s J w (V3.drewN n)) := fun n => HI2.out.drew n
    have r0 := HI2.out.rd.s
    have r1 := HI2.out.rd.at_
    by_cases hu : c = 117
    · have p0 : ((c.toNat : Int) == 117) = true := by rw [hu]; rfl
      have p1 : ((c.toNat : Int) != 117) = false := by rw [hu]; rfl
      by_cases h5 : s.size - J < 5
      · have hlt : (s.size : Int) - (J : Int) < 5 := by omega
        have hA : ANS = none := by
          rw [← HA.out]
          unfold escP
          simp only [HESC.out, hu, if_true]
          have hl : (s.data.toList.drop (J + 1)).length < 4 := by rw [List.length_drop, sz]; omega
          generalize s.data.toList.drop (J + 1) = u at hl
          match u, hl with
          | [], _ => rfl
          | [_], _ => rfl
          | [_, _], _ => rfl
          | [_, _, _], _ => rfl
          | _ :: _ :: _ :: _ :: _, hl => simp at hl; omega
        have HAA := Lib.hid hA
        have hsz0 : IntKind.i64.wrap ((s.size : Int) - (J : Int)) = (s.size : Int) - (J : Int) := IntWalk.i64_in _ (by omega)
        clear hA HA hu
        go_quiet (fail)
        go_wp2
        go_ret2
        refine ⟨(HI3 nq).out.only, ?_⟩
        rw [HAA.out]
        exact ⟨_, rfl⟩
      · have hge : ¬ (s.size : Int) - (J : Int) < 5 := by omega
        have hsz0 : IntKind.i64.wrap ((s.size : Int) - (J : Int)) = (s.size : Int) - (J : Int) := IntWalk.i64_in _ (by omega)
        have hsz1 : IntKind.i64.wrap ((J : Int) + 1) = (J : Int) + 1 := IntWalk.i64_in _ (by omega)
        have hsz5 : IntKind.i64.wrap ((J : Int) + 5) = (J : Int) + 5 := IntWalk.i64_in _ (by omega)
        have hj5 : J + 5 ≤ s.size := by omega
        clear h5
        go_quiet (fail)
        have HI4 := HI3 nq
        clear HI3 HI2 r0 r1 hsz0 hge
        generalize World.drewN V3 nq = V4 at *
        have r0 := HI4.out.rd.s
        have r1 := HI4.out.rd.at_
        go_wp2_with fail
        have hs4 : (s.extract (J + 1) (J + 5)).size = 4 := by simp; omega
        have hx4 : (s.extract (J + 1) (J + 5)).data.toList = (s.data.toList.drop (J + 1)).take 4 := by rw [extract_take]; congr 1; omega
        have HX := Lib.hid hx4
        have k1 : ((J : Int) + 1).toNat = J + 1 := by omega
        have k5 : ((J : Int) + 5).toNat = J + 5 := by omega
        have b1 : (0 : Int) ≤ (J : Int) + 1 := by omega
        have b2 : (J : Int) + 1 ≤ (J : Int) + 5 := by omega
        have b3 : (J : Int) + 5 ≤ (s.size : Int) := by omega
        have HEE : Hid (Env n₀ V4) := Lib.hid (hE.only HI4.out.only hB)
        have hst : RdW B s J w V4 ∧ V4.cell? ⟨B, 0, none⟩ = some (.string s) ∧ V4.cell? ⟨B, 1, none⟩ = some (.int .i64 J) := ⟨⟨HI4.out.rd, HI4.out.only⟩, r0, r1⟩
        cases hh : hexR 0 (s.extract (J + 1) (J + 5)).data.toList with
        | none =>
          have HN := Lib.hid hh
          clear hh hx4
          go_region_held3 (fun w' => RdW B s J w w' ∧ w'.cell? ⟨B, 0, none⟩ = some (.string s) ∧ w'.cell? ⟨B, 1, none⟩ = some (.int .i64 J))
            (first | assumption | (exact keepR (by assumption) (by assumption)) | (exact keepR (by assumption) (Below.refl _ _).drew))
            (first | (go_at_call 112; refine (hex_no (n₀ := n₀) (s.extract (J + 1) (J + 5)) (by omega) (by omega) HN.out _ ?henv).mono ?_; (case henv => exact HEE.out.next (Below.refl _ _).drew); rintro e w' ⟨⟨N, rfl⟩, hbx⟩))
          have hS : RdW B s J w w' ∧ w'.cell? ⟨B, 0, none⟩ = some (.string s) ∧ w'.cell? ⟨B, 1, none⟩ = some (.int .i64 J) := by assumption
          have hA : ANS = none := by
            rw [← HA.out, hu]
            unfold escP
            simp only [show esc1 117 = none from by decide, if_true]
            have h1 := HN.out
            rw [HX.out] at h1
            have hl : 4 ≤ (s.data.toList.drop (J + 1)).length := by rw [List.length_drop, sz]; omega
            generalize s.data.toList.drop (J + 1) = u at h1 hl
            match u, hl with
            | a :: b :: e :: f :: _, _ =>
              simp only [List.take_succ_cons, List.take_zero] at h1
              rw [hexR_four] at h1
              simp [rune4, h1]
          have HAA := Lib.hid hA
          obtain ⟨⟨g1, g2⟩, r0', r1'⟩ := hS
          have f1 := g1.fr 1
          have hG4 : RdW B s (J + 4) w (w'.setCell ⟨B, 1, none⟩ (.int .i64 ((J : Int) + 4))) := ⟨Rd.set' g1 (by omega), only_setCell g2 (.inl rfl) _⟩
          have HG4 := Lib.hid hG4
          clear hG4 hA HA g1 g2 HX hs4 hst HI4 hu r0 r1
          go_wp2_with fail
          generalize w'.setCell ⟨B, 1, none⟩ (.int .i64 ((J : Int) + 4)) = V5 at *
          have hst : RdW B s (J + 4) w V5 := HG4.out
          clear r0' r1' f1 HG4 HN hbx HEE
          have hnn := fun W => not_nil W 162 (.pointer (some ⟨N, 0, none⟩))
          first | (go_region_with (go_at_call 104; refine (runew_any 0 (by omega) (IntKind.i32.wrap 0) rfl w.heap.size _ ?hb0).mono ?_; (case hb0 => exact hst.2.size); rintro e w' ⟨v, rfl, hown, hbx⟩)) | fail
          have hS : RdW B s (J + 4) w w' := keepR' (keepR' hst (Below.refl _ _).drew) hbx
          go_wp2_with fail
          go_ret2
          refine ⟨hS.2, ?_⟩
          rw [HAA.out]
          exact ⟨_, rfl⟩
        | some n =>
          have hn16 : n ≤ 65535 ∧ ANS = (if 55296 ≤ n ∧ n ≤ 57343 then none else some (Lib.encodeRune n, 5)) := by
            rw [← HA.out, hu]
            unfold escP
            simp only [show esc1 117 = none from by decide, if_true]
            have h1 := hh
            rw [HX.out] at h1
            have hl : 4 ≤ (s.data.toList.drop (J + 1)).length := by rw [List.length_drop, sz]; omega
            generalize s.data.toList.drop (J + 1) = u at h1 hl
            match u, hl with
            | a :: b :: e :: f :: _, _ =>
              simp only [List.take_succ_cons, List.take_zero] at h1
              rw [hexR_four] at h1
              refine ⟨hex4_le h1, ?_⟩
              simp only [rune4, h1]
              split <;> rfl
          obtain ⟨hn16, hA⟩ := hn16
          have HAA := Lib.hid hA
          have HN := Lib.hid hh
          clear hh hx4 hA HA hu
          go_region_held3 (fun w' => RdW B s J w w' ∧ w'.cell? ⟨B, 0, none⟩ = some (.string s) ∧ w'.cell? ⟨B, 1, none⟩ = some (.int .i64 J))
            (first | assumption | (exact keepR (by assumption) (by assumption)) | (exact keepR (by assumption) (Below.refl _ _).drew))
            (first | (go_at_call 112; refine (hex_ok (s.extract (J + 1) (J + 5)) (by omega) (by omega) n HN.out _).mono ?_; rintro e w' ⟨rfl, hbx⟩))
          have hS : RdW B s J w w' ∧ w'.cell? ⟨B, 0, none⟩ = some (.string s) ∧ w'.cell? ⟨B, 1, none⟩ = some (.int .i64 J) := by assumption
          obtain ⟨⟨g1, g2⟩, r0', r1'⟩ := hS
          have f1 := g1.fr 1
          have hG4 : RdW B s (J + 4) w (w'.setCell ⟨B, 1, none⟩ (.int .i64 ((J : Int) + 4))) := ⟨Rd.set' g1 (by omega), only_setCell g2 (.inl rfl) _⟩
          have HG4 := Lib.hid hG4
          clear hG4 g1 g2 HX hs4 hst HI4 r0 r1
          go_wp2_with fail
          generalize w'.setCell ⟨B, 1, none⟩ (.int .i64 ((J : Int) + 4)) = V5 at *
          have hst : RdW B s (J + 4) w V5 := HG4.out
          clear r0' r1' f1 HG4 HN hbx HEE
          have hnn := fun W => is_nil W
          cases hb : (!decide (55296 ≤ n ∧ n ≤ 57343)) with
          | true =>
            have HV := fun W => vrune_any n hn16 _ rfl W
            rw [hb] at HV
            have HVV := Lib.hid HV
            have hA : ANS = some (Lib.encodeRune n, 5) := by rw [HAA.out, if_neg (by simp at hb; omega)]
            have HA := Lib.hid hA
            clear HV hA HAA hb
            go_region_with (first
              | (go_at_call 104; refine (runew_any n hn16 (IntKind.i32.wrap n) rfl w.heap.size _ ?hb0).mono ?_; (case hb0 => exact hst.2.size); rintro e w' ⟨v, rfl, hown, hbx⟩)
              | (go_at_call 143; refine (HVV.out _).mono ?_; rintro e w' ⟨rfl, rfl⟩))
            have hS : RdW B s (J + 4) w w' := keepR' (keepR' hst (Below.refl _ _).drew) hbx
            go_wp2_with fail
            go_ret2
            refine ⟨hS.2, ?_⟩
            rw [HA.out]
            refine ⟨_, rfl, ?_, hown⟩
            have := HJ.out
            rw [show i + 5 = J + 4 by omega]
            exact hS.1
          | false =>
            have HV := fun W => vrune_any n hn16 _ rfl W
            rw [hb] at HV
            have HVV := Lib.hid HV
            have hA : ANS = none := by rw [HAA.out, if_pos (by simp at hb; omega)]
            have HA := Lib.hid hA
            clear HV hA HAA hb
            go_region_with (first
              | (go_at_call 104; refine (runew_any n hn16 (IntKind.i32.wrap n) rfl w.heap.size _ ?hb0).mono ?_; (case hb0 => exact hst.2.size); rintro e w' ⟨v, rfl, hown, hbx⟩)
              | (go_at_call 143; refine (HVV.out _).mono ?_; rintro e w' ⟨rfl, rfl⟩))
            have hS : RdW B s (J + 4) w w' := keepR' (keepR' hst (Below.refl _ _).drew) hbx
            go_wp2_with fail
            go_ret2
            refine ⟨hS.2, ?_⟩
            rw [HA.out]
            exact ⟨_, rfl⟩
    · have hA : ANS = none := by rw [← HA.out]; exact esc_tests HESC.out hu
      have p0 : ((c.toNat : Int) == 117) = false := by
        have : c.toNat ≠ 117 := fun e => hu (UInt8.toNat_inj.1 e)
        simp; omega
      have p1 : ((c.toNat : Int) != 117) = true := by rw [bne, p0]; rfl
      have HAA := Lib.hid hA
      clear hA HA hu
      go_quiet (fail)
      go_wp2
      go_ret2
      refine ⟨(HI3 nq).out.only, ?_⟩
      rw [HAA.out]
      exact ⟨_, rfl⟩
  · have hA : ANS = none := by
      have h1 := HA.out
      rw [List.drop_of_length_le (by rw [sz]; omega)] at h1
      exact h1.symm
    have hJe : J = s.size := by omega
    have e0 : (J == s.size) = true := by simp; omega
    have e1 : ((J : Int) == (s.size : Int)) = true := by simp; omega
    have HAA := Lib.hid hA
    clear hA HA hJe
    go_quiet (fail)
    go_wp2
    go_ret2
    refine ⟨only_drewN HG.out _, ?_⟩
    rw [HAA.out]
    exact ⟨_, rfl⟩
end Go.Proofs.YtimhhacfjgbomaaGreatDoor
