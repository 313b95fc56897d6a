/-
  THE WALK of value.Quote: a text between quotes.
  THE WALKS of strconv.FormatUint to the base ten, and of tell: a word as it is told.
-/
import Derived.Test.YtimhhacfjgbomaaGreatDoorBuilder
import Derived.Test.YtimhhacfjgbomaaGreatDoorNames2
import Derived.Test.YtimhhacfjgbomaaGreatDoorWordsP
import Derived.Test.YtimhhacfjgbomaaGreatDoorWordB
import Derived.Shelf.LaysM
import Derived.Shelf.Strconv.Itoa1
import Derived.Shelf.Strconv.Itoa2
import Derived.Lib.ItoaMem
namespace Go.Proofs.YtimhhacfjgbomaaGreatDoor
set_option linter.unusedSimpArgs false
set_option linter.unusedVariables false
open Go.RowKit Go.Shelf Go.Lib

theorem esc_idx (c : UInt8) : indexByte [39, 92, 10, 9, 13] c = if c = 39 then 0 else if c = 92 then 1 else if c = 10 then 2 else if c = 9 then 3 else if c = 13 then 4 else -1 := by
  refine byte_all (P := fun c => indexByte [39, 92, 10, 9, 13] c = if c = 39 then 0 else if c = 92 then 1 else if c = 10 then 2 else if c = 9 then 3 else if c = 13 then 4 else -1) ?_ c
  decide +kernel
def hexS : ByteArray := ⟨#[48, 49, 50, 51, 52, 53, 54, 55, 56, 57, 97, 98, 99, 100, 101, 102]⟩
theorem low4 (c : UInt8) : bits .and .u8 (c.toNat : Int) 15 = ((c.toNat % 16 : Nat) : Int) := by
  refine byte_all (P := fun c => bits .and .u8 (c.toNat : Int) 15 = ((c.toNat % 16 : Nat) : Int)) ?_ c
  decide +kernel
theorem ctl_all : ∀ i : Fin 256, (i.val < 32 ∨ i.val = 127) → ((⟨#[92, 117, 48, 48]⟩ ++ hexS.extract (i.val / 16) (i.val / 16 + 1)) ++ hexS.extract (i.val % 16) (i.val % 16 + 1)).data.toList = [92, 117, 48, 48, hexD (i.val / 16), hexD (i.val % 16)] := by decide +kernel
theorem ctl_str {c : UInt8} (hsp : ¬(c = 39 ∨ c = 92 ∨ c = 10 ∨ c = 9 ∨ c = 13)) (hct : c.toNat < 32 ∨ c.toNat = 127) :
    ((⟨#[92, 117, 48, 48]⟩ ++ hexS.extract (c.toNat / 16) (c.toNat / 16 + 1)) ++ hexS.extract (c.toNat % 16) (c.toNat % 16 + 1)).data.toList = escB c := by
  rw [ctl_all ⟨c.toNat, c.toNat_lt⟩ hct]
  simp only [not_or] at hsp
  unfold escB
  rw [if_neg hsp.1, if_neg hsp.2.1, if_neg hsp.2.2.1, if_neg hsp.2.2.2.1, if_neg hsp.2.2.2.2, if_pos hct]
/-- What Quote has told behind j bytes. -/
def quoA (L : List UInt8) (j : Nat) : List UInt8 := 39 :: (L.take j).flatMap escB
theorem quoA_succ (L : List UInt8) (j : Nat) (h : j < L.length) : quoA L (j + 1) = quoA L j ++ escB L[j] := by
  unfold quoA
  rw [List.take_succ_eq_append_getElem h, List.flatMap_append, List.flatMap_singleton]
  rfl
theorem quoA_len (L : List UInt8) (j : Nat) : (quoA L j).length ≤ 6 * L.length + 1 := by
  have := (flatEsc_len (L.take j)).2
  have h2 : (L.take j).length ≤ L.length := by simp; omega
  simp only [quoA, List.length_cons]; omega
/-- Bytes in a block that another step keeps. -/
theorem Blk.kept {V V' : World} {g : Nat} {l : List UInt8} (h : Blk V g l) (hk : V'.heap[g]? = V.heap[g]?) : Blk V' g l :=
  ⟨fun i c hc => (World.cell?_of_block (a := ⟨g, i, none⟩) hk).trans (h.cell i c hc), fun i hi => (World.frozen?_of_block (a := ⟨g, i, none⟩) hk).trans (h.fr i hi)⟩

set_option maxRecDepth 100000 in
set_option maxHeartbeats 4000000 in
theorem quote_any {n₀ : Nat} (s : ByteArray) (w : World) (hs : s.size ≤ 1048576) (hE : Env n₀ w) :
    Calls Tryz.prog 80 #[.string s] w fun e w' => e = .returned (.string ⟨(quoteL s.data.toList).toArray⟩) ∧ Below w.heap.size w w' := by
  have hV := valid_any s w (by omega) hE
  have hI : ∀ (c : UInt8) w, Calls Tryz.prog 36 #[.string ⟨#[39, 92, 10, 9, 13]⟩, .int .u8 c.toNat] w fun e w' => e = .returned (.int .i64 (indexByte [39, 92, 10, 9, 13] c)) ∧ w = w' := fun c w =>
    (Tryz.strings_IndexByte _ _ w).mono fun e w' h => ⟨by rw [h.1, u8_back], h.2.symm⟩
  have HI := Lib.hid hI
  clear hI
  cases hv : validD s.data.toList with
  | false =>
    rw [hv] at hV
    have HA : Hid ((⟨#[]⟩ : ByteArray) = ⟨(quoteL s.data.toList).toArray⟩) := Lib.hid (by unfold quoteL; rw [hv]; rfl)
    have HV := Lib.hid hV
    clear hV hv hE
    go_enter Tryz.func80, Tryz.ntmps80
    go_wp2_with (go_at_call 35; refine HV.out.mono ?_; rintro e w1 ⟨rfl, hb⟩)
    go_ret
    exact ⟨retS HA.out, hb⟩
  | true =>
    rw [hv] at hV
    have hq : quoteL s.data.toList = quoA s.data.toList s.data.toList.length ++ [39] := by
      unfold quoteL quoA
      rw [hv, if_pos rfl, List.take_length]
      rfl
    have hcv := fun w => Lib.run_convert_string_bytes (P := Tryz.prog) w 9 43 5 s (u := .string) Tryz.underlying9 Tryz.underlying43 Tryz.underlying5
    obtain ⟨L, hL⟩ : ∃ L, s.data.toList = L := ⟨_, rfl⟩
    have hLn : L.length = s.size := by rw [← hL, sz]
    rw [hL] at hq ⊢
    have HV := Lib.hid hV
    have HQ := Lib.hid hq
    clear hV hv hq hE
    generalize quoteL L = ANS at *
    go_enter Tryz.func80, Tryz.ntmps80
    go_wp2_with (first
      | (go_at_call 35; refine HV.out.mono ?_; rintro e w1 ⟨rfl, hb⟩)
      | (go_at_call 49; refine (wbyte_any w1.heap.size [] 39 _ (Bld.new w1) (by simp)).mono ?_; rintro e w2 ⟨rfl, hbld, hb2⟩))
    have hbl : Below w.heap.size w (bytesWorld w2 5 s) := ((hb.trans ((ballocR w1 _).mono hb.size)).trans (hb2.mono hb.size)).trans ((bytesWorld_below w2 5 s).mono (by have := hb.size; have := hb2.size; simp at this; omega))
    have hG : BldG (bytesWorld w2 5 s) w1.heap.size w2.heap.size (quoA L 0) := BldG.new hbld (bytesWorld_below w2 5 s) (Array.getElem?_eq_some_iff.1 (bytesWorld_at_new w2 5 s)).1
    have hK : Blk (bytesWorld w2 5 s) w2.heap.size L := by rw [← hL]; exact Blk.new w2 s
    have hwb : w.heap.size ≤ w1.heap.size := hb.size
    generalize grownCap w2 s.size 0 5 = cap at *
    generalize bytesWorld w2 5 s = V at *
    obtain ⟨b, hbb⟩ : ∃ b, w1.heap.size = b := ⟨_, rfl⟩
    obtain ⟨g, hgg⟩ : ∃ g, w2.heap.size = g := ⟨_, rfl⟩
    rw [hbb] at hG hwb ⊢
    rw [hgg] at hG hK ⊢
    have HBL := Lib.hid hbl
    have HG := Lib.hid hG
    have HK := Lib.hid hK
    clear hbl hG hK hbld hb2 hb hbb hgg hcv HV hL
    go_loopg [14] s.size (fun gk v wr => ∃ j : Nat, gk = s.size - j ∧ v = .int .i64 j ∧ j ≤ s.size ∧ BldG wr b g (quoA L j) ∧ Blk wr g L ∧ Below w.heap.size w wr)
    case atStart => exact ⟨0, rfl, rfl, by omega, HG.out, HK.out, HBL.out⟩
    case round =>
      obtain ⟨j, rfl, rfl, hj, hB, hK, hbl⟩ := hrel
      clear HG HK HBL
      have HB := Lib.hid hB
      have HK := Lib.hid hK
      have HBL := Lib.hid hbl
      clear hB hK hbl
      rcases Nat.lt_or_ge j s.size with hlt | hge
      · have hjL : j < L.length := by omega
        have hc := HK.out.cell j _ (List.getElem?_eq_getElem hjL)
        have hql := quoA_len L j
        have hsu := quoA_succ L j hjL
        have hidx := esc_idx L[j]
        generalize L[j] = c at *
        have hend : ∀ W, BldG W b g (quoA L (j + 1)) → Below b wr W → W.heap[g]? = wr.heap[g]? → ∃ j' : Nat, s.size - (j + 1) = s.size - j' ∧ Value.int .i64 ((j : Int) + 1) = .int .i64 (j' : Int) ∧ j' ≤ s.size ∧ BldG W b g (quoA L j') ∧ Blk W g L ∧ Below w.heap.size w W :=
          fun W h1 h2 h3 => ⟨j + 1, rfl, rfl, hlt, h1, HK.out.kept h3, HBL.out.trans (h2.mono hwb)⟩
        have HEND := Lib.hid hend
        clear hend
        have hWS : ∀ x : ByteArray, x.data.toList = escB c → Calls Tryz.prog 50 #[.pointer (some ⟨b, 0, none⟩), .string x] wr fun e w' => e = .returned (.tuple #[.int .i64 x.size, .nilIface]) ∧ BldG w' b g (quoA L (j + 1)) ∧ Below b wr w' ∧ w'.heap[g]? = wr.heap[g]? := fun x hx => by
          have h1 := escB_len c
          rw [← hx, sz] at h1
          have := wstringG_any b g (quoA L j) x wr HB.out (by omega) (by omega)
          rw [hx, ← hsu] at this
          exact this
        have HWS := Lib.hid hWS
        clear hWS
        have HWD : Hid (∀ x : ByteArray, x.data.toList = escB c → Calls Tryz.prog 50 #[.pointer (some ⟨b, 0, none⟩), .string x] wr.drew fun e w' => e = .returned (.tuple #[.int .i64 x.size, .nilIface]) ∧ BldG w' b g (quoA L (j + 1)) ∧ Below b wr w' ∧ w'.heap[g]? = wr.heap[g]?) := Lib.hid fun x hx => by
          have h1 := escB_len c
          rw [← hx, sz] at h1
          have := wstringG_any b g (quoA L j) x wr.drew HB.out (by omega) (by omega)
          rw [hx, ← hsu] at this
          exact this.mono fun e w' h => ⟨h.1, h.2.1, ((Below.refl b wr).drew).trans h.2.2.1, h.2.2.2⟩
        by_cases hsp : c = 39 ∨ c = 92 ∨ c = 10 ∨ c = 9 ∨ c = 13
        · rcases hsp with rfl | rfl | rfl | rfl | rfl
          · have e0 : indexByte [39, 92, 10, 9, 13] 39 = 0 := by decide
            have HI2 := Lib.hid (HI.out 39)
            have HW2 := Lib.hid (HWS.out ⟨#[92, 39]⟩ (by decide))
            clear HI HWS HWD hidx hsu
            go_wp2_with (first | (go_at_call 36; refine (HI2.out _).mono ?_; rintro e w' ⟨rfl, rfl⟩) | (go_at_call 50; refine HW2.out.mono ?_; rintro e w3 ⟨rfl, h1, h2, h3⟩))
            go_roundg (s.size - (j + 1))
            case measure => omega
            case rel => exact HEND.out _ h1 h2 h3
          · have e0 : indexByte [39, 92, 10, 9, 13] 92 = 1 := by decide
            have HI2 := Lib.hid (HI.out 92)
            have HW2 := Lib.hid (HWS.out ⟨#[92, 92]⟩ (by decide))
            clear HI HWS HWD hidx hsu
            go_wp2_with (first | (go_at_call 36; refine (HI2.out _).mono ?_; rintro e w' ⟨rfl, rfl⟩) | (go_at_call 50; refine HW2.out.mono ?_; rintro e w3 ⟨rfl, h1, h2, h3⟩))
            go_roundg (s.size - (j + 1))
            case measure => omega
            case rel => exact HEND.out _ h1 h2 h3
          · have e0 : indexByte [39, 92, 10, 9, 13] 10 = 2 := by decide
            have HI2 := Lib.hid (HI.out 10)
            have HW2 := Lib.hid (HWS.out ⟨#[92, 110]⟩ (by decide))
            clear HI HWS HWD hidx hsu
            go_wp2_with (first | (go_at_call 36; refine (HI2.out _).mono ?_; rintro e w' ⟨rfl, rfl⟩) | (go_at_call 50; refine HW2.out.mono ?_; rintro e w3 ⟨rfl, h1, h2, h3⟩))
            go_roundg (s.size - (j + 1))
            case measure => omega
            case rel => exact HEND.out _ h1 h2 h3
          · have e0 : indexByte [39, 92, 10, 9, 13] 9 = 3 := by decide
            have HI2 := Lib.hid (HI.out 9)
            have HW2 := Lib.hid (HWS.out ⟨#[92, 116]⟩ (by decide))
            clear HI HWS HWD hidx hsu
            go_wp2_with (first | (go_at_call 36; refine (HI2.out _).mono ?_; rintro e w' ⟨rfl, rfl⟩) | (go_at_call 50; refine HW2.out.mono ?_; rintro e w3 ⟨rfl, h1, h2, h3⟩))
            go_roundg (s.size - (j + 1))
            case measure => omega
            case rel => exact HEND.out _ h1 h2 h3
          · have e0 : indexByte [39, 92, 10, 9, 13] 13 = 4 := by decide
            have HI2 := Lib.hid (HI.out 13)
            have HW2 := Lib.hid (HWS.out ⟨#[92, 114]⟩ (by decide))
            clear HI HWS HWD hidx hsu
            go_wp2_with (first | (go_at_call 36; refine (HI2.out _).mono ?_; rintro e w' ⟨rfl, rfl⟩) | (go_at_call 50; refine HW2.out.mono ?_; rintro e w3 ⟨rfl, h1, h2, h3⟩))
            go_roundg (s.size - (j + 1))
            case measure => omega
            case rel => exact HEND.out _ h1 h2 h3
        · have hno : indexByte [39, 92, 10, 9, 13] c = -1 := by
            rw [hidx]
            simp only [not_or] at hsp
            rw [if_neg hsp.1, if_neg hsp.2.1, if_neg hsp.2.2.1, if_neg hsp.2.2.2.1, if_neg hsp.2.2.2.2]
          have HI2 := HI.out c
          rw [hno] at HI2
          have HI2 := Lib.hid HI2
          by_cases hct : c.toNat < 32 ∨ c.toNat = 127
          · have hlt := c.toNat_lt
            have HW2 := Lib.hid (HWD.out _ (ctl_str hsp hct))
            obtain ⟨hi, hhi⟩ : ∃ hi, c.toNat / 16 = hi := ⟨_, rfl⟩
            obtain ⟨lo, hlo⟩ : ∃ lo, c.toNat % 16 = lo := ⟨_, rfl⟩
            have hi1 : hi ≤ 15 := by omega
            have lo1 : lo ≤ 15 := by omega
            have x1 := low4 c
            have x2 : (c.toNat : Int) / 16 = (hi : Int) := by omega
            have x3 : (c.toNat : Int) / 2 ^ Int.toNat 4 = (hi : Int) := x2
            rw [hlo] at x1
            rw [hlo, hhi] at HW2
            unfold hexS at HW2
            clear HI HWS HWD hidx hsu hno hlo hhi hsp hlt
            have y1 : IntKind.u8.wrap ((hi : Int) + 1) = (hi : Int) + 1 := IntWalk.u8_in _ (by omega)
            have y2 : IntKind.u8.wrap ((lo : Int) + 1) = (lo : Int) + 1 := IntWalk.u8_in _ (by omega)
            have y3 : ((hi : Int) + 1).toNat = hi + 1 := by omega
            have y4 : ((lo : Int) + 1).toNat = lo + 1 := by omega
            have y5 : (0 : Int) ≤ (hi : Int) + 1 := by omega
            have y6 : (0 : Int) ≤ (lo : Int) + 1 := by omega
            have y7 : (hi : Int) ≤ (hi : Int) + 1 := by omega
            have y8 : (lo : Int) ≤ (lo : Int) + 1 := by omega
            have y9 : (hi : Int) + 1 ≤ 16 := by omega
            have y10 : (lo : Int) + 1 ≤ 16 := by omega
            rcases Nat.lt_or_ge c.toNat 32 with h32 | h32
            · clear hct
              go_wp2_with (first | (go_at_call 36; refine (HI2.out _).mono ?_; rintro e w' ⟨rfl, rfl⟩))
              go_region_with (go_at_call 50; refine HW2.out.mono ?_; rintro e w3 ⟨rfl, h1, h2, h3⟩)
              clear x1 x2 x3 y1 y2 y3 y4 y5 y6 y7 y8 y9 y10
              all_goals
                go_wp2_with fail
                go_roundg (s.size - (j + 1))
                case measure => omega
                case rel => exact HEND.out _ h1 h2 h3
            · have h127 : ((c.toNat : Int) == 127) = true := by simp; omega
              clear hct
              go_wp2_with (first | (go_at_call 36; refine (HI2.out _).mono ?_; rintro e w' ⟨rfl, rfl⟩))
              go_region_with (go_at_call 50; refine HW2.out.mono ?_; rintro e w3 ⟨rfl, h1, h2, h3⟩)
              clear x1 x2 x3 y1 y2 y3 y4 y5 y6 y7 y8 y9 y10
              all_goals
                go_wp2_with fail
                go_roundg (s.size - (j + 1))
                case measure => omega
                case rel => exact HEND.out _ h1 h2 h3
          · have HES : Hid (escB c = [c]) := Lib.hid (by
              simp only [not_or] at hsp
              unfold escB
              rw [if_neg hsp.1, if_neg hsp.2.1, if_neg hsp.2.2.1, if_neg hsp.2.2.2.1, if_neg hsp.2.2.2.2, if_neg hct])
            have hW := wbyteG_any b g (quoA L j) c wr HB.out (by omega)
            rw [← HES.out, ← hsu] at hW
            have HW := Lib.hid hW
            have h32 : 32 ≤ c.toNat := by omega
            have h127 : ((c.toNat : Int) == 127) = false := by simp; omega
            clear HI HWS HWD hidx hsu hno hW hsp hct
            go_wp2_with (first | (go_at_call 36; refine (HI2.out _).mono ?_; rintro e w' ⟨rfl, rfl⟩) | (go_at_call 49; refine HW.out.mono ?_; rintro e w3 ⟨rfl, h1, h2, h3⟩))
            go_roundg (s.size - (j + 1))
            case measure => omega
            case rel => exact HEND.out _ h1 h2 h3
      · obtain rfl : j = s.size := by omega
        have hW := wbyteG_any b g (quoA L s.size) 39 wr HB.out (by have := quoA_len L s.size; omega)
        rw [← hLn, ← HQ.out] at hW
        have HW := Lib.hid hW
        clear hW
        go_wp2_with (first
          | (go_at_call 49; refine HW.out.mono ?_; rintro e w3 ⟨rfl, h1, h2, h3⟩; have hS := bstring_any b ANS w3 h1.bld; have HS := Lib.hid hS; clear hS h1 h3)
          | (go_at_call 53; refine HS.out.mono ?_; rintro e w4 ⟨rfl, h4⟩))
        go_ret
        exact ⟨rfl, (HBL.out.trans (h2.mono hwb)).trans (h4.mono hwb)⟩
end Go.Proofs.YtimhhacfjgbomaaGreatDoor
namespace Go.Proofs.YtimhhacfjgbomaaGreatDoor
set_option linter.unusedSimpArgs false
set_option linter.unusedVariables false
open Go.RowKit Go.Shelf Go.Lib Go.Sort

theorem holds_zero0 (w : World) (T : TypeId) (nd : Nat) (hs : nd ≤ 24) : Holds (fun (b : UInt8) => Value.int .u8 (b.toNat : Int)) (w.alloc (.cells zeros24 T)) w.heap.size 0 (Array.replicate nd (0 : UInt8)) := fun j hj => by
  have hj' : j < nd := by simpa using hj
  refine ⟨?_, World.frozen?_alloc_new _ _ _ _⟩
  rw [World.cell?_alloc_new, zeros24_at _ (by omega), getElem!_pos _ j hj]
  simp
theorem fin_zero (w : World) (o : Obj) (dk : Array UInt8) (k : Nat) : Below w.heap.size w ((putRow (fun (b : UInt8) => Value.int .u8 (b.toNat : Int)) (w.alloc o) w.heap.size 0 dk).drewN k) := by
  rw [alloc_eq_grow]
  obtain ⟨os', _, e⟩ := putRow_grow_new (fun (b : UInt8) => Value.int .u8 (b.toNat : Int)) w #[o] w.heap.size 0 dk (Nat.le_refl _)
  rw [e]
  exact below_grow w.heap.size w (Nat.le_refl _) k os'

set_option maxHeartbeats 6400000 in
set_option maxRecDepth 100000 in
theorem ifmt_any {n₀ : Nat} (u : Nat) (hu : u < 18446744073709551616) (w : World) (hE : Env n₀ w) :
    Calls Tryz.prog 94 #[.int .u64 u, .int .i64 10] w fun e w' => e = .returned (.string ⟨(decDigits u).toArray⟩) ∧ Below w.heap.size w w' := by
  by_cases hs : u < 100
  · have H1 := Lib.hid (Tryz.internal_strconv_small u hs)
    have hlt : (u : Int) < 100 := by omega
    clear hE
    go_enter Tryz.func94, Tryz.ntmps94
    go_wp2_with (go_at_call 107; refine (H1.out _).mono ?_; rintro e w' ⟨rfl, rfl⟩)
    go_ret
    exact ⟨rfl, Below.refl _ _⟩
  · have hu1 : 1 ≤ u := by omega
    have hge : ¬ (u : Int) < 100 := by omega
    have hnd20 : nDigits u ≤ 20 := by have := numDigits_eq u hu1 hu; split at this <;> omega
    have hal : Tryz.prog.arrayLen 127 = 24 := by kernel_rfl
    have hsl : ∀ W, (Instr.sliceAt 127 (.pointer (some ⟨w.heap.size, 0, none⟩)) none (some (.int .i64 (nDigits u : Int))) none).run Tryz.prog W = .ok (.slice (some ⟨w.heap.size, 0, none⟩) (nDigits u) 24) W := fun W => by
      rw [run_sliceAt_array_h W 127 ⟨w.heap.size, 0, none⟩ (by kernel_rfl) .i64 (nDigits u : Int) (by omega) (by rw [hal]; omega)]
      go_simp
    have hH0 := holds_zero0 w 127 (nDigits u) (by omega)
    have hfmt := Tryz.internal_strconv_formatBase10 w.heap.size 0 24 u (Array.replicate (nDigits u) 0) (w.alloc (.cells zeros24 127)) hH0 (by rw [Array.size_replicate]; exact lt_pow_nDigits u) hu (by rw [Array.size_replicate]; omega)
    rw [Array.size_replicate] at hfmt
    have hnum := Tryz.internal_strconv_numDigits u hu1 hu (w.alloc (.cells zeros24 127)) (tabIs_alloc hE.pow10 _)
    have HH0 := Lib.hid hH0
    have HF := Lib.hid hfmt
    have HN := Lib.hid hnum
    clear hH0 hal hfmt hnum hE
    go_enter Tryz.func94, Tryz.ntmps94
    go_wp2_with (first | (go_at_call 108; refine HN.out.mono ?_; rintro e w' ⟨rfl, rfl⟩))
    refine HF.out.mono ?_
    rintro e w' ⟨rfl, k, v', dk, rfl, hF⟩
    have hcv : (convert 43 9 (.slice (some ⟨w.heap.size, 0, none⟩) (nDigits u) 24)).run Tryz.prog ((putRow (fun (b : UInt8) => Value.int .u8 (b.toNat : Int)) (w.alloc (.cells zeros24 127)) w.heap.size 0 dk).drewN k) = .ok (.string ⟨(decDigits u).toArray⟩) ((putRow (fun (b : UInt8) => Value.int .u8 (b.toNat : Int)) (w.alloc (.cells zeros24 127)) w.heap.size 0 dk).drewN k) := by
      have h := run_convert_bytes_back (P := Tryz.prog) ((putRow (fun (b : UInt8) => Value.int .u8 (b.toNat : Int)) (w.alloc (.cells zeros24 127)) w.heap.size 0 dk).drewN k) 43 9 5 ⟨w.heap.size, 0, none⟩ 24 (decDigits u) Tryz.underlying43 Tryz.underlying5 Tryz.underlying9 (fun j hj => by
        rw [row_is_numeral hF j hj, add_plain, World.cell?_drewN]
        exact cell?_putRow (fun (b : UInt8) => Value.int .u8 (b.toNat : Int)) _ w.heap.size 0 _ dk HH0.out (by rw [hF.size, Array.size_replicate]) j (by rw [hF.size]; rw [decDigits_length] at hj; exact hj))
      rw [decDigits_length] at h
      exact h
    have HB := Lib.hid (fin_zero w (.cells zeros24 127) dk k)
    go_wp2_with fail
    go_ret
    exact ⟨rfl, HB.out⟩
set_option maxHeartbeats 1000000 in
theorem fmt_any {n₀ : Nat} (u : Nat) (hu : u < 18446744073709551616) (w : World) (hE : Env n₀ w) :
    Calls Tryz.prog 77 #[.int .u64 u, .int .i64 10] w fun e w' => e = .returned (.string ⟨(decDigits u).toArray⟩) ∧ Below w.heap.size w w' := by
  have H := Lib.hid (ifmt_any u hu w hE)
  clear hE
  go_enter Tryz.func77, Tryz.ntmps77
  go_wp2_with (go_at_call 94; refine H.out.mono ?_; rintro e w' ⟨rfl, hb⟩)
  go_ret
  exact ⟨rfl, hb⟩

set_option maxHeartbeats 4000000 in
set_option maxRecDepth 100000 in
theorem tell_any {n₀ : Nat} (g : Gw) (w : World) (ht : g.t.size ≤ 1048576) (hn : g.n < 18446744073709551616) (hE : Env n₀ w) :
    Calls Tryz.prog 51 #[.agg #[.int .i64 g.k, .int .i64 g.p, .string g.t, .int .u64 g.n]] w fun e w' => e = .returned (.string ⟨g.tell.toArray⟩) ∧ Below w.heap.size w w' := by
  obtain ⟨k, p, t, n⟩ := g
  simp only at ht hn ⊢
  obtain ⟨c0, c1, c2, c3⟩ := Box4.cells (k := k) (p := p) (t := t) (n := n) (new_at w (.cells #[.int .i64 k, .int .i64 p, .string t, .int .u64 n] 33))
  have hb0 := ballocR w (.cells #[.int .i64 k, .int .i64 p, .string t, .int .u64 n] 33)
  have hE0 := hE.below hb0
  have hA : Gw.tell ⟨k, p, t, n⟩ = if k = 2 then betweenL t.data.toList else if k = 3 then quoteL t.data.toList else if k = 4 then decDigits n else t.data.toList := rfl
  generalize Gw.tell ⟨k, p, t, n⟩ = ANS at *
  by_cases h2 : k = 2
  · subst h2
    rw [if_pos rfl] at hA
    subst hA
    have H := Lib.hid (between_any t _ ht hE0)
    clear hE hE0
    go_enter Tryz.func51, Tryz.ntmps51
    go_wp2_with (go_at_call 42; refine H.out.mono ?_; rintro e w' ⟨rfl, hb⟩)
    go_ret
    exact ⟨rfl, hb0.trans (hb.mono hb0.size)⟩
  · rw [if_neg h2] at hA
    have t2 : (k == 2) = false := by simpa using h2
    by_cases h3 : k = 3
    · subst h3
      rw [if_pos rfl] at hA
      subst hA
      have H := Lib.hid (quote_any t _ ht hE0)
      clear hE hE0
      go_enter Tryz.func51, Tryz.ntmps51
      go_wp2_with (go_at_call 80; refine H.out.mono ?_; rintro e w' ⟨rfl, hb⟩)
      go_ret
      exact ⟨rfl, hb0.trans (hb.mono hb0.size)⟩
    · rw [if_neg h3] at hA
      have t3 : (k == 3) = false := by simpa using h3
      by_cases h4 : k = 4
      · subst h4
        rw [if_pos rfl] at hA
        subst hA
        have H := Lib.hid (fmt_any n hn _ hE0)
        clear hE hE0
        go_enter Tryz.func51, Tryz.ntmps51
        go_wp2_with (go_at_call 77; refine H.out.mono ?_; rintro e w' ⟨rfl, hb⟩)
        go_ret
        exact ⟨rfl, hb0.trans (hb.mono hb0.size)⟩
      · rw [if_neg h4] at hA
        have t4 : (k == 4) = false := by simpa using h4
        have HA := Lib.hid hA
        clear hE hE0 hA
        go_enter Tryz.func51, Tryz.ntmps51
        go_wp2_with fail
        go_ret
        exact ⟨retS (ba_ext HA.out.symm), hb0⟩
end Go.Proofs.YtimhhacfjgbomaaGreatDoor
