/-
  THE WALK of the document's Quote: a text between quotes.
-/
import Derived.Test.YtimhhacfjgbomaaGreatDoorRacc
import Derived.Deep.RegionLaw
import Derived.Deep.AppendLies
import Derived.IntWalk
namespace Go.Proofs.YtimhhacfjgbomaaGreatDoor
set_option linter.unusedSimpArgs false
set_option linter.unusedVariables false
open Go.RowKit Go.Shelf

theorem hex_all : ∀ k : Fin 16, (⟨#[48, 49, 50, 51, 52, 53, 54, 55, 56, 57, 97, 98, 99, 100, 101, 102]⟩ : ByteArray)[k.val]'k.isLt = hexD k.val := by decide +kernel
theorem hex_index (i : Nat) (h : i ≤ 15) (w : World) : (Instr.index 9 (.string ⟨#[48, 49, 50, 51, 52, 53, 54, 55, 56, 57, 97, 98, 99, 100, 101, 102]⟩) (.int .u8 i)).run Tryz.prog w = .ok (.int .u8 (hexD i).toNat) w := by
  rw [run_index_string w _ _ _ _ Tryz.underlying9, dif_pos ⟨by omega, by show (i : Int) < 16; omega⟩]
  have := hex_all ⟨i, by omega⟩
  simp only at this
  rw [← this]
  rfl

set_option maxRecDepth 100000 in
set_option maxHeartbeats 8000000 in
theorem rquote_any (s : ByteArray) (w : World) (hs : s.size ≤ 1048576) :
    Calls Tryz.prog 76 #[.string s] w fun e w' => e = .returned (.string ⟨(39 :: (s.data.toList.flatMap escB ++ [39])).toArray⟩) ∧ Below w.heap.size w w' := by
  obtain ⟨i0, hinf, hz0, hz1, hz2⟩ := info_parts info_u8
  have hend : (39 : UInt8) :: (s.data.toList.flatMap escB ++ [39]) = quoA s.data.toList s.size ++ [39] := by
    unfold quoA; rw [List.take_of_length_le (by rw [sz]; exact Nat.le_refl _)]; rfl
  rw [hend]
  clear hend
  go_enter Tryz.func76, Tryz.ntmps76
  go_upto_region 3 with (fail)
  have hA0 : Acc w (quoA s.data.toList 0) (.slice (some ⟨w.heap.size, 0, none⟩) 1 1) (w.alloc (.cells #[.int .u8 39] 5)) :=
    ⟨World.ownsRow_lit w #[.int .u8 39] 1 (Nat.le_refl _) (by decide) rfl, ballocR w _⟩
  have HA0 := Lib.hid hA0
  clear hA0
  generalize w.alloc (.cells #[.int .u8 39] 5) = V at *
  go_wp2_with fail
  go_loopg [4, 5] s.size (fun gk v u wr => ∃ j : Nat, gk = s.size - j ∧ u = .int .i64 j ∧ j ≤ s.size ∧ Acc w (quoA s.data.toList j) v wr)
  case atStart => exact ⟨0, rfl, rfl, by omega, HA0.out⟩
  case round =>
    obtain ⟨j, rfl, rfl, hj, hA⟩ := hrel
    have HA := Lib.hid hA
    have hql := quoA_len s.data.toList j
    rw [sz] at hql
    clear hA HA0
    obtain ⟨av, cv, rfl⟩ := owns_form HA.out.own
    by_cases hlt : j < s.size
    · have HS : Hid (quoA s.data.toList (j + 1) = quoA s.data.toList j ++ escB s[j]) := Lib.hid (by rw [quoA_succ _ _ (by rw [sz]; exact hlt), get_list hlt])
      by_cases c39 : s[j] = 39
      · have HES : Hid (escB s[j] = [92, s[j]]) := Lib.hid (by rw [c39]; decide)
        have hz : ((s[j].toNat : Int) == 39) = true := by rw [c39]; rfl
        clear c39
        have C3 : Hid ((quoA s.data.toList j).length + 2 ≤ maxLen) := by unfold Hid maxLen; omega
        have C4 : Hid (((quoA s.data.toList j).length + 2) * 1 ≤ 140737488355328) := by unfold Hid; omega
        have C5 : Hid (w.heap.size ≤ (wr.alloc (.cells #[.int .u8 92, .int .u8 s[j].toNat] 5)).heap.size) := Lib.hid (HA.out.room _)
        go_wp2_with (at_builtin; refine wpList_append_own _ rfl _ _ 43 rfl w.heap.size 5 i0 (.int .u8 0) 1 1 Tryz.underlying43 hinf hz0 hz1 hz2 rfl (by decide) _ _ _ rfl (HA.out.own.alloc _) ⟨wr.heap.size, 0, none⟩ 2 2 [.int .u8 92, .int .u8 s[j].toNat] rfl rfl (cells_new wr [.int .u8 92, .int .u8 s[j].toNat] 5) (all_int (l := [92, (s[j].toNat : Int)]) (k := .u8)) C3.out C4.out C5.out ?_; intro v' w2 hown' hgrow _; obtain ⟨a2, c2, rfl⟩ := owns_form hown'; have HNX := Lib.hid (HA.out.more (l' := [92, s[j]]) (ballocR wr _) hgrow hown' (by simp) (by simp [Lib.byteCells])); clear hown' hgrow)
        go_roundg (s.size - (j + 1))
        case measure => omega
        case rel => exact ⟨j + 1, rfl, rfl, hlt, by rw [HS.out, HES.out]; exact HNX.out⟩
      · have n39 : ((s[j].toNat : Int) == 39) = false := by
          have : s[j].toNat ≠ 39 := fun e => c39 (UInt8.toNat_inj.1 (by rw [e]; rfl))
          simp; omega
        by_cases c92 : s[j] = 92
        · have HES : Hid (escB s[j] = [92, s[j]]) := Lib.hid (by rw [c92]; decide)
          have hz : ((s[j].toNat : Int) == 92) = true := by rw [c92]; rfl
          clear c92 c39
          have C3 : Hid ((quoA s.data.toList j).length + 2 ≤ maxLen) := by unfold Hid maxLen; omega
          have C4 : Hid (((quoA s.data.toList j).length + 2) * 1 ≤ 140737488355328) := by unfold Hid; omega
          have C5 : Hid (w.heap.size ≤ (wr.alloc (.cells #[.int .u8 92, .int .u8 s[j].toNat] 5)).heap.size) := Lib.hid (HA.out.room _)
          go_wp2_with (at_builtin; refine wpList_append_own _ rfl _ _ 43 rfl w.heap.size 5 i0 (.int .u8 0) 1 1 Tryz.underlying43 hinf hz0 hz1 hz2 rfl (by decide) _ _ _ rfl (HA.out.own.alloc _) ⟨wr.heap.size, 0, none⟩ 2 2 [.int .u8 92, .int .u8 s[j].toNat] rfl rfl (cells_new wr [.int .u8 92, .int .u8 s[j].toNat] 5) (all_int (l := [92, (s[j].toNat : Int)]) (k := .u8)) C3.out C4.out C5.out ?_; intro v' w2 hown' hgrow _; obtain ⟨a2, c2, rfl⟩ := owns_form hown'; have HNX := Lib.hid (HA.out.more (l' := [92, s[j]]) (ballocR wr _) hgrow hown' (by simp) (by simp [Lib.byteCells])); clear hown' hgrow)
          go_roundg (s.size - (j + 1))
          case measure => omega
          case rel => exact ⟨j + 1, rfl, rfl, hlt, by rw [HS.out, HES.out]; exact HNX.out⟩
        · have n92 : ((s[j].toNat : Int) == 92) = false := by
            have : s[j].toNat ≠ 92 := fun e => c92 (UInt8.toNat_inj.1 (by rw [e]; rfl))
            simp; omega
          by_cases c10 : s[j] = 10
          · have HES : Hid (escB s[j] = [92, 110]) := Lib.hid (by rw [c10]; decide)
            have hz : ((s[j].toNat : Int) == 10) = true := by rw [c10]; rfl
            clear c39 c92 c10
            have C3 : Hid ((quoA s.data.toList j).length + 2 ≤ maxLen) := by unfold Hid maxLen; omega
            have C4 : Hid (((quoA s.data.toList j).length + 2) * 1 ≤ 140737488355328) := by unfold Hid; omega
            have C5 : Hid (w.heap.size ≤ (wr.alloc (.cells #[.int .u8 92, .int .u8 110] 5)).heap.size) := Lib.hid (HA.out.room _)
            go_wp2_with (at_builtin; refine wpList_append_own _ rfl _ _ 43 rfl w.heap.size 5 i0 (.int .u8 0) 1 1 Tryz.underlying43 hinf hz0 hz1 hz2 rfl (by decide) _ _ _ rfl (HA.out.own.alloc _) ⟨wr.heap.size, 0, none⟩ 2 2 [.int .u8 92, .int .u8 110] rfl rfl (cells_new wr [.int .u8 92, .int .u8 110] 5) (all_int (l := [92, 110]) (k := .u8)) C3.out C4.out C5.out ?_; intro v' w2 hown' hgrow _; obtain ⟨a2, c2, rfl⟩ := owns_form hown'; have HNX := Lib.hid (HA.out.more (l' := [92, 110]) (ballocR wr _) hgrow hown' (by simp) (by simp [Lib.byteCells])); clear hown' hgrow)
            go_roundg (s.size - (j + 1))
            case measure => omega
            case rel => exact ⟨j + 1, rfl, rfl, hlt, by rw [HS.out, HES.out]; exact HNX.out⟩
          · have n10 : ((s[j].toNat : Int) == 10) = false := by
              have : s[j].toNat ≠ 10 := fun e => c10 (UInt8.toNat_inj.1 (by rw [e]; rfl))
              simp; omega
            by_cases c9 : s[j] = 9
            · have HES : Hid (escB s[j] = [92, 116]) := Lib.hid (by rw [c9]; decide)
              have hz : ((s[j].toNat : Int) == 9) = true := by rw [c9]; rfl
              clear c39 c92 c10 c9
              have C3 : Hid ((quoA s.data.toList j).length + 2 ≤ maxLen) := by unfold Hid maxLen; omega
              have C4 : Hid (((quoA s.data.toList j).length + 2) * 1 ≤ 140737488355328) := by unfold Hid; omega
              have C5 : Hid (w.heap.size ≤ (wr.alloc (.cells #[.int .u8 92, .int .u8 116] 5)).heap.size) := Lib.hid (HA.out.room _)
              go_wp2_with (at_builtin; refine wpList_append_own _ rfl _ _ 43 rfl w.heap.size 5 i0 (.int .u8 0) 1 1 Tryz.underlying43 hinf hz0 hz1 hz2 rfl (by decide) _ _ _ rfl (HA.out.own.alloc _) ⟨wr.heap.size, 0, none⟩ 2 2 [.int .u8 92, .int .u8 116] rfl rfl (cells_new wr [.int .u8 92, .int .u8 116] 5) (all_int (l := [92, 116]) (k := .u8)) C3.out C4.out C5.out ?_; intro v' w2 hown' hgrow _; obtain ⟨a2, c2, rfl⟩ := owns_form hown'; have HNX := Lib.hid (HA.out.more (l' := [92, 116]) (ballocR wr _) hgrow hown' (by simp) (by simp [Lib.byteCells])); clear hown' hgrow)
              go_roundg (s.size - (j + 1))
              case measure => omega
              case rel => exact ⟨j + 1, rfl, rfl, hlt, by rw [HS.out, HES.out]; exact HNX.out⟩
            · have n9 : ((s[j].toNat : Int) == 9) = false := by
                have : s[j].toNat ≠ 9 := fun e => c9 (UInt8.toNat_inj.1 (by rw [e]; rfl))
                simp; omega
              by_cases c13 : s[j] = 13
              · have HES : Hid (escB s[j] = [92, 114]) := Lib.hid (by rw [c13]; decide)
                have hz : ((s[j].toNat : Int) == 13) = true := by rw [c13]; rfl
                clear c39 c92 c10 c9 c13
                have C3 : Hid ((quoA s.data.toList j).length + 2 ≤ maxLen) := by unfold Hid maxLen; omega
                have C4 : Hid (((quoA s.data.toList j).length + 2) * 1 ≤ 140737488355328) := by unfold Hid; omega
                have C5 : Hid (w.heap.size ≤ (wr.alloc (.cells #[.int .u8 92, .int .u8 114] 5)).heap.size) := Lib.hid (HA.out.room _)
                go_wp2_with (at_builtin; refine wpList_append_own _ rfl _ _ 43 rfl w.heap.size 5 i0 (.int .u8 0) 1 1 Tryz.underlying43 hinf hz0 hz1 hz2 rfl (by decide) _ _ _ rfl (HA.out.own.alloc _) ⟨wr.heap.size, 0, none⟩ 2 2 [.int .u8 92, .int .u8 114] rfl rfl (cells_new wr [.int .u8 92, .int .u8 114] 5) (all_int (l := [92, 114]) (k := .u8)) C3.out C4.out C5.out ?_; intro v' w2 hown' hgrow _; obtain ⟨a2, c2, rfl⟩ := owns_form hown'; have HNX := Lib.hid (HA.out.more (l' := [92, 114]) (ballocR wr _) hgrow hown' (by simp) (by simp [Lib.byteCells])); clear hown' hgrow)
                go_roundg (s.size - (j + 1))
                case measure => omega
                case rel => exact ⟨j + 1, rfl, rfl, hlt, by rw [HS.out, HES.out]; exact HNX.out⟩
              · have n13 : ((s[j].toNat : Int) == 13) = false := by
                  have : s[j].toNat ≠ 13 := fun e => c13 (UInt8.toNat_inj.1 (by rw [e]; rfl))
                  simp; omega
                have hesc : escB s[j] = if s[j].toNat < 32 ∨ s[j].toNat = 127 then [92, 117, 48, 48, hexD (s[j].toNat / 16), hexD (s[j].toNat % 16)] else [s[j]] := by
                  unfold escB
                  rw [if_neg c39, if_neg c92, if_neg c10, if_neg c9, if_neg c13]
                clear c39 c92 c10 c9 c13
                by_cases hct : s[j].toNat < 32 ∨ s[j].toNat = 127
                · rw [if_pos hct] at hesc
                  have HES := Lib.hid hesc
                  have hlt8 := s[j].toNat_lt
                  obtain ⟨hi, hhi⟩ : ∃ hi, s[j].toNat / 16 = hi := ⟨_, rfl⟩
                  obtain ⟨lo, hlo⟩ : ∃ lo, s[j].toNat % 16 = lo := ⟨_, rfl⟩
                  rw [hhi, hlo] at HES
                  have hi1 : hi < 16 := by omega
                  have lo1 : lo < 16 := by omega
                  have x1 : ∀ h, (⟨#[48, 49, 50, 51, 52, 53, 54, 55, 56, 57, 97, 98, 99, 100, 101, 102]⟩ : ByteArray)[hi]'h = hexD hi := fun _ => hex_all ⟨hi, hi1⟩
                  have x2 : ∀ h, (⟨#[48, 49, 50, 51, 52, 53, 54, 55, 56, 57, 97, 98, 99, 100, 101, 102]⟩ : ByteArray)[lo]'h = hexD lo := fun _ => hex_all ⟨lo, lo1⟩
                  have x3 : IntKind.u8.wrap (hi : Int) = (hi : Int) := IntWalk.u8_in _ (by omega)
                  have x4 : IntKind.u8.wrap (lo : Int) = (lo : Int) := IntWalk.u8_in _ (by omega)
                  have x5 : (hi : Int) < 16 := by omega
                  have x6 : (lo : Int) < 16 := by omega
                  have y1 : (s[j].toNat : Int) / 16 = (hi : Int) := by omega
                  have y2 : (s[j].toNat : Int) % 16 = (lo : Int) := by omega
                  have y3 : Int.tdiv (s[j].toNat : Int) 16 = (hi : Int) := by rw [Int.tdiv_eq_ediv_of_nonneg (by omega)]; exact y1
                  have y4 : Int.tmod (s[j].toNat : Int) 16 = (lo : Int) := by rw [Int.tmod_eq_emod_of_nonneg (by omega)]; exact y2
                  clear hesc hhi hlo
                  have C3 : Hid ((quoA s.data.toList j).length + 6 ≤ maxLen) := by unfold Hid maxLen; omega
                  have C4 : Hid (((quoA s.data.toList j).length + 6) * 1 ≤ 140737488355328) := by unfold Hid; omega
                  have HAD : Hid (Acc w (quoA s.data.toList j) (.slice av (quoA s.data.toList j).length cv) wr.drew) := Lib.hid (HA.out.next (Below.refl _ _).drew)
                  have C5 : Hid (w.heap.size ≤ (wr.drew.alloc (.cells #[.int .u8 92, .int .u8 117, .int .u8 48, .int .u8 48, .int .u8 (hexD hi).toNat, .int .u8 (hexD lo).toNat] 5)).heap.size) := Lib.hid (HAD.out.room _)
                  have HNW := Lib.hid (cells_new wr.drew [.int .u8 92, .int .u8 117, .int .u8 48, .int .u8 48, .int .u8 (hexD hi).toNat, .int .u8 (hexD lo).toNat] 5)
                  have HOW := Lib.hid (HAD.out.own.alloc (.cells #[.int .u8 92, .int .u8 117, .int .u8 48, .int .u8 48, .int .u8 (hexD hi).toNat, .int .u8 (hexD lo).toNat] 5))
                  rcases Nat.lt_or_ge s[j].toNat 32 with h32 | h32
                  · have t1 : decide ((s[j].toNat : Int) < 32) = true := by simp; omega
                    go_wp2_with fail
                    go_region_law (refine step_append_lies _ rfl (.tmp 57) (.tmp 66) 43 rfl w.heap.size 5 i0 (.int .u8 0) 1 1 Tryz.underlying43 hinf hz0 hz1 hz2 rfl (by decide) (.slice av (quoA s.data.toList j).length cv) (quoA s.data.toList j).length (Lib.byteCells (quoA s.data.toList j)) (by simp [Act.eval, Act.put]) HOW.out ⟨wr.drew.heap.size, 0, none⟩ 6 6 [.int .u8 92, .int .u8 117, .int .u8 48, .int .u8 48, .int .u8 (hexD hi).toNat, .int .u8 (hexD lo).toNat] (by simp [Act.eval, Act.put]) rfl HNW.out (all_int (l := [92, 117, 48, 48, ((hexD hi).toNat : Int), ((hexD lo).toNat : Int)]) (k := .u8)) (by decide) C3.out C4.out C5.out _ rfl ?_; intro g2 c2 w2 hown' hgrow _ _)
                    all_goals
                      have HNX := Lib.hid (HAD.out.more (l' := [92, 117, 48, 48, hexD hi, hexD lo]) (ballocR wr.drew _) hgrow hown' (by simp) (by simp [Lib.byteCells]))
                      clear hown' hgrow x1 x2 x3 x4 x5 x6 y1 y2 y3 y4
                      go_wp2_with fail
                      go_roundg (s.size - (j + 1))
                      case measure => omega
                      case rel => exact ⟨j + 1, rfl, rfl, hlt, by rw [HS.out, HES.out]; exact HNX.out⟩
                  · have t1 : decide ((s[j].toNat : Int) < 32) = false := by simp; omega
                    have t2 : ((s[j].toNat : Int) == 127) = true := by simp; omega
                    go_wp2_with fail
                    go_region_law (refine step_append_lies _ rfl (.tmp 57) (.tmp 66) 43 rfl w.heap.size 5 i0 (.int .u8 0) 1 1 Tryz.underlying43 hinf hz0 hz1 hz2 rfl (by decide) (.slice av (quoA s.data.toList j).length cv) (quoA s.data.toList j).length (Lib.byteCells (quoA s.data.toList j)) (by simp [Act.eval, Act.put]) HOW.out ⟨wr.drew.heap.size, 0, none⟩ 6 6 [.int .u8 92, .int .u8 117, .int .u8 48, .int .u8 48, .int .u8 (hexD hi).toNat, .int .u8 (hexD lo).toNat] (by simp [Act.eval, Act.put]) rfl HNW.out (all_int (l := [92, 117, 48, 48, ((hexD hi).toNat : Int), ((hexD lo).toNat : Int)]) (k := .u8)) (by decide) C3.out C4.out C5.out _ rfl ?_; intro g2 c2 w2 hown' hgrow _ _)
                    all_goals
                      have HNX := Lib.hid (HAD.out.more (l' := [92, 117, 48, 48, hexD hi, hexD lo]) (ballocR wr.drew _) hgrow hown' (by simp) (by simp [Lib.byteCells]))
                      clear hown' hgrow x1 x2 x3 x4 x5 x6 y1 y2 y3 y4
                      go_wp2_with fail
                      go_roundg (s.size - (j + 1))
                      case measure => omega
                      case rel => exact ⟨j + 1, rfl, rfl, hlt, by rw [HS.out, HES.out]; exact HNX.out⟩
                · rw [if_neg hct] at hesc
                  have HES := Lib.hid hesc
                  have t1 : decide ((s[j].toNat : Int) < 32) = false := by simp; omega
                  have t2 : ((s[j].toNat : Int) == 127) = false := by simp; omega
                  clear hesc hct
                  have C3 : Hid ((quoA s.data.toList j).length + 1 ≤ maxLen) := by unfold Hid maxLen; omega
                  have C4 : Hid (((quoA s.data.toList j).length + 1) * 1 ≤ 140737488355328) := by unfold Hid; omega
                  have C5 : Hid (w.heap.size ≤ (wr.alloc (.cells #[.int .u8 s[j].toNat] 5)).heap.size) := Lib.hid (HA.out.room _)
                  go_wp2_with (at_builtin; refine wpList_append_own _ rfl _ _ 43 rfl w.heap.size 5 i0 (.int .u8 0) 1 1 Tryz.underlying43 hinf hz0 hz1 hz2 rfl (by decide) _ _ _ rfl (HA.out.own.alloc _) ⟨wr.heap.size, 0, none⟩ 1 1 [.int .u8 s[j].toNat] rfl rfl (cells_new wr [.int .u8 s[j].toNat] 5) (all_int (l := [(s[j].toNat : Int)]) (k := .u8)) C3.out C4.out C5.out ?_; intro v' w2 hown' hgrow _; obtain ⟨a2, c2, rfl⟩ := owns_form hown'; have HNX := Lib.hid (HA.out.more (l' := [s[j]]) (ballocR wr _) hgrow hown' (by simp) (by simp [Lib.byteCells])); clear hown' hgrow)
                  go_roundg (s.size - (j + 1))
                  case measure => omega
                  case rel => exact ⟨j + 1, rfl, rfl, hlt, by rw [HS.out, HES.out]; exact HNX.out⟩
    · obtain rfl : j = s.size := by omega
      have C3 : Hid ((quoA s.data.toList s.size).length + 1 ≤ maxLen) := by unfold Hid maxLen; omega
      have C4 : Hid (((quoA s.data.toList s.size).length + 1) * 1 ≤ 140737488355328) := by unfold Hid; omega
      have C5 : Hid (w.heap.size ≤ (wr.alloc (.cells #[.int .u8 39] 5)).heap.size) := Lib.hid (HA.out.room _)
      go_wp2_with (at_builtin; refine wpList_append_own _ rfl _ _ 43 rfl w.heap.size 5 i0 (.int .u8 0) 1 1 Tryz.underlying43 hinf hz0 hz1 hz2 rfl (by decide) _ _ _ rfl (HA.out.own.alloc _) ⟨wr.heap.size, 0, none⟩ 1 1 [.int .u8 39] rfl rfl (cells_new wr [.int .u8 39] 5) (all_int (l := [39]) (k := .u8)) C3.out C4.out C5.out ?_; intro v' w2 hown' hgrow _; obtain ⟨a2, c2, rfl⟩ := owns_form hown'; have HNX := Lib.hid (HA.out.more (l' := [39]) (ballocR wr _) hgrow hown' (by simp) (by simp [Lib.byteCells])); have hcv := HNX.out.str; clear hown' hgrow)
      go_ret
      exact ⟨rfl, HNX.out.bel⟩
end Go.Proofs.YtimhhacfjgbomaaGreatDoor
