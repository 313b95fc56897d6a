/-
  WALKS of strings.Builder's writers, of a builder that the call has made (the shelf's own do not lay here: a branch of copyCheck is cut in this translation).
  WALKS of strings.Builder's writers beside a block that lies apart from the builder.
-/
import Derived.Test.YtimhhacfjgbomaaGreatDoorBase
import Derived.Lib.Builder
import Derived.Lib.AppendStr
import Derived.Lib.AppendIntMem
import Derived.Lib.UnsafeStr
import Derived.Laws.Externs
import Derived.Laws.AppendOwnNone
import Derived.Maps.AppendAt
namespace Go.Proofs.YtimhhacfjgbomaaGreatDoor
set_option linter.unusedSimpArgs false
set_option linter.unusedVariables false
open Go.RowKit Go.Shelf

/-- A builder in block b, made there, that holds l. -/
def Bld (w : World) (b : Nat) (l : List UInt8) : Prop := Lib.IsBuilder 66 5 b b (Lib.byteCells l) w
theorem Bld.at_ {w : World} {b : Nat} {l : List UInt8} (h : Bld w b l) : ∃ p, Lib.BuilderAt 66 5 b b p (Lib.byteCells l) w := h.elim (fun h => ⟨_, h⟩) (fun h => ⟨_, h⟩)
theorem Bld.lt {w : World} {b : Nat} {l : List UInt8} (h : Bld w b l) : b < w.heap.size := by obtain ⟨p, hp⟩ := h.at_; exact hp.lt
theorem Bld.new (w : World) : Bld (w.alloc (.cells #[.pointer none, .slice none 0 0] 66)) w.heap.size [] := Lib.fresh_isBuilder _ _ w
theorem kept_at {w w' : World} {b : Nat} {p : Value} {bs : List Value} (h : Lib.BuilderAt 66 5 b b p bs w) (hk : ∀ k, b ≤ k → k < w.heap.size → w'.heap[k]? = w.heap[k]?) : Lib.BuilderAt 66 5 b b p bs w' := by
  have hlt := h.lt
  obtain ⟨hB, v, hb, hown, hne⟩ := h
  refine ⟨hB, v, (hk b (Nat.le_refl _) hlt).trans hb, ⟨hown.1, hown.2.imp id (fun ⟨g, cap, cur, hv, hbg, hh, r⟩ => ⟨g, cap, cur, hv, hbg, (hk g hbg (Array.getElem?_eq_some_iff.1 hh).1).trans hh, r⟩)⟩, hne⟩
/-- It holds still where no block from its own on has turned. -/
theorem Bld.keep {w w' : World} {b : Nat} {l : List UInt8} (h : Bld w b l) (hk : ∀ k, b ≤ k → k < w.heap.size → w'.heap[k]? = w.heap[k]?) : Bld w' b l := h.imp (fun h => kept_at h hk) (fun h => kept_at h hk)
theorem Bld.next {w w' : World} {b : Nat} {l : List UInt8} (h : Bld w b l) (hb : Below w.heap.size w w') : Bld w' b l := h.keep fun k _ hk => hb.block k hk
theorem Bld.set {w : World} {b : Nat} {l : List UInt8} (h : Bld w b l) {p : Addr} (hp : p.block < b) (v : Value) : Bld (w.setCell p v) b l := h.keep fun k hk _ => Below.heap_setCell w p v k (by omega)

theorem info_u8 : (Tryz.prog.info? 5).map (fun i => (i.zero, i.size, i.bytes)) = some (some (.int .u8 0), 1, 1) := by kernel_rfl
theorem size_builder : (Tryz.prog.info? 66).map (·.size) = some 2 := by kernel_rfl
theorem lies_builder : liesAt Tryz.prog Tryz.prog.depth 66 (2 / Tryz.prog.cellsOf 66) 0 66 1 = true := by kernel_rfl

set_option maxHeartbeats 1000000 in
set_option maxRecDepth 100000 in
theorem check_used (b : Nat) (w : World) (h0 : w.cell? ⟨b, 0, none⟩ = some (.pointer (some ⟨b, 0, none⟩))) :
    Calls Tryz.prog 79 #[.pointer (some ⟨b, 0, none⟩)] w fun e w' => e = .returned (.tuple #[]) ∧ w = w' := by
  obtain ⟨j, hj, _⟩ := Option.map_eq_some_iff.1 size_builder
  have hne := fun w => Lib.run_neq_ptr_same (P := Tryz.prog) w (⟨b, 0, none⟩ : Addr) Tryz.underlying64 hj
  go_enter Tryz.func79, Tryz.ntmps79
  go_wp2
  go_end0
  exact ⟨rfl, rfl⟩
set_option maxHeartbeats 1000000 in
set_option maxRecDepth 100000 in
theorem check_fresh (b : Nat) (w : World) (h0 : w.cell? ⟨b, 0, none⟩ = some (.pointer none)) (hsh : w.shape? b = some (66, 2)) (hfz : w.frozen? ⟨b, 0, none⟩ = false) :
    Calls Tryz.prog 79 #[.pointer (some ⟨b, 0, none⟩)] w fun e w' => e = .returned (.tuple #[]) ∧ w.setCell ⟨b, 0, none⟩ (.pointer (some ⟨b, 0, none⟩)) = w' := by
  obtain ⟨j, hj, hjs⟩ := Option.map_eq_some_iff.1 size_builder
  have hne := fun w => Lib.run_neq_ptr_same (P := Tryz.prog) w (⟨b, 0, none⟩ : Addr) Tryz.underlying64 hj
  have hto := Lib.run_to_unsafe (P := Tryz.prog) w ⟨b, 0, none⟩ Tryz.underlying64 Tryz.underlying116 hj (by rw [hjs]; decide) hsh (Nat.zero_lt_succ 1)
  have hfrom := Lib.run_from_unsafe (P := Tryz.prog) w ⟨b, 0, none⟩ Tryz.underlying116 Tryz.underlying64 hj hsh lies_builder
  go_enter Tryz.func79, Tryz.ntmps79
  go_wp2
  rw [run_callFunc_extern Tryz.func95 (by kernel_rfl) (by kernel_rfl) (by kernel_rfl) (e := Extern.AbiNoEscape.same) (by kernel_rfl)]
  rw [Lib.run_noEscape]
  simp only [Result.andThen]
  rw [Oper.upon_value]
  go_wp2
  go_end0
  exact ⟨rfl, rfl⟩
theorem check_any (b : Nat) (l : List UInt8) (w : World) (h : Bld w b l) :
    Calls Tryz.prog 79 #[.pointer (some ⟨b, 0, none⟩)] w fun e w' => e = .returned (.tuple #[]) ∧ Lib.BuilderAt 66 5 b b (.pointer (some ⟨b, 0, none⟩)) (Lib.byteCells l) w' ∧ Below b w w' := by
  rcases h with h | h
  · exact (check_fresh b w h.cell0 h.shape h.frozen0).mono fun e w' h' => ⟨h'.1, h'.2 ▸ h.used _, h'.2 ▸ (Below.refl b w).setCell (p := ⟨b, 0, none⟩) (Nat.le_refl _) _⟩
  · exact (check_used b w h.cell0).mono fun e w' h' => ⟨h'.1, h'.2 ▸ h, h'.2 ▸ Below.refl b w⟩

/-- Behind an append to the buffer. -/
theorem pushed {w w1 w2 : World} {b : Nat} {v v' : Value} {bs : List Value} {l' : List UInt8} {n : Nat} {xs : List Value} (hb : w1.heap[b]? = some (.cells #[.pointer (some ⟨b, 0, none⟩), v] 66 (0, 0))) (hne : v.ownBlock ≠ some b) (hown : w1.ownsRow b 5 1 v bs.length bs)
    (hbel : Below b w w1) {wa : World} (hwa : Below w1.heap.size w1 wa) (hg : wa.grownBy w2 v.ownBlock) (ho : w2.ownsRow b 5 1 v' n xs) (hn : n = (Lib.byteCells l').length) (hx : xs = Lib.byteCells l') (hbw : b ≤ w.heap.size) :
    w2.cell? ⟨b, 1, none⟩ = some v ∧ w2.frozen? ⟨b, 1, none⟩ = false ∧ Lib.BuilderAt 66 5 b b (.pointer (some ⟨b, 0, none⟩)) (Lib.byteCells l') (w2.setCell ⟨b, 1, none⟩ v') ∧ Below b w (w2.setCell ⟨b, 1, none⟩ v') := by
  subst hx; subst hn
  have hlt : b < w1.heap.size := (Array.getElem?_eq_some_iff.1 hb).1
  have hb2 : w2.heap[b]? = some (.cells #[.pointer (some ⟨b, 0, none⟩), v] 66 (0, 0)) := by
    rw [hg.block b (by have := hwa.size; omega) (fun e => hne e.symm), hwa.block b hlt]
    exact hb
  refine ⟨by rw [Lib.cell_of_heap hb2]; rfl, Lib.frozen_of_heap hb2 1, Lib.BuilderAt.put (Nat.le_refl b) hb2 ho (by decide), ?_⟩
  have h1 : Below b w wa := hbel.trans (hwa.mono (Nat.le_of_lt hlt))
  exact (h1.grown hg (by have := h1.size; omega) (fun k hk => (hown.lt k hk).1)).setCell (p := ⟨b, 1, none⟩) (Nat.le_refl b) v'

set_option maxHeartbeats 2000000 in
set_option maxRecDepth 100000 in
theorem wbyte_any (b : Nat) (l : List UInt8) (c : UInt8) (w : World) (h : Bld w b l) (hl : l.length ≤ 1099511627776) :
    Calls Tryz.prog 49 #[.pointer (some ⟨b, 0, none⟩), .int .u8 c.toNat] w fun e w' => e = .returned .nilIface ∧ Bld w' b (l ++ [c]) ∧ Below b w w' := by
  obtain ⟨i0, hi, hz0, hz1, hz2⟩ := info_parts info_u8
  have hlt := h.lt
  have HC := Lib.hid (check_any b l w h)
  have hlen := Lib.byteCells_length l
  clear h
  go_enter Tryz.func49, Tryz.ntmps49
  go_wp2_with (go_at_call 79; refine HC.out.mono ?_)
  rintro e w1 ⟨rfl, h1, hb1⟩
  have hlt1 := h1.lt
  obtain ⟨hB, v, hbk, hown, hne⟩ := h1
  have c0 : w1.cell? ⟨b, 0, none⟩ = some (.pointer (some ⟨b, 0, none⟩)) := by rw [Lib.cell_of_heap hbk]; rfl
  have c1 : w1.cell? ⟨b, 1, none⟩ = some v := by rw [Lib.cell_of_heap hbk]; rfl
  have HO := Lib.hid hown
  have HK := Lib.hid hbk
  have HN := Lib.hid hne
  have HL := Lib.hid hlen
  have C3 : Hid ((Lib.byteCells l).length + 1 ≤ maxLen) := by unfold Hid maxLen; omega
  have C4 : Hid ((Lib.byteCells l).length + 1 ≤ 140737488355328) := by unfold Hid; omega
  have C5 : Hid (b ≤ (w1.alloc (.cells #[.int .u8 c.toNat] 5)).heap.size) := by unfold Hid; simp; omega
  clear hown hbk hne hlen
  go_wp2_with (at_builtin; refine wpList_append_own _ rfl _ _ 43 rfl b 5 i0 (.int .u8 0) 1 1 Tryz.underlying43 hi hz0 hz1 hz2 rfl (by decide) _ _ _ rfl (HO.out.alloc _) ⟨w1.heap.size, 0, none⟩ 1 1 [.int .u8 c.toNat] rfl rfl (one_new _ _ _) one_int C3.out (by have := C4.out; omega) C5.out ?_; intro v' w2 hown' hgrow _; obtain ⟨av, cv, rfl⟩ := owns_form hown'; obtain ⟨d1, f1, hp, hbl⟩ := pushed (l' := l ++ [c]) HK.out HN.out HO.out hb1 (ballocR w1 _) hgrow hown' (by simp [Lib.byteCells]) (by simp [Lib.byteCells]) (Nat.le_of_lt hlt); have HP := Lib.hid hp; have HB := Lib.hid hbl; clear hp hbl hown' hgrow c0 c1)
  go_ret
  exact ⟨rfl, .inr HP.out, HB.out⟩

set_option maxHeartbeats 2000000 in
set_option maxRecDepth 100000 in
theorem wstring_any (b : Nat) (l : List UInt8) (s : ByteArray) (w : World) (h : Bld w b l) (hl : l.length + s.size ≤ 1099511627776) :
    Calls Tryz.prog 50 #[.pointer (some ⟨b, 0, none⟩), .string s] w fun e w' => e = .returned (.tuple #[.int .i64 s.size, .nilIface]) ∧ Bld w' b (l ++ s.data.toList) ∧ Below b w w' := by
  obtain ⟨i0, hi, hz0, hz1, hz2⟩ := info_parts info_u8
  have hlt := h.lt
  have HC := Lib.hid (check_any b l w h)
  have hlen := Lib.byteCells_length l
  clear h
  go_enter Tryz.func50, Tryz.ntmps50
  go_wp2_with (go_at_call 79; refine HC.out.mono ?_)
  rintro e w1 ⟨rfl, h1, hb1⟩
  have hlt1 := h1.lt
  obtain ⟨hB, v, hbk, hown, hne⟩ := h1
  have c0 : w1.cell? ⟨b, 0, none⟩ = some (.pointer (some ⟨b, 0, none⟩)) := by rw [Lib.cell_of_heap hbk]; rfl
  have c1 : w1.cell? ⟨b, 1, none⟩ = some v := by rw [Lib.cell_of_heap hbk]; rfl
  have HO := Lib.hid hown
  have HK := Lib.hid hbk
  have HN := Lib.hid hne
  have C3 : Hid ((Lib.byteCells l).length + s.size ≤ maxLen) := by unfold Hid maxLen; omega
  have C4 : Hid ((Lib.byteCells l).length + s.size ≤ 140737488355328) := by unfold Hid; omega
  have C5 : Hid (b ≤ w1.heap.size) := by unfold Hid; omega
  clear hown hbk hne hlen
  go_wp2_with (at_builtin; refine Lib.wpList_append_own_string _ rfl _ _ 43 9 rfl b 5 i0 Tryz.underlying43 Tryz.underlying9 hi hz0 hz1 hz2 _ _ _ rfl HO.out s rfl C3.out C4.out C5.out ?_; intro v' w2 hown' hgrow _; obtain ⟨av, cv, rfl⟩ := owns_form hown'; obtain ⟨d1, f1, hp, hbl⟩ := pushed (l' := l ++ s.data.toList) HK.out HN.out HO.out hb1 (Below.refl _ _) hgrow hown' (by simp [Lib.byteCells]) (by simp [Lib.byteCells, Lib.strCells]) (Nat.le_of_lt hlt); have HP := Lib.hid hp; have HB := Lib.hid hbl; clear hp hbl hown' hgrow c0 c1)
  go_ret2
  exact ⟨rfl, .inr HP.out, HB.out⟩
theorem bstring_any (b : Nat) (l : List UInt8) (w : World) (h : Bld w b l) :
    Calls Tryz.prog 53 #[.pointer (some ⟨b, 0, none⟩)] w fun e w' => e = .returned (.string ⟨l.toArray⟩) ∧ Below b w w' := Tryz.Builder_String_any b b l w h (Nat.le_of_lt h.lt)
/-- Read once, a builder still. -/
def BldF (w : World) (b : Nat) (l : List UInt8) : Prop := Lib.IsBuilderF 66 5 b b (Lib.byteCells l) w ∧ b < w.heap.size
theorem Bld.f {w : World} {b : Nat} {l : List UInt8} (h : Bld w b l) : BldF w b l := ⟨Lib.IsBuilderF.of h, h.lt⟩
theorem bstringF_any (b : Nat) (l : List UInt8) (w : World) (h : BldF w b l) :
    Calls Tryz.prog 53 #[.pointer (some ⟨b, 0, none⟩)] w fun e w' => e = .returned (.string ⟨l.toArray⟩) ∧ BldF w' b l ∧ Below b w w' :=
  (Tryz.Builder_String_any_f b b l w h.1 (Nat.le_of_lt h.2)).mono fun _ _ h' => ⟨h'.1, ⟨h'.2.1, Nat.lt_of_lt_of_le h.2 h'.2.2.size⟩, h'.2.2⟩
theorem blen_any (b : Nat) (l : List UInt8) (w : World) (h : Bld w b l) :
    Calls Tryz.prog 52 #[.pointer (some ⟨b, 0, none⟩)] w fun e w' => e = .returned (.int .i64 l.length) ∧ w = w' := (Tryz.Builder_Len b b _ w h).mono fun e w' h' => ⟨by rw [h'.1, Lib.byteCells_length], h'.2.symm⟩
end Go.Proofs.YtimhhacfjgbomaaGreatDoor
namespace Go.Proofs.YtimhhacfjgbomaaGreatDoor
set_option linter.unusedSimpArgs false
set_option linter.unusedVariables false
open Go.RowKit Go.Shelf

/-- Where the string's append lies. -/
theorem str_lies {P : Program} (w : World) (base : Nat) (t u ty e : TypeId) (i : TypeInfo) (ht : P.underlying t = some (.slice e)) (hu : P.underlying u = some .string) (hi : P.info? e = some i) (hz : i.zero = some (.int .u8 0))
    (hsize : i.size = 1) (hby : i.bytes = 1)
    (v : Value) (n : Nat) (xs : List Value) (hown : w.ownsRow base e 1 v n xs) (s : ByteArray) (h0 : 0 < s.size)
    (h63 : n + s.size ≤ maxLen) (hbytes : n + s.size ≤ 140737488355328) {v' : Value} {w' : World}
    (hr : (Builtin.append_ #[t, u] ty #[v, .string s]).run P w = .ok v' w') : v'.ownBlock = v.ownBlock ∨ v'.ownBlock = some w.heap.size := by
  have hml : n + s.size ≤ 9223372036854775807 := by simp only [maxLen] at h63; omega
  have hxl : xs.length = n := by simpa using hown.1
  rcases hown.2 with ⟨rfl, rfl⟩ | ⟨g, cap, cur, rfl, hbg, hg, hnc, hcm, hcs, htake⟩
  · have h2 := run_append_nil_string (P := P) w t u ty e i (.int .u8 0) ht hu hi hz s (by omega) (by omega) (by rw [hby]; omega)
    rw [h2] at hr
    cases hr
    exact .inr rfl
  · by_cases hroom : n + s.size ≤ cap
    · have h2 := Lib.run_append_room_string (P := P) w t u ty e i ht hu hi hsize g n cap cur hg s hroom (by omega)
      rw [h2] at hr
      cases hr
      exact .inl rfl
    · have holds : ∀ j u, xs[j]? = some u → w.cell? ((⟨g, 0, none⟩ : Addr).add j) = some u := hown.cells (g := g) rfl
      have h2 := Lib.run_append_grow_string (P := P) w t u ty e i (.int .u8 0) ht hu hi hz ⟨g, 0, none⟩ n cap xs (by rw [hsize]; simpa using hxl) holds s (by omega) (by omega) (by rw [hby]; exact growslice_fits (by omega) (by omega))
      rw [h2] at hr
      cases hr
      exact .inr rfl
theorem wpList_append_str_at {P : Program} {w : World} {ops : Array Oper} {rest : List Oper} {o : Oper} {a : Act} {Q : Exit → Act → World → Prop} (hgd : o.guard = none) (sl x : Operand) (t u : TypeId)
    (ho : o.op = .call { callee := .builtin .append, args := #[sl, x], argTypes := #[t, u] })
    (base : Nat) (e : TypeId) (i : TypeInfo) (ht : P.underlying t = some (.slice e)) (hu : P.underlying u = some .string) (hi : P.info? e = some i) (hz : i.zero = some (.int .u8 0))
    (hsize : i.size = 1) (hby : i.bytes = 1)
    (v : Value) (n : Nat) (xs : List Value) (hs : a.eval sl = v) (hown : w.ownsRow base e 1 v n xs) (s : ByteArray) (hx : a.eval x = .string s) (h0 : 0 < s.size)
    (h63 : n + s.size ≤ maxLen) (hbytes : n + s.size ≤ 140737488355328) (hbase : base ≤ w.heap.size)
    (h : ∀ v' w', w'.ownsRow base e 1 v' (n + s.size) (xs ++ Lib.strCells s) → w.grownBy w' v.ownBlock → (v'.ownBlock = v.ownBlock ∨ v'.ownBlock = some w.heap.size) → wpList P ops Q rest (a.put o.dst v') w') : wpList P ops Q (o :: rest) a w := by
  refine wpList_plain hgd fun K hK => ?_
  obtain ⟨v', w', hr, h2, h3, h4⟩ := Lib.run_append_own_string (P := P) w base t u o.type e i ht hu hi hz hsize hby v n xs hown s h63 hbytes hbase
  have h5 := str_lies w base t u o.type e i ht hu hi hz hsize hby v n xs hown s h0 h63 hbytes hr
  unfold Oper.wp execOp
  simp only [ho, resolve, invoke, builtin, Sem.run_bind, Sem.run_pure, Result.andThen_ok, List.map_toArray, List.map_cons, List.map_nil, hs, hx, hr]
  exact hK _ _ (h v' w' h2 h3 h5)

/-- A builder in block b, and block g lies apart from it. -/
def Bv (w : World) (b g : Nat) (p : Value) (l : List UInt8) : Prop :=
  ∃ v, w.heap[b]? = some (.cells #[p, v] 66 (0, 0)) ∧ w.ownsRow b 5 1 v (Lib.byteCells l).length (Lib.byteCells l) ∧ v.ownBlock ≠ some b ∧ v.ownBlock ≠ some g
def BldG (w : World) (b g : Nat) (l : List UInt8) : Prop := g ≠ b ∧ g < w.heap.size ∧ (Bv w b g (.pointer none) l ∨ Bv w b g (.pointer (some ⟨b, 0, none⟩)) l)
theorem bv_of {w w' : World} {b : Nat} {p : Value} {l : List UInt8} (h : Lib.BuilderAt 66 5 b b p (Lib.byteCells l) w) (hb : Below w.heap.size w w') : Bv w' b w.heap.size p l := by
  obtain ⟨_, v, hk, ho, hne⟩ := kept_at h (fun k _ hk => hb.block k hk)
  obtain ⟨_, v2, hk2, ho2, _⟩ := h
  have e : v = v2 := by
    have := (hb.block b (Array.getElem?_eq_some_iff.1 hk2).1).symm.trans hk
    rw [hk2] at this
    simpa using this.symm
  subst e
  exact ⟨v, hk, ho, hne, fun e => by have := (ho2.lt _ e).2; omega⟩
theorem BldG.new {w w' : World} {b : Nat} {l : List UInt8} (h : Bld w b l) (hb : Below w.heap.size w w') (hs : w.heap.size < w'.heap.size) : BldG w' b w.heap.size l :=
  ⟨by have := h.lt; omega, hs, h.imp (fun h => bv_of h hb) (fun h => bv_of h hb)⟩
theorem BldG.bld {w : World} {b g : Nat} {l : List UInt8} (h : BldG w b g l) : Bld w b l := by
  obtain ⟨_, _, h⟩ := h
  exact h.imp (fun ⟨v, h1, h2, h3, _⟩ => ⟨Nat.le_refl _, v, h1, h2, h3⟩) (fun ⟨v, h1, h2, h3, _⟩ => ⟨Nat.le_refl _, v, h1, h2, h3⟩)
theorem BldG.lt {w : World} {b g : Nat} {l : List UInt8} (h : BldG w b g l) : b < w.heap.size := h.bld.lt
theorem checkG_any (b g : Nat) (l : List UInt8) (w : World) (h : BldG w b g l) :
    Calls Tryz.prog 79 #[.pointer (some ⟨b, 0, none⟩)] w fun e w' => e = .returned (.tuple #[]) ∧ Bv w' b g (.pointer (some ⟨b, 0, none⟩)) l ∧ Below b w w' ∧ w'.heap[g]? = w.heap[g]? ∧ w'.heap.size = w.heap.size := by
  obtain ⟨hgb, hg, h⟩ := h
  rcases h with ⟨v, hk, ho, h1, h2⟩ | ⟨v, hk, ho, h1, h2⟩
  · have hB : Lib.BuilderAt 66 5 b b (.pointer none) (Lib.byteCells l) w := ⟨Nat.le_refl _, v, hk, ho, h1⟩
    refine (check_fresh b w hB.cell0 hB.shape hB.frozen0).mono fun e w' h' => ⟨h'.1, ?_⟩
    obtain ⟨_, rfl⟩ := h'
    refine ⟨⟨v, ?_, ownsRow_setCell_other ho h1 _, h1, h2⟩, (Below.refl b w).setCell (p := ⟨b, 0, none⟩) (Nat.le_refl _) _, Below.heap_setCell w _ _ g hgb, by simp [World.setCell]⟩
    obtain ⟨hlt, hk2⟩ := Array.getElem?_eq_some_iff.1 hk
    show (w.heap.modify b _)[b]? = _
    rw [Array.getElem?_eq_getElem (by rw [Array.size_modify]; exact hlt), Array.getElem_modify_self, hk2]
    rfl
  · have hB : Lib.BuilderAt 66 5 b b (.pointer (some ⟨b, 0, none⟩)) (Lib.byteCells l) w := ⟨Nat.le_refl _, v, hk, ho, h1⟩
    refine (check_used b w hB.cell0).mono fun e w' h' => ⟨h'.1, ?_⟩
    obtain ⟨_, rfl⟩ := h'
    exact ⟨⟨v, hk, ho, h1, h2⟩, Below.refl b w, rfl, rfl⟩

/-- Behind an append to the buffer. -/
theorem pushedG {w w1 wa w2 : World} {b g : Nat} {v v' : Value} {bs : List Value} {l' : List UInt8} {n : Nat} {xs : List Value} (hb : w1.heap[b]? = some (.cells #[.pointer (some ⟨b, 0, none⟩), v] 66 (0, 0))) (hne : v.ownBlock ≠ some b) (hneg : v.ownBlock ≠ some g) (hgb : g ≠ b) (hown : w1.ownsRow b 5 1 v bs.length bs)
    (hbel : Below b w w1) (hw1 : w1.heap[g]? = w.heap[g]?) (hsz : w1.heap.size = w.heap.size) (hglt : g < w.heap.size) (hwa : Below w1.heap.size w1 wa) (hg : wa.grownBy w2 v.ownBlock) (ho : w2.ownsRow b 5 1 v' n xs) (hn : n = (Lib.byteCells l').length) (hx : xs = Lib.byteCells l') (hbw : b ≤ w.heap.size)
    (hat : v'.ownBlock = v.ownBlock ∨ v'.ownBlock = some wa.heap.size) :
    w2.cell? ⟨b, 1, none⟩ = some v ∧ w2.frozen? ⟨b, 1, none⟩ = false ∧ BldG (w2.setCell ⟨b, 1, none⟩ v') b g l' ∧ Below b w (w2.setCell ⟨b, 1, none⟩ v') ∧ (w2.setCell ⟨b, 1, none⟩ v').heap[g]? = w.heap[g]? := by
  subst hx; subst hn
  have hlt : b < w1.heap.size := (Array.getElem?_eq_some_iff.1 hb).1
  have hb2 : w2.heap[b]? = some (.cells #[.pointer (some ⟨b, 0, none⟩), v] 66 (0, 0)) := by
    rw [hg.block b (by have := hwa.size; omega) (fun e => hne e.symm), hwa.block b hlt]
    exact hb
  have h1 : Below b w wa := hbel.trans (hwa.mono (Nat.le_of_lt hlt))
  have hg2 : w2.heap[g]? = w.heap[g]? := by
    rw [hg.block g (by have := hwa.size; omega) (fun e => hneg e.symm), hwa.block g (by omega)]
    exact hw1
  have hneb : v'.ownBlock ≠ some b := by
    rcases hat with e | e
    · rw [e]; exact hne
    · rw [e]; have := hwa.size; intro e; cases e; omega
  have hneg' : v'.ownBlock ≠ some g := by
    rcases hat with e | e
    · rw [e]; exact hneg
    · rw [e]; have := hwa.size; intro e; cases e; omega
  refine ⟨by rw [Lib.cell_of_heap hb2]; rfl, Lib.frozen_of_heap hb2 1, ⟨hgb, ?_, .inr ⟨v', ?_, ownsRow_setCell_other ho hneb _, hneb, hneg'⟩⟩, ?_, ?_⟩
  · have := hg.size; have := hwa.size; simp only [World.setCell, Array.size_modify]; omega
  · obtain ⟨hlt2, hk2⟩ := Array.getElem?_eq_some_iff.1 hb2
    show (w2.heap.modify b _)[b]? = _
    rw [Array.getElem?_eq_getElem (by rw [Array.size_modify]; exact hlt2), Array.getElem_modify_self, hk2]
    rfl
  · exact (h1.grown hg (by have := h1.size; omega) (fun k hk => (hown.lt k hk).1)).setCell (p := ⟨b, 1, none⟩) (Nat.le_refl b) v'
  · exact (Below.heap_setCell w2 _ _ g hgb).trans hg2

set_option maxHeartbeats 2000000 in
set_option maxRecDepth 100000 in
theorem wbyteG_any (b g : Nat) (l : List UInt8) (c : UInt8) (w : World) (h : BldG w b g l) (hl : l.length ≤ 1099511627776) :
    Calls Tryz.prog 49 #[.pointer (some ⟨b, 0, none⟩), .int .u8 c.toNat] w fun e w' => e = .returned .nilIface ∧ BldG w' b g (l ++ [c]) ∧ Below b w w' ∧ w'.heap[g]? = w.heap[g]? := by
  obtain ⟨i0, hi, hz0, hz1, hz2⟩ := info_parts info_u8
  have hlt := h.lt
  have HC := Lib.hid (checkG_any b g l w h)
  have hlen := Lib.byteCells_length l
  have HG := Lib.hid (And.intro h.1 h.2.1)
  clear h
  go_enter Tryz.func49, Tryz.ntmps49
  go_wp2_with (go_at_call 79; refine HC.out.mono ?_)
  rintro e w1 ⟨rfl, h1, hb1, hg1, hs1⟩
  obtain ⟨v, hbk, hown, hne, hneg⟩ := h1
  have hlt1 : b < w1.heap.size := by omega
  have c0 : w1.cell? ⟨b, 0, none⟩ = some (.pointer (some ⟨b, 0, none⟩)) := by rw [Lib.cell_of_heap hbk]; rfl
  have c1 : w1.cell? ⟨b, 1, none⟩ = some v := by rw [Lib.cell_of_heap hbk]; rfl
  have HO := Lib.hid hown
  have HK := Lib.hid hbk
  have HN := Lib.hid (And.intro hne hneg)
  have HS := Lib.hid (And.intro hg1 hs1)
  have C3 : Hid ((Lib.byteCells l).length + 1 ≤ maxLen) := by unfold Hid maxLen; omega
  have C4 : Hid ((Lib.byteCells l).length + 1 ≤ 140737488355328) := by unfold Hid; omega
  have C5 : Hid (b ≤ (w1.alloc (.cells #[.int .u8 c.toNat] 5)).heap.size) := by unfold Hid; simp; omega
  clear hown hbk hne hlen hneg hg1 hs1
  go_wp2_with (at_builtin; refine wpList_append_own_at _ rfl _ _ 43 rfl b 5 i0 (.int .u8 0) 1 1 Tryz.underlying43 hi hz0 hz1 hz2 rfl (by decide) _ _ _ rfl (HO.out.alloc _) ⟨w1.heap.size, 0, none⟩ 1 1 [.int .u8 c.toNat] rfl rfl (one_new _ _ _) one_int C3.out (by have := C4.out; omega) C5.out ?_; intro v' w2 hown' hgrow _ hat; obtain ⟨av, cv, rfl⟩ := owns_form hown'; obtain ⟨d1, f1, hp, hbl, hgk⟩ := pushedG (l' := l ++ [c]) HK.out HN.out.1 HN.out.2 HG.out.1 HO.out hb1 HS.out.1 HS.out.2 HG.out.2 (ballocR w1 _) hgrow hown' (by simp [Lib.byteCells]) (by simp [Lib.byteCells]) (Nat.le_of_lt hlt) hat; have HP := Lib.hid hp; have HB := Lib.hid hbl; have HGK := Lib.hid hgk; clear hp hbl hown' hgrow hgk hat c0 c1)
  go_ret
  exact ⟨rfl, HP.out, HB.out, HGK.out⟩

set_option maxHeartbeats 2000000 in
set_option maxRecDepth 100000 in
theorem wstringG_any (b g : Nat) (l : List UInt8) (s : ByteArray) (w : World) (h : BldG w b g l) (h0 : 0 < s.size) (hl : l.length + s.size ≤ 1099511627776) :
    Calls Tryz.prog 50 #[.pointer (some ⟨b, 0, none⟩), .string s] w fun e w' => e = .returned (.tuple #[.int .i64 s.size, .nilIface]) ∧ BldG w' b g (l ++ s.data.toList) ∧ Below b w w' ∧ w'.heap[g]? = w.heap[g]? := by
  obtain ⟨i0, hi, hz0, hz1, hz2⟩ := info_parts info_u8
  have hlt := h.lt
  have HC := Lib.hid (checkG_any b g l w h)
  have hlen := Lib.byteCells_length l
  have HG := Lib.hid (And.intro h.1 h.2.1)
  clear h
  go_enter Tryz.func50, Tryz.ntmps50
  go_wp2_with (go_at_call 79; refine HC.out.mono ?_)
  rintro e w1 ⟨rfl, h1, hb1, hg1, hs1⟩
  obtain ⟨v, hbk, hown, hne, hneg⟩ := h1
  have hlt1 : b < w1.heap.size := by omega
  have c0 : w1.cell? ⟨b, 0, none⟩ = some (.pointer (some ⟨b, 0, none⟩)) := by rw [Lib.cell_of_heap hbk]; rfl
  have c1 : w1.cell? ⟨b, 1, none⟩ = some v := by rw [Lib.cell_of_heap hbk]; rfl
  have HO := Lib.hid hown
  have HK := Lib.hid hbk
  have HN := Lib.hid (And.intro hne hneg)
  have HS := Lib.hid (And.intro hg1 hs1)
  have HZ := Lib.hid h0
  have C3 : Hid ((Lib.byteCells l).length + s.size ≤ maxLen) := by unfold Hid maxLen; omega
  have C4 : Hid ((Lib.byteCells l).length + s.size ≤ 140737488355328) := by unfold Hid; omega
  have C5 : Hid (b ≤ w1.heap.size) := by unfold Hid; omega
  clear hown hbk hne hlen hneg hg1 hs1 h0
  go_wp2_with (at_builtin; refine wpList_append_str_at rfl _ _ 43 9 rfl b 5 i0 Tryz.underlying43 Tryz.underlying9 hi hz0 hz1 hz2 _ _ _ rfl HO.out s rfl HZ.out C3.out C4.out C5.out ?_; intro v' w2 hown' hgrow hat; obtain ⟨av, cv, rfl⟩ := owns_form hown'; obtain ⟨d1, f1, hp, hbl, hgk⟩ := pushedG (l' := l ++ s.data.toList) HK.out HN.out.1 HN.out.2 HG.out.1 HO.out hb1 HS.out.1 HS.out.2 HG.out.2 (Below.refl _ _) hgrow hown' (by simp [Lib.byteCells]) (by simp [Lib.byteCells, Lib.strCells]) (Nat.le_of_lt hlt) hat; have HP := Lib.hid hp; have HB := Lib.hid hbl; have HGK := Lib.hid hgk; clear hp hbl hown' hgrow hgk hat c0 c1)
  go_ret2
  exact ⟨rfl, HP.out, HB.out, HGK.out⟩
end Go.Proofs.YtimhhacfjgbomaaGreatDoor
