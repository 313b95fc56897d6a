/-
  THE WALK OF value.Check: for every value: ErrValue, ErrLong or OK.
-/
import Derived.Test.YtlokoepljmlcgaaDoorCheckL
namespace Go.Proofs.YtlokoepljmlcgaaDoor
set_option linter.unusedSimpArgs false
set_option linter.unusedVariables false
open Go.RowKit Go.Shelf
attribute [local go_sem] Oper.semAt_some

theorem sum_take_le (ks : List ByteArray) (i : Nat) : ((ks.take i).map (·.size)).sum ≤ (ks.map (·.size)).sum := by
  have h : ks.map (·.size) = (ks.take i).map (·.size) ++ (ks.drop i).map (·.size) := by rw [← List.map_append, List.take_append_drop]
  rw [h, List.sum_append]
  omega

theorem bytes_le {xs : List (Nat × Nd × Fo)} {M : Nat} (h : ∀ e ∈ xs, bytesE e ≤ M) : ∀ pre : List (Elem xs), bytesL (vals pre) ≤ pre.length * M
  | [] => by simp [vals, bytesL]
  | e :: r => by
    have h1 := bytes_le h r
    have h2 := h e.1 e.2
    have h3 : bytesL (vals (e :: r)) = bytesE e.1 + bytesL (vals r) := by simp [vals, bytesL]
    rw [h3, List.length_cons, Nat.add_mul, Nat.one_mul]
    omega
/-- Between two rounds. -/
def ChkI (xs : List (Nat × Nd × Fo)) (W : World) (pre : List (Elem xs)) (U : World) : Prop := Chk W.heap.size W (bytesL (vals pre) : Nat) (overL (vals pre)) U ∧ ∀ e ∈ vals pre, mayB e.2.1 = true
/-- Where a round has found a value that may not be. -/
def ChkX (xs : List (Nat × Nd × Fo)) (W : World) (cd : Code) (_pre : List (Elem xs)) (U : World) : Prop := (Boxed U (W.heap.size + 1) 41 (.int .i64 110) ∧ Below W.heap.size W U) ∧ (cd = .ret ∧ ∃ e ∈ xs, mayB e.2.1 = false)

set_option maxRecDepth 100000 in
set_option maxHeartbeats 8000000 in
theorem check_any (x : Nd) (c : Fo) (W : World) (hT : Lib.Utf8Tabs 0 1 W) (hx : x.In W.heap.size W c) (hK : ∀ e ∈ Nd.pre 1 x c, e.2.1.Keys W.heap.size W)
    (hN : (Nd.pre 1 x c).length ≤ 1099511627776) (M : Nat) (hB : ∀ e ∈ Nd.pre 1 x c, bytesE e ≤ M) (hNM : (Nd.pre 1 x c).length * M ≤ 1099511627776) (hkl : ∀ e ∈ Nd.pre 1 x c, e.1 ≤ 1099511627776 ∧ e.2.1.t.size ≤ 1099511627776 ∧ (∀ s ∈ e.2.1.ks, s.size ≤ 1099511627776) ∧ e.2.1.kl ≤ 1099511627776 ∧ e.2.1.ll ≤ 1099511627776) :
    Calls Tryd.prog 34 #[x.val] W fun e w' => e = .returned (.int .i64 (checkV x c)) ∧ Below W.heap.size W w' := by
  refine (callsIn_wide (n := 5)).1 ?_
  have hmf : ∀ (fn : Fn) (first cap : Array Value) (w : World), (Instr.makeFunc fn first cap).run Tryd.prog w = .ok (.func fn first cap) w := fun _ _ _ _ => rfl
  have h1 : 1 ≤ 5 := by omega
  refine callsIn_of_wp_marks Tryd.func34 rfl trivial ?_ rfl
  simp only [Tryd.ntmps34, List.size_toArray, List.length_cons, List.length_nil, Nat.reduceAdd, Nat.reduceSub, Array.replicate_succ, Array.replicate_zero, List.push_toArray, List.append_toArray, List.nil_append, List.cons_append]
  have hall := fun w => all_in Fence.wide (5 - 1) trivial rfl x w
  have HX := Lib.hid hx
  have HK := Lib.hid hK
  have HKL := Lib.hid hkl
  have HB := Lib.hid hB
  have HNM := Lib.hid hNM
  clear hx hK hkl hB hNM
  unfold Nd.val
  unfold Nd.val at hall
  gi_wp2_with ((try refine ⟨trivial, ?_⟩); gi_at_call 47; refine (hall _).mono ?_; rintro e w1 ⟨rfl, rfl⟩)
  have hsz : ((((W.alloc (.cells #[.int .i64 x.k, .bool x.b, .int .i64 x.n, .string x.t, .slice x.ka x.kl x.kc, .slice x.la x.ll x.lc] 30)).alloc (.cells #[.int .i64 0] 41)).alloc (.cells #[.int .i64 0] 3)).alloc (.cells #[.bool false] 4)).heap.size = W.heap.size + 4 := by simp
  have hce := ((Boxed.new (W.alloc (.cells #[.int .i64 x.k, .bool x.b, .int .i64 x.n, .string x.t, .slice x.ka x.kl x.kc, .slice x.la x.ll x.lc] 30)) 41 (.int .i64 0)).alloc (.cells #[.int .i64 0] 3)).alloc (.cells #[.bool false] 4)
  have hcb := (Boxed.new ((W.alloc (.cells #[.int .i64 x.k, .bool x.b, .int .i64 x.n, .string x.t, .slice x.ka x.kl x.kc, .slice x.la x.ll x.lc] 30)).alloc (.cells #[.int .i64 0] 41)) 3 (.int .i64 0)).alloc (.cells #[.bool false] 4)
  have hco := Boxed.new (((W.alloc (.cells #[.int .i64 x.k, .bool x.b, .int .i64 x.n, .string x.t, .slice x.ka x.kl x.kc, .slice x.la x.ll x.lc] 30)).alloc (.cells #[.int .i64 0] 41)).alloc (.cells #[.int .i64 0] 3)) 4 (.bool false)
  simp only [World.size_alloc] at hce hcb hco
  have hbl : Below W.heap.size W ((((W.alloc (.cells #[.int .i64 x.k, .bool x.b, .int .i64 x.n, .string x.t, .slice x.ka x.kl x.kc, .slice x.la x.ll x.lc] 30)).alloc (.cells #[.int .i64 0] 41)).alloc (.cells #[.int .i64 0] 3)).alloc (.cells #[.bool false] 4)) := (((ballocR W _).alloc (by simp) _).alloc (by simp; omega) _).alloc (by simp; omega) _
  simp only [show W.heap.size + 1 + 1 + 1 + 1 = W.heap.size + 4 from rfl, show W.heap.size + 1 + 1 + 1 = W.heap.size + 3 from rfl, show W.heap.size + 1 + 1 = W.heap.size + 2 from rfl] at hce hcb hco ⊢
  generalize ((((W.alloc (.cells #[.int .i64 x.k, .bool x.b, .int .i64 x.n, .string x.t, .slice x.ka x.kl x.kc, .slice x.la x.ll x.lc] 30)).alloc (.cells #[.int .i64 0] 41)).alloc (.cells #[.int .i64 0] 3)).alloc (.cells #[.bool false] 4)) = V at hsz hce hcb hco hbl ⊢
  have hk0 : Chk W.heap.size W 0 false (V.alloc (.cells #[.int .i64 x.k, .bool x.b, .int .i64 x.n, .string x.t, .slice x.ka x.kl x.kc, .slice x.la x.ll x.lc] 30)) := Chk.next ⟨hce, hcb, hco, hbl⟩ (ballocR V _)
  have hcx := cells_new x V
  have hsz' : (V.alloc (.cells #[.int .i64 x.k, .bool x.b, .int .i64 x.n, .string x.t, .slice x.ka x.kl x.kc, .slice x.la x.ll x.lc] 30)).heap.size = W.heap.size + 5 := by simp; omega
  rw [hsz] at hcx
  generalize V.alloc (.cells #[.int .i64 x.k, .bool x.b, .int .i64 x.n, .string x.t, .slice x.ka x.kl x.kc, .slice x.la x.ll x.lc] 30) = V1 at hcx hk0 hsz' ⊢
  clear hce hcb hco hbl hsz hall
  obtain ⟨X, hX⟩ : ∃ X, Value.agg #[.int .i64 x.k, .bool x.b, .int .i64 x.n, .string x.t, .slice x.ka x.kl x.kc, .slice x.la x.ll x.lc] = X := ⟨_, rfl⟩
  rw [hX]
  have HSZ := Lib.hid hsz'
  clear hsz'
  refine wpIn_rangeFunc_ownH rfl h1 (gf := 57) (lb := #[.pointer (some ⟨W.heap.size + 4, 0, none⟩)]) rfl trivial (enters_of Tryd.func57 (by kernel_rfl) rfl)
    (all_stops Fence.wide rfl trivial trivial rfl (5 - 1) W.heap.size (W.heap.size + 4) (W.heap.size + 4) encE x c (Nd.pre 1 x c).attach (by simpa using hN) (enc_attach _) V1 (by rw [HSZ.out]; omega) (by rw [HSZ.out]; omega) (by rw [HSZ.out]; omega) hcx (HX.out.keep (Cellsy.of_below hk0.bl)))
    (fun h k => Kb.trans h k) (fun U l o o' h1 h2 h3 h4 => Kb.turn U l o o' (by rw [HSZ.out] at h1; omega) h2 h3 h4) (Below.refl _ _) (fun _ => rfl)
    (ChkI (Nd.pre 1 x c) W) (ChkX (Nd.pre 1 x c) W)
    (OwnFrom.and (chk_own W.heap.size _ W _ _ (Nat.le_refl _) (by rw [HSZ.out]; omega)) (ownFrom_pure _ _))
    (fun cd => OwnFrom.and (OwnFrom.and (Own.from (boxed_own _ _ _) _) (ownFrom_below (Nat.le_refl _) (by rw [HSZ.out]; omega))) (ownFrom_pure _ _))
    ⟨hk0, by simp [vals]⟩
    (fun e a' U => ∃ Bx, W.heap.size + 4 ≤ Bx ∧ e.1.2.1.Cells U Bx 0 ∧ a' = { tmps := #[X, .pointer (some ⟨W.heap.size, 0, none⟩), .pointer (some ⟨W.heap.size + 1, 0, none⟩), .pointer (some ⟨W.heap.size + 2, 0, none⟩), .pointer (some ⟨W.heap.size + 3, 0, none⟩), .int .i64 e.1.1, .pointer (some ⟨Bx, 0, none⟩), undef, undef, .func (.func 46) #[] #[.pointer (some ⟨W.heap.size + 1, 0, none⟩)], X, .func (.func 57) #[] #[.pointer (some ⟨W.heap.size + 4, 0, none⟩)], .int .i64 e.1.1, e.1.2.1.val, undef, undef, undef, undef, undef, undef, undef, undef, undef, undef, undef, undef, undef, undef, undef, undef, undef, undef, undef, undef, undef, undef, undef, undef, undef, undef, undef, undef, undef, undef, undef, undef, undef, undef, undef, undef, undef, undef], defers := [] })
    (fun e a' _ A B row hs hg hr => by obtain ⟨Bx, h1, h2, h3⟩ := hs; exact ⟨Bx, h1, cells_own h2 hg (fun r e => (hr r e).2), h3⟩)
    ?assign ?body ?done ?stop
  case assign =>
    rintro l pre ⟨⟨d, y, cy⟩, hy⟩ U K ⟨hC, hm⟩ hK
    simp only [encE, encV, Nd.val]
    gi_wp2
    exact hK _ _ ((KeepsOthers.alloc _ _).from _) (Kb.alloc _ _) ⟨hC.next (ballocR U _), hm⟩ ⟨U.heap.size, hC.le, cells_new y U, rfl⟩
  case body =>
    rintro l pre ⟨⟨d, y, cy⟩, hy⟩ a' U hl ⟨r, hr⟩ ⟨hC, hm⟩ ⟨Bx, hBx, hcs, rfl⟩ hlt
    have hyk := HK.out _ hy
    obtain ⟨hyd, hyt, hys, hykl, hyll⟩ := HKL.out _ hy
    simp only at hyk hyd hyt hys hykl hyll
    have hkeys : y.Keys W.heap.size U := hyk.keep (Cellsy.of_below hC.bl)
    have hbsum : bytesL (vals pre) + bytesE (d, y, cy) ≤ 1099511627776 := by
      have h1 := bytes_le HB.out pre
      have h2 := HB.out _ hy
      rw [List.length_attach] at hlt
      have h3 : (pre.length + 1) * M ≤ (Nd.pre 1 x c).length * M := Nat.mul_le_mul_right M hlt
      rw [Nat.add_mul, Nat.one_mul] at h3
      have h4 := HNM.out
      omega
    have HM := Lib.hid ((may_any W.heap.size y U (by have := hC.le; omega) hkeys (Utf8Tabs_below hT hC.bl) hyt hys hykl).mono (R' := fun e w' => e = .returned (.bool (mayB y)) ∧ Bd W.heap.size V1.heap.size W U y Bx (bytesL (vals pre) : Nat) (overL (vals pre)) w')
      (fun e w' h => ⟨h.1, Bd.next { toChk := hC, c3 := by simpa using hcs.2.2.2.1, c4 := by simpa using hcs.2.2.2.2.1, c5 := by simpa using hcs.2.2.2.2.2, keys := hkeys, kf := KeepsFrom.refl _ _, kb := Kb.refl _ _ _, hn := hBx } h.2⟩))
    have HC := Lib.hid hC
    have HKE := Lib.hid hkeys
    clear hyk hC hkeys hyt hys
    obtain ⟨yk, yb, yn, yt, yka, ykl, ykc, yla, yll, ylc, yks⟩ := y
    obtain ⟨c0, c1, c2, c3, c4, c5⟩ := hcs
    simp only [Nat.zero_add] at c0 c1 c2 c3 c4 c5
    simp only [Nd.val] at HM ⊢
    cases hmay : mayB ⟨yk, yb, yn, yt, yka, ykl, ykc, yla, yll, ylc, yks⟩ with
    | false =>
      rw [hmay] at HM
      gi_wp2_with ((try refine ⟨trivial, ?_⟩); gi_at_call 48; refine (CallsIn.inRound l (callsIn_wide.2 HM.out)).mono ?_; rintro e w4 ⟨rfl, D⟩; have ec := D.e.cell; have ef := D.e.frozen)
      exact ⟨D.kf.trans ((KeepsOthers.setCell _ _ _).from _), ⟨D.e.set _, D.bl.setCell (p := ⟨W.heap.size + 1, 0, none⟩) (by simp) _⟩, rfl, _, hy, hmay⟩
    | true =>
      rw [hmay] at HM
      have hov := overL_snoc (vals pre) (d, ⟨yk, yb, yn, yt, yka, ykl, ykc, yla, yll, ylc, yks⟩, cy)
      have hbs := bytesL_snoc (vals pre) (d, ⟨yk, yb, yn, yt, yka, ykl, ykc, yla, yll, ylc, yks⟩, cy)
      have hvs := vals_snoc pre ⟨(d, ⟨yk, yb, yn, yt, yka, ykl, ykc, yla, yll, ylc, yks⟩, cy), hy⟩
      have hmm : ∀ e ∈ vals pre ++ [(d, ⟨yk, yb, yn, yt, yka, ykl, ykc, yla, yll, ylc, yks⟩, cy)], mayB e.2.1 = true := fun e he => by
        rcases List.mem_append.1 he with h | h
        · exact hm e h
        · rw [List.mem_singleton.1 h]; exact hmay
      simp only [bytesE] at hbsum
      have HMM := Lib.hid hmm
      have HLEAF := Lib.hid (And.intro hvs (And.intro hbs hov))
      clear hov hbs hvs hm hmm hmay
      obtain ⟨b0, hb0⟩ : ∃ b0, bytesL (vals pre) = b0 := ⟨_, rfl⟩
      obtain ⟨ov, hov⟩ : ∃ ov, overL (vals pre) = ov := ⟨_, rfl⟩
      rw [hb0, hov] at HM
      rw [hb0] at hbsum
      have HB0 := Lib.hid hb0
      have HOV := Lib.hid hov
      clear hb0 hov
      have HBS := Lib.hid hbsum
      have hw0 : wrap64 ((b0 : Int) + (yt.size : Int)) = (b0 : Int) + yt.size := by unfold wrap64; omega
      clear hbsum
      gi_wp2_with ((try refine ⟨trivial, ?_⟩); gi_at_call 48; refine (CallsIn.inRound l (callsIn_wide.2 HM.out)).mono ?_; rintro e w4 ⟨rfl, D⟩; have bc := D.b.cell; have bf := D.b.frozen; have d3 := D.c3; have d4 := D.c4)
      have D1 := D.setB ((b0 : Int) + yt.size)
      clear bc bf d3 d4
      gi_loopw [25] (fun p wr => ∃ (i m : Nat), p = .int .i64 i ∧ i ≤ ykl ∧ m = b0 + yt.size + ((yks.take i).map (·.size)).sum ∧ Bd W.heap.size V1.heap.size W U ⟨yk, yb, yn, yt, yka, ykl, ykc, yla, yll, ylc, yks⟩ Bx (m : Int) ov wr) (fun p _ => ykl - (intOf p).toNat)
      case atStart => exact ⟨0, b0 + yt.size, rfl, Nat.zero_le _, by simp, by simpa using D1⟩
      case round =>
        obtain ⟨i, m, rfl, hi, hm, D2⟩ := hrel
        clear D1 D
        have hlen : ykl = yks.length := D2.keys.1
        have hmb : m ≤ 1099511627776 := by
          have h1 := HBS.out
          have h2 := sum_take_le yks i
          omega
        have HM2 := Lib.hid hm
        clear hm
        have b2 := D2.b.cell
        have f2 := D2.b.frozen
        by_cases hlt2 : i < ykl
        · obtain ⟨s, hs⟩ : ∃ s, yks[i]? = some s := ⟨yks[i]'(by omega), List.getElem?_eq_getElem (by omega)⟩
          obtain ⟨b', o', rfl, hb', hkc⟩ := D2.keys.2.resolve_left (by intro h; have h' : yks = [] := h; subst h'; simp at hs)
          have hci := hkc i s hs
          have htk : ((yks.take (i + 1)).map (·.size)).sum = ((yks.take i).map (·.size)).sum + s.size := by
            rw [List.take_add_one, hs]; simp
          have hmb2 : m + s.size ≤ 1099511627776 := by
            have h1 := HBS.out
            have h2 := sum_take_le yks (i + 1)
            have h3 := HM2.out
            omega
          have hw2 : wrap64 ((m : Int) + (s.size : Int)) = (m : Int) + s.size := by unfold wrap64; omega
          have D3 := D2.setB ((m : Int) + s.size)
          have HT := Lib.hid htk
          have HS := Lib.hid hs
          have HL := Lib.hid hlen
          clear htk hs hkc hlen hw0 hyd hyll hlt c0 c1 c2 c3 c4 c5
          gi_wp2
          go_roundw
          case rel => exact ⟨i + 1, m + s.size, by simp, by omega, by rw [HT.out, HM2.out]; omega, by simpa using D3⟩
          case measure => simp [intOf]; omega
        · obtain rfl : i = ykl := by omega
          have o2 := D2.o.cell
          have of2 := D2.o.frozen
          have d5 := D2.c5
          have hov2 : overL (vals pre ++ [(d, ⟨yk, yb, yn, yt, yka, i, ykc, yla, yll, ylc, yks⟩, cy)]) = (ov || (decide (64 < d) || decide (65536 < yll) || decide (1048576 < m))) := by
            rw [HLEAF.out.2.2, HOV.out, HB0.out]
            have hm3 : m = b0 + bytesE (d, ⟨yk, yb, yn, yt, yka, i, ykc, yla, yll, ylc, yks⟩, cy) := by
              rw [HM2.out, hlen, List.take_length]; simp only [bytesE]; omega
            rw [← hm3]
          have hbv : bytesL (vals pre ++ [(d, ⟨yk, yb, yn, yt, yka, i, ykc, yla, yll, ylc, yks⟩, cy)]) = m := by
            rw [HLEAF.out.2.1, HB0.out, HM2.out, hlen, List.take_length]; simp only [bytesE]; omega
          have HLF : ∀ (v : Bool) (wz : World), (ov || (decide (64 < d) || decide (65536 < yll) || decide (1048576 < m))) = v → Bd W.heap.size V1.heap.size W U ⟨yk, yb, yn, yt, yka, i, ykc, yla, yll, ylc, yks⟩ Bx (m : Int) v wz →
              KeepsFrom V1.heap.size U wz ∧ Kb W.heap.size (W.heap.size + 4) U wz ∧ ChkI (Nd.pre 1 x c) W (pre ++ [⟨(d, ⟨yk, yb, yn, yt, yka, i, ykc, yla, yll, ylc, yks⟩, cy), hy⟩]) wz := fun v wz hv D => by
            refine ⟨D.kf, D.kb, ?_⟩
            unfold ChkI
            rw [HLEAF.out.1, hbv, hov2, hv]
            exact ⟨D.toChk, HMM.out⟩
          have HLF' := Lib.hid HLF
          clear HM2 hov2 hlen hbv HLF HLEAF HOV HB0 HMM HBS
          cases ov with
          | true =>
            gi_wp2
            exact HLF'.out true _ (by simp) (D2.setO _)
          | false =>
            by_cases h64 : 64 < d
            · gi_wp2
              exact HLF'.out true _ (by simp [h64]) (D2.setO _)
            · by_cases h65 : 65536 < yll
              · gi_wp2
                exact HLF'.out true _ (by simp [h65]) (D2.setO _)
              · gi_wp2
                exact HLF'.out _ _ (by rw [Bool.eq_iff_iff]; simp; omega) (D2.setO _)
  case done =>
    rintro D ys U hD rfl ⟨hC, hm⟩ hKD
    have oc := hC.o.cell
    have ec := hC.e.cell
    have ef := hC.e.frozen
    rw [vals_attach] at hC hm oc
    have hv : checkV x c = if overL (Nd.pre 1 x c) then 3 else 0 := by unfold checkV; rw [if_pos (by rw [List.all_eq_true]; exact hm)]
    have HV := Lib.hid hv
    have HCC := Lib.hid hC
    clear hm hv hC
    cases hov : overL (Nd.pre 1 x c) with
    | true =>
      rw [hov] at oc
      gi_wp2
      refine leave_great hKD HCC.out.e HCC.out.bl (by rw [HSZ.out] at hD; omega) (fun w hw => ?_) (by rw [HV.out, hov]; rfl)
      simp [results, Tryd.results34, go_sem, hw]
    | false =>
      rw [hov] at oc
      gi_wp2
      refine leave_ret ((KeepsOthers.setCell _ _ _).same D _ hKD rfl) (HCC.out.e.set _) (HCC.out.bl.setCell (p := ⟨W.heap.size + 1, 0, none⟩) (by simp) _) (by rw [HSZ.out] at hD; omega) (fun w hw => ?_) (by rw [HV.out, hov]; rfl)
      simp [results, Tryd.results34, go_sem, hw]
  case stop =>
    rintro D cd pre U hD _ ⟨⟨hE, hBl⟩, rfl, e, he, hme⟩ hKD
    have hv : checkV x c = 110 := by unfold checkV; rw [if_neg (by rw [List.all_eq_true]; intro h; rw [h e he] at hme; cases hme)]
    have HV := Lib.hid hv
    clear hv
    gi_wp2
    refine leave_ret hKD hE hBl (by rw [HSZ.out] at hD; omega) (fun w hw => ?_) HV.out
    simp [results, Tryd.results34, go_sem, hw]
end Go.Proofs.YtlokoepljmlcgaaDoor
