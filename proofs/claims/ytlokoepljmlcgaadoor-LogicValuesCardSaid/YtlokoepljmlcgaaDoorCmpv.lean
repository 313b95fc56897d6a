/-
  THE WALK of value.compare of two values of one kind that have neither keys nor list.
-/
import Derived.Test.YtlokoepljmlcgaaDoorMapT
import Derived.Test.YtlokoepljmlcgaaDoorEqs
import Derived.Test.YtlokoepljmlcgaaDoorRmay
namespace Go.Proofs.YtlokoepljmlcgaaDoor
set_option linter.unusedSimpArgs false
set_option linter.unusedVariables false
open Go.RowKit Go.Shelf

/-- Their order. -/
def cmpV (x y : Nd) : Int := if x.k = 1 then cmpB x.b y.b else if x.k = 3 then Lib.compareBytes x.t.data.toList y.t.data.toList else cmpI x.n y.n

set_option maxRecDepth 100000 in
set_option maxHeartbeats 4000000 in
theorem compare_one (x y : Nd) (W : World) (hk : x.k = 1) (hk' : y.k = 1) : Calls Tryd.prog 64 #[x.val, y.val] W fun e w' => e = .returned (.int .i64 (cmpV x y)) ∧ Below W.heap.size W w' := by
  have hX := (Six.new W x 30).next (ballocR _ (.cells #[.int .i64 y.k, .bool y.b, .int .i64 y.n, .string y.t, .slice y.ka y.kl y.kc, .slice y.la y.ll y.lc] 30))
  have hY := Six.new (W.alloc (.cells #[.int .i64 x.k, .bool x.b, .int .i64 x.n, .string x.t, .slice x.ka x.kl x.kc, .slice x.la x.ll x.lc] 30)) y 30
  rw [World.size_alloc] at hY
  have hbel : Below W.heap.size W ((W.alloc (.cells #[.int .i64 x.k, .bool x.b, .int .i64 x.n, .string x.t, .slice x.ka x.kl x.kc, .slice x.la x.ll x.lc] 30)).alloc (.cells #[.int .i64 y.k, .bool y.b, .int .i64 y.n, .string y.t, .slice y.ka y.kl y.kc, .slice y.la y.ll y.lc] 30)) := (ballocR W _).alloc (by simp) _
  have hcc := cmpI_self (rankV 1)
  obtain ⟨k, b, n, t, ka, kl, kc, la, ll, lc, ks⟩ := x
  obtain ⟨k', b', n', t', ka', kl', kc', la', ll', lc', ks'⟩ := y
  simp only at hk hk'
  subst hk; subst hk'
  simp only [Nd.val, cmpV] at *
  have HX := Lib.hid hX; have HY := Lib.hid hY; have HB := Lib.hid hbel
  clear hX hY hbel
  go_enter Tryd.func64, Tryd.ntmps64
  go_wp2_with fail
  go_quiet ((first | (go_at_call 70; exact Calls.quiet_of_same ((rank_any _ _).mono fun _ _ h => ⟨h.1, h.2.symm⟩)) | (go_at_call 69; exact Calls.quiet_of_same ((cmp_any _ _ _).mono fun _ _ h => ⟨h.1, h.2.symm⟩))))
  obtain ⟨x0, x1, x2, x3, x4, x5⟩ := HX.out.cells
  obtain ⟨y0, y1, y2, y3, y4, y5⟩ := HY.out.cells
  simp only [Nat.zero_add] at x0 x1 y1
  clear x2 x3 x4 x5 y0 y2 y3 y4 y5
  go_wp2_with (go_at_call 71; refine (truths_any _ _ _).mono ?_; rintro e w2 ⟨rfl, hb2⟩)
  go_ret
  exact ⟨ret1 (by simp), (bdrewN HB.out nq).trans (hb2.mono (bdrewN HB.out nq).size)⟩

set_option maxRecDepth 100000 in
set_option maxHeartbeats 4000000 in
theorem compare_three (x y : Nd) (W : World) (hk : x.k = 3) (hk' : y.k = 3) : Calls Tryd.prog 64 #[x.val, y.val] W fun e w' => e = .returned (.int .i64 (cmpV x y)) ∧ Below W.heap.size W w' := by
  have hX := (Six.new W x 30).next (ballocR _ (.cells #[.int .i64 y.k, .bool y.b, .int .i64 y.n, .string y.t, .slice y.ka y.kl y.kc, .slice y.la y.ll y.lc] 30))
  have hY := Six.new (W.alloc (.cells #[.int .i64 x.k, .bool x.b, .int .i64 x.n, .string x.t, .slice x.ka x.kl x.kc, .slice x.la x.ll x.lc] 30)) y 30
  rw [World.size_alloc] at hY
  have hbel : Below W.heap.size W ((W.alloc (.cells #[.int .i64 x.k, .bool x.b, .int .i64 x.n, .string x.t, .slice x.ka x.kl x.kc, .slice x.la x.ll x.lc] 30)).alloc (.cells #[.int .i64 y.k, .bool y.b, .int .i64 y.n, .string y.t, .slice y.ka y.kl y.kc, .slice y.la y.ll y.lc] 30)) := (ballocR W _).alloc (by simp) _
  have hcc := cmpI_self (rankV 3)
  obtain ⟨k, b, n, t, ka, kl, kc, la, ll, lc, ks⟩ := x
  obtain ⟨k', b', n', t', ka', kl', kc', la', ll', lc', ks'⟩ := y
  simp only at hk hk'
  subst hk; subst hk'
  simp only [Nd.val, cmpV] at *
  have HX := Lib.hid hX; have HY := Lib.hid hY; have HB := Lib.hid hbel
  clear hX hY hbel
  go_enter Tryd.func64, Tryd.ntmps64
  go_wp2_with fail
  go_quiet ((first | (go_at_call 70; exact Calls.quiet_of_same ((rank_any _ _).mono fun _ _ h => ⟨h.1, h.2.symm⟩)) | (go_at_call 69; exact Calls.quiet_of_same ((cmp_any _ _ _).mono fun _ _ h => ⟨h.1, h.2.symm⟩))))
  obtain ⟨x0, x1, x2, x3, x4, x5⟩ := HX.out.cells
  obtain ⟨y0, y1, y2, y3, y4, y5⟩ := HY.out.cells
  simp only [Nat.zero_add] at x0 x3 y3
  clear x1 x2 x4 x5 y0 y1 y2 y4 y5
  go_wp2_with (go_at_call 72; refine (scompare_any _ _ _).mono ?_; rintro e w2 ⟨rfl, rfl⟩)
  go_ret
  exact ⟨ret1 (by simp), bdrewN HB.out nq⟩

set_option maxRecDepth 100000 in
set_option maxHeartbeats 4000000 in
theorem compare_other (x y : Nd) (W : World) (h1 : x.k ≠ 1) (h3 : x.k ≠ 3) (hk : y.k = x.k) (hz : x.kl = 0 ∧ x.ll = 0) (hz' : y.kl = 0 ∧ y.ll = 0) : Calls Tryd.prog 64 #[x.val, y.val] W fun e w' => e = .returned (.int .i64 (cmpV x y)) ∧ Below W.heap.size W w' := by
  have hX := (Six.new W x 30).next (ballocR _ (.cells #[.int .i64 y.k, .bool y.b, .int .i64 y.n, .string y.t, .slice y.ka y.kl y.kc, .slice y.la y.ll y.lc] 30))
  have hY := Six.new (W.alloc (.cells #[.int .i64 x.k, .bool x.b, .int .i64 x.n, .string x.t, .slice x.ka x.kl x.kc, .slice x.la x.ll x.lc] 30)) y 30
  rw [World.size_alloc] at hY
  have hbel : Below W.heap.size W ((W.alloc (.cells #[.int .i64 x.k, .bool x.b, .int .i64 x.n, .string x.t, .slice x.ka x.kl x.kc, .slice x.la x.ll x.lc] 30)).alloc (.cells #[.int .i64 y.k, .bool y.b, .int .i64 y.n, .string y.t, .slice y.ka y.kl y.kc, .slice y.la y.ll y.lc] 30)) := (ballocR W _).alloc (by simp) _
  have hcc := cmpI_self (rankV x.k)
  have e1 : (x.k == 1) = false := by simpa using h1
  have e3 : (x.k == 3) = false := by simpa using h3
  obtain ⟨k, b, n, t, ka, kl, kc, la, ll, lc, ks⟩ := x
  obtain ⟨k', b', n', t', ka', kl', kc', la', ll', lc', ks'⟩ := y
  simp only at hk hz hz' h1 h3
  obtain ⟨rfl, rfl⟩ := hz
  obtain ⟨rfl, rfl⟩ := hz'
  subst hk
  simp only [Nd.val, cmpV, if_neg h1, if_neg h3] at *
  have HX := Lib.hid hX; have HY := Lib.hid hY; have HB := Lib.hid hbel
  clear hX hY hbel h1 h3
  go_enter Tryd.func64, Tryd.ntmps64
  go_wp2_with fail
  go_quiet ((first | (go_at_call 70; exact Calls.quiet_of_same ((rank_any _ _).mono fun _ _ h => ⟨h.1, h.2.symm⟩)) | (go_at_call 69; exact Calls.quiet_of_same ((cmp_any _ _ _).mono fun _ _ h => ⟨h.1, h.2.symm⟩))))
  obtain ⟨x0, x1, x2, x3, x4, x5⟩ := HX.out.cells
  obtain ⟨y0, y1, y2, y3, y4, y5⟩ := HY.out.cells
  simp only [Nat.zero_add] at x0 x2 x4 x5 y2 y4 y5
  clear x1 x3 y0 y1 y3
  go_upto_region 9 with (fail)
  have HBB := Lib.hid (bdrewN HB.out nq)
  generalize hV : (World.drewN _ nq) = V at HBB ⊢
  have hS : V.drew.cell? ⟨W.heap.size, 2, none⟩ = some (.int .i64 n) ∧ V.drew.cell? ⟨W.heap.size, 4, none⟩ = some (.slice ka 0 kc) ∧ V.drew.cell? ⟨W.heap.size, 5, none⟩ = some (.slice la 0 lc) ∧ V.drew.cell? ⟨W.heap.size + 1, 2, none⟩ = some (.int .i64 n') ∧ V.drew.cell? ⟨W.heap.size + 1, 4, none⟩ = some (.slice ka' 0 kc') ∧ V.drew.cell? ⟨W.heap.size + 1, 5, none⟩ = some (.slice la' 0 lc') := by
    rw [← hV]; exact ⟨x2, x4, x5, y2, y4, y5⟩
  clear hV x0 x2 x4 x5 y2 y4 y5 HX HY HB e1 e3 hcc
  go_region_held3 (fun w' => w'.cell? ⟨W.heap.size, 2, none⟩ = some (.int .i64 n) ∧ w'.cell? ⟨W.heap.size, 4, none⟩ = some (.slice ka 0 kc) ∧ w'.cell? ⟨W.heap.size, 5, none⟩ = some (.slice la 0 lc) ∧ w'.cell? ⟨W.heap.size + 1, 2, none⟩ = some (.int .i64 n') ∧ w'.cell? ⟨W.heap.size + 1, 4, none⟩ = some (.slice ka' 0 kc') ∧ w'.cell? ⟨W.heap.size + 1, 5, none⟩ = some (.slice la' 0 lc'))
    (first | assumption | (exact keep6 (by assumption) (by assumption)) | (exact keep6 (by assumption) (ballocR _ _)))
    (first
    | (go_at_call 74; refine (listsS_nil _ _ _ _ _ _).mono ?_; rintro e w' ⟨rfl, rfl⟩)
    | (go_at_call 75; refine (listsV_nil _ _ _ _ _ _).mono ?_; rintro e w' ⟨rfl, rfl⟩)
    | (go_at_call 76; refine (cmp64_any _ _ _).mono ?_; rintro e w' ⟨rfl, rfl⟩)
    | (go_at_call 73; refine (or3 (cmpI n n') _ _ ?hrow).mono ?_; (case hrow => first | exact row3 _ _ _ _ _ | exact row3d _ _ _ _ _); rintro e w' ⟨rfl, rfl⟩))
  go_wp2
  go_ret
  exact ⟨rfl, (HBB.out.alloc HBB.out.size _).drew⟩

/-- Of two values of one kind that are no lists. -/
theorem compare_any (x y : Nd) (W : World) (hk : y.k = x.k) (hz : x.k = 1 ∨ x.k = 3 ∨ (x.kl = 0 ∧ x.ll = 0)) (hz' : y.k = 1 ∨ y.k = 3 ∨ (y.kl = 0 ∧ y.ll = 0)) : Calls Tryd.prog 64 #[x.val, y.val] W fun e w' => e = .returned (.int .i64 (cmpV x y)) ∧ Below W.heap.size W w' := by
  by_cases h1 : x.k = 1
  · exact compare_one x y W h1 (by rw [hk, h1])
  · by_cases h3 : x.k = 3
    · exact compare_three x y W h3 (by rw [hk, h3])
    · exact compare_other x y W h1 h3 hk ((hz.resolve_left h1).resolve_left h3) ((hz'.resolve_left (by rw [hk]; exact h1)).resolve_left (by rw [hk]; exact h3))
end Go.Proofs.YtlokoepljmlcgaaDoor
