/- Walks of package unit. -/
import Derived.Test.YtkgpcnehffiifaaFx
import Derived.Test.YtkgpcnehffiifaaUp
import Derived.Test.YtkgpcnehffiifaaUv
namespace Go.Proofs.Ytkgpcnehffiifaa
set_option linter.all false
open Go.RowKit Bu

theorem unit_back (u : Nat) (hu : u < 18446744073709551616) : (IntKind.u64.wrap ((u : Int) / 2 ^ unitCut u * 2 ^ unitCut u) == (u : Int)) = decide (u % 2 ^ unitCut u = 0) := by
  have hd := Nat.div_add_mod u (2 ^ unitCut u)
  have e1 : (u : Int) / 2 ^ unitCut u * 2 ^ unitCut u = ((u / 2 ^ unitCut u * 2 ^ unitCut u : Nat) : Int) := by simp
  rw [e1, IntKind.wrap_u64]
  rw [Nat.mul_comm] at hd
  generalize u / 2 ^ unitCut u * 2 ^ unitCut u = a at *
  generalize u % 2 ^ unitCut u = r at *
  rw [Bool.eq_iff_iff]
  simp only [beq_iff_eq, decide_eq_true_eq]
  omega

@[go_sem] theorem run_store_float {P : Program} {w : World} {a : Addr} {m : Mode} (k : FloatKind) (b : Nat) : (store a (.float k b) m).run P w = stored P w a (.float k b) m := run_store P w a _ m rfl

def ivV (a : Iv) : Value := .agg #[.float .f64 a.lo.b, .float .f64 a.hi.b]

@[go_sem] theorem build_iv (a b : Nat) (w : World) : (Instr.build 25 #[(0, .float .f64 a), (1, .float .f64 b)]).run Try.prog w = .ok (.agg #[.float .f64 a, .float .f64 b]) w := run_build w 25 _ _ (by kernel_rfl)

set_option maxRecDepth 100000 in
set_option maxHeartbeats 1000000 in
theorem half_w (u : Nat) (hu : (u : Int) ≤ 18446744073709551615) (w : World) :
    Calls Try.prog 13 #[.int .u64 u] w fun e w' => e = .returned (.tuple #[.bool (decide (u < 9223372036854775808)), .int .u64 ((2 * u % 18446744073709551616 : Nat) : Int)]) ∧ w = w' := by
  go_enter Try.func13, Try.ntmps13
  go_wp2
  go_ret2
  refine ⟨ret_tup ?_, rfl⟩
  have e1 : ((u : Int) / 9223372036854775808 == 0) = decide (u < 9223372036854775808) := by
    rw [Bool.eq_iff_iff]; simp only [beq_iff_eq, decide_eq_true_eq]; omega
  have e2 : IntKind.u64.wrap ((u : Int) * 2) = ((2 * u % 18446744073709551616 : Nat) : Int) := by
    rw [IntKind.wrap_u64]; omega
  rw [← e1, ← e2]
  rfl

theorem unit_pack (u : Nat) (hu : u < 18446744073709551616) : ∃ (c : Nat) (x0 y0 : F), unitCut u = c ∧ c ≤ 11 ∧ floatOfInt .f64 ((u : Int) / 2 ^ c) = x0.b ∧ Sc x0 y0 ((c : Int) - 64) ∧ unitLo u = y0 := by
  obtain ⟨g1, g2, g3⟩ := unit_m u (by omega)
  have h1 := Sc_dy (u / 2 ^ unitCut u) ((unitCut u : Int) - 64) (by have : P = 4503599627370496 := rfl; omega) (by omega) (by have := blen_m g2; omega)
  have h2 : floatOfInt .f64 ((u : Int) / 2 ^ unitCut u) = (F.dy (u / 2 ^ unitCut u) 0).b := by
    have h := floatOfInt_dy (u / 2 ^ unitCut u) (by have : P = 4503599627370496 := rfl; omega)
    rw [← h]; simp
  exact ⟨unitCut u, _, _, rfl, g1, h2, h1, rfl⟩
theorem unitOf_a {u : Nat} {y0 : F} (h : unitLo u = y0) (hx : u % 2 ^ unitCut u = 0) : unitOf u = ⟨y0, y0⟩ := by unfold unitOf; rw [if_pos hx, h]
theorem unitOf_b {u : Nat} {y0 : F} (h : unitLo u = y0) (hx : ¬ u % 2 ^ unitCut u = 0) : unitOf u = ⟨y0, (nextF y0 true).1⟩ := by unfold unitOf; rw [if_neg hx, h]

set_option maxRecDepth 100000 in
set_option maxHeartbeats 1000000 in
theorem unitOf_w (u : Nat) (hu : (u : Int) ≤ 18446744073709551615) (w : World) :
    Calls Try.prog 7 #[.int .u64 u] w fun e w' => e = .returned (ivV (unitOf u)) ∧ Below w.heap.size w w' := by
  obtain ⟨c, x0, y0, g0, g1, HC, hsc, hlo⟩ := unit_pack u (by omega)
  have HSc := Lib.hid hsc
  have hb := unit_back u (by omega)
  have ha := fun h => unitOf_a (u := u) hlo h
  have hbb' := fun h => unitOf_b (u := u) hlo h
  rw [g0] at hb ha hbb'
  have hC2 : max (wrap64 ((blen u : Int) - 53)) 0 = (c : Int) := by
    have hl : blen u ≤ 64 := blen_le (by omega)
    rw [IntWalk.wrap64_in _ (by omega), ← g0]
    unfold unitCut
    omega
  have H2 := Lib.hid hC2
  clear hsc hlo g0 hC2
  by_cases hx : u % 2 ^ c = 0
  · have T1 : (IntKind.u64.wrap ((u : Int) / 2 ^ c * 2 ^ c) == (u : Int)) = true := by rw [hb]; simpa using hx
    have HR := Lib.hid (ha hx)
    clear hx ha hbb' hb
    go_enter Try.func7, Try.ntmps7
    go_upto_region 2 with (go_at_call 18; refine (len64_w _ _ (by omega)).mono ?_; rintro e w' ⟨rfl, rfl⟩)
    rw [H2.out]
    go_wp2_with (first | (go_at_call 9; refine (Ldexp_exact _ _ _ _ HSc.out).mono ?_; rintro e w' ⟨rfl, rfl⟩))
    refine bodyPost_ret (v := ivV ⟨y0, y0⟩) (by simp [results, Try.results7, go_sem, ivV]) rfl ⟨?_, ?_⟩
    · rw [HR.out]
    · exact (Below.refl _ _).alloc (Nat.le_refl _) _
  · have T1 : (IntKind.u64.wrap ((u : Int) / 2 ^ c * 2 ^ c) == (u : Int)) = false := by rw [hb]; simpa using hx
    have HR := Lib.hid (hbb' hx)
    clear hx ha hbb' hb
    go_enter Try.func7, Try.ntmps7
    go_upto_region 2 with (go_at_call 18; refine (len64_w _ _ (by omega)).mono ?_; rintro e w' ⟨rfl, rfl⟩)
    rw [H2.out]
    go_wp2_with (first | (go_at_call 9; refine (Ldexp_exact _ _ _ _ HSc.out).mono ?_; rintro e w' ⟨rfl, rfl⟩) | (go_at_call 8; refine (next_F _ _ _).mono ?_; rintro e w1 ⟨rfl, hbb⟩; obtain ⟨hcc, hff⟩ := bcell hbb))
    have s5 : w1.cell? ⟨w.heap.size, 0, none⟩ = some (.float .f64 0) := by (rw [hcc _ _ (by simp)]; simp)
    have s6 : w1.cell? ⟨w.heap.size, 1, none⟩ = some (.float .f64 0) := by (rw [hcc _ _ (by simp)]; simp)
    refine bodyPost_ret (v := ivV ⟨y0, (nextF y0 true).1⟩) (by simp [results, Try.results7, go_sem, ivV, s5, s6]) rfl ⟨?_, ?_⟩
    · rw [HR.out]
    · exact ((((Below.refl _ _).alloc (Nat.le_refl _) _).trans (hbb.mono (by simp))).setCell (by simp) _).setCell (by simp) _

set_option maxRecDepth 100000 in
set_option maxHeartbeats 1000000 in
theorem side_pos (first : Bool) (u b : Nat) (hb : 0 < (b : Int)) (hu : (u : Int) < b) (hb2 : (b : Int) ≤ 18446744073709551615) (w : World) :
    Calls Try.prog 26 #[.bool first, .int .u64 u, .int .u64 b] w fun e w' => e = .returned (.tuple #[.bool first, .int .u64 ((u * 18446744073709551616 / b : Nat) : Int), .int .i64 0]) ∧ Below w.heap.size w w' := by
  go_enter Try.func26, Try.ntmps26
  go_wp2_with (go_at_call 27; refine (div64_w u 0 b hu hb2 (by omega) _).mono ?_; rintro e w1 ⟨rfl, hbb⟩)
  go_ret3
  exact ⟨ret_tup rfl, hbb⟩

set_option maxRecDepth 100000 in
set_option maxHeartbeats 1000000 in
theorem side_zero (first : Bool) (u : Nat) (w : World) :
    Calls Try.prog 26 #[.bool first, .int .u64 u, .int .u64 0] w fun e w' => e = .returned (.tuple #[.bool first, .int .u64 u, .int .i64 0]) ∧ Below w.heap.size w w' := by
  go_enter Try.func26, Try.ntmps26
  go_wp2
  go_ret3
  exact ⟨ret_tup rfl, Below.refl _ _⟩

set_option maxRecDepth 100000 in
set_option maxHeartbeats 1000000 in
theorem split_no (u x : Nat) (hx : x < 18446744073709551616) (h : rightB x = false) (w : World) :
    Calls Try.prog 12 #[.int .u64 u, .float .f64 x] w fun e w' => e = .returned (.tuple #[.bool false, .int .u64 0, .int .i64 2]) ∧ w = w' := by
  have H := Lib.hid h
  clear h
  go_enter Try.func12, Try.ntmps12
  go_wp2_with (go_at_call 11; refine (right_no_w _ hx H.out _).mono ?_; rintro e w1 ⟨rfl, rfl⟩)
  go_ret3
  exact ⟨ret_tup rfl, rfl⟩

theorem lit1 : (4607182418800017408 : Nat) = (F.of 4607182418800017408).b := by decide +kernel
theorem ford1_lt (x : F) : (FloatKind.f64.format.order x.b 4607182418800017408 == some .lt) = decide (x.k < 4607182418800017408) := by rw [lit1, ford_lt, F.of_k (by decide)]
theorem ford1_gt (x : F) : (FloatKind.f64.format.order x.b 4607182418800017408 == some .gt) = decide (4607182418800017408 < x.k) := by rw [lit1, ford_gt, F.of_k (by decide)]
theorem ford1_eq (x : F) : (FloatKind.f64.format.order x.b 4607182418800017408 == some .eq) = decide (x.k = 4607182418800017408) := by rw [lit1, ford_eq, F.of_k (by decide)]

set_option maxRecDepth 100000 in
set_option maxHeartbeats 1000000 in
theorem split_one (u : Nat) (x : F) (hx : x.k = 4607182418800017408) (w : World) :
    Calls Try.prog 12 #[.int .u64 u, .float .f64 x.b] w fun e w' => e = .returned (.tuple #[.bool true, .int .u64 u, .int .i64 0]) ∧ Below w.heap.size w w' := by
  have t1 : (FloatKind.f64.format.order x.b 0 == some .lt) = false := by rw [ford0_lt]; simp; omega
  have t2 : (FloatKind.f64.format.order x.b 4607182418800017408 == some .gt) = false := by rw [ford1_gt]; simp; omega
  have t3 : (FloatKind.f64.format.order x.b 4607182418800017408 == some .lt) = false := by rw [ford1_lt]; simp; omega
  have t4 : (FloatKind.f64.format.order x.b 4607182418800017408 == some .eq) = true := by rw [ford1_eq]; simpa using hx
  clear hx
  go_enter Try.func12, Try.ntmps12
  go_wp2_with (first | (go_at_call 11; refine (right_F_w _ _).mono ?_; rintro e w1 ⟨rfl, rfl⟩) | (go_at_call 26; refine (side_zero _ _ _).mono ?_; rintro e w1 ⟨rfl, hbb⟩))
  go_ret3
  exact ⟨ret_tup rfl, hbb⟩

theorem toInt_u64 (y : F) (b : Nat) (h0 : 0 ≤ y.k) (h : y.z / S = b) (hb : b < 18446744073709551616) (w : World) : (convert 23 22 (.float .f64 y.b)).run Try.prog w = .ok (.int .u64 b) w := by
  refine run_convert_float_int w 23 22 .f64 .u64 y.b b (by rw [Try.underlying23]; rfl) Try.underlying22 ?_
  unfold floatToIntVal
  have e : (FloatKind.f64.decode y.b).toInt .zero = some (y.z / S) := trunc_F y h0
  rw [e]
  simp only
  rw [if_pos, h]
  rw [h]
  have m1 : IntKind.u64.min = 0 := by decide
  have m2 : IntKind.u64.max = 18446744073709551615 := by decide
  rw [m1, m2]
  omega

set_option maxRecDepth 100000 in
set_option maxHeartbeats 1000000 in
/-- below one: a weight's bound, and where a draw is -/
theorem split_lt (u : Nat) (hu : (u : Int) ≤ 18446744073709551615) (x : F) (h0 : 0 ≤ x.k) (hx : x.k < 4607182418800017408) (w : World) :
    Calls Try.prog 12 #[.int .u64 u, .float .f64 x.b] w fun e w' => e = .returned (.tuple #[.bool (splitF u x).1, .int .u64 ((splitF u x).2 : Int), .int .i64 0]) ∧ Below w.heap.size w w' := by
  obtain ⟨y, hsc, hy0, hyz⟩ := scale64 x h0 (by omega)
  obtain ⟨hb, hb2⟩ := splitB_lt x h0
  have hb3 := hb2 y hx hyz
  have t1 : (FloatKind.f64.format.order x.b 0 == some .lt) = false := by rw [ford0_lt]; simp; omega
  have t2 : (FloatKind.f64.format.order x.b 4607182418800017408 == some .gt) = false := by rw [ford1_gt]; simp; omega
  have t3 : (FloatKind.f64.format.order x.b 4607182418800017408 == some .lt) = true := by rw [ford1_lt]; simpa using hx
  have t4 : (FloatKind.f64.format.order x.b 4607182418800017408 == some .eq) = false := by rw [ford1_eq]; simp; omega
  have hne : ¬ x.k = 4607182418800017408 := by omega
  have HR : splitF u x = if u < splitB x then (true, if 0 < splitB x then u * 18446744073709551616 / splitB x else u) else (false, if 0 < splitB x then (u - splitB x) * 18446744073709551616 / (18446744073709551616 - splitB x) else u) := by
    unfold splitF; simp only [hne, false_or]
  generalize splitB x = b at *
  have hcv := toInt_u64 y b hy0 hb3 hb
  have HSc := Lib.hid hsc
  have b1 : (b : Int) ≤ 18446744073709551615 := by omega
  clear hb hb2 hb3 hx h0 hne hyz hsc
  by_cases c1 : u < b
  · have hR := Lib.hid (show splitF u x = (true, u * 18446744073709551616 / b) from by rw [HR, if_pos c1, if_pos (by omega)])
    clear HR
    have c2 : (u : Int) < b := by omega
    go_enter Try.func12, Try.ntmps12
    go_wp2_with (first | (go_at_call 11; refine (right_F_w _ _).mono ?_; rintro e w1 ⟨rfl, rfl⟩) | (go_at_call 9; refine (Ldexp_exact _ _ _ _ HSc.out).mono ?_; rintro e w' ⟨rfl, rfl⟩) | (go_at_call 26; refine (side_pos _ _ _ (by omega) c2 b1 _).mono ?_; rintro e w1 ⟨rfl, hbb⟩))
    go_ret3
    exact ⟨by rw [hR.out]; exact ret_tup rfl, hbb⟩
  · by_cases c3 : b = 0
    · subst c3
      have hR := Lib.hid (show splitF u x = (false, u) from by rw [HR, if_neg c1, if_neg (by omega)])
      clear HR
      have c2 : ¬ (u : Int) < 0 := by omega
      go_enter Try.func12, Try.ntmps12
      go_wp2_with (first | (go_at_call 11; refine (right_F_w _ _).mono ?_; rintro e w1 ⟨rfl, rfl⟩) | (go_at_call 9; refine (Ldexp_exact _ _ _ _ HSc.out).mono ?_; rintro e w' ⟨rfl, rfl⟩) | (go_at_call 26; refine (side_zero _ _ _).mono ?_; rintro e w1 ⟨rfl, hbb⟩))
      go_ret3
      exact ⟨by rw [hR.out]; exact ret_tup rfl, hbb⟩
    · have hR := Lib.hid (show splitF u x = (false, (u - b) * 18446744073709551616 / (18446744073709551616 - b)) from by rw [HR, if_neg c1, if_pos (by omega)])
      clear HR
      have c2 : ¬ (u : Int) < b := by omega
      obtain ⟨v, hv⟩ : ∃ v, v = u - b := ⟨_, rfl⟩
      obtain ⟨d, hd⟩ : ∃ d, d = 18446744073709551616 - b := ⟨_, rfl⟩
      rw [← hv, ← hd] at hR
      have e1 : (u : Int) - b = v := by omega
      have e2 : IntKind.u64.wrap (-(b : Int)) = d := by rw [IntKind.wrap_u64]; omega
      have d1 : (v : Int) < d := by omega
      have d2 : (d : Int) ≤ 18446744073709551615 := by omega
      clear hv hd c1 c3
      go_enter Try.func12, Try.ntmps12
      go_wp2_with (first | (go_at_call 11; refine (right_F_w _ _).mono ?_; rintro e w1 ⟨rfl, rfl⟩) | (go_at_call 9; refine (Ldexp_exact _ _ _ _ HSc.out).mono ?_; rintro e w' ⟨rfl, rfl⟩) | (go_at_call 26; refine (side_pos _ v d (by omega) d1 d2 _).mono ?_; rintro e w1 ⟨rfl, hbb⟩))
      go_ret3
      exact ⟨by rw [hR.out]; exact ret_tup rfl, hbb⟩

set_option maxRecDepth 100000 in
set_option maxHeartbeats 1000000 in
theorem split_bad (u : Nat) (x : F) (h : x.k < 0 ∨ 4607182418800017408 < x.k) (w : World) :
    Calls Try.prog 12 #[.int .u64 u, .float .f64 x.b] w fun e w' => e = .returned (.tuple #[.bool false, .int .u64 0, .int .i64 2]) ∧ w = w' := by
  by_cases h0 : x.k < 0
  · have t1 : (FloatKind.f64.format.order x.b 0 == some .lt) = true := by rw [ford0_lt]; simp; omega
    clear h h0
    go_enter Try.func12, Try.ntmps12
    go_wp2_with (go_at_call 11; refine (right_F_w _ _).mono ?_; rintro e w1 ⟨rfl, rfl⟩)
    go_ret3
    exact ⟨ret_tup rfl, rfl⟩
  · have t1 : (FloatKind.f64.format.order x.b 0 == some .lt) = false := by rw [ford0_lt]; simp; omega
    have t2 : (FloatKind.f64.format.order x.b 4607182418800017408 == some .gt) = true := by rw [ford1_gt]; simp; omega
    clear h h0
    go_enter Try.func12, Try.ntmps12
    go_wp2_with (go_at_call 11; refine (right_F_w _ _).mono ?_; rintro e w1 ⟨rfl, rfl⟩)
    go_ret3
    exact ⟨ret_tup rfl, rfl⟩

/-- of all numbers from 0 to 1 -/
theorem split_w (u : Nat) (hu : (u : Int) ≤ 18446744073709551615) (x : F) (h0 : 0 ≤ x.k) (hx : x.k ≤ 4607182418800017408) (w : World) :
    Calls Try.prog 12 #[.int .u64 u, .float .f64 x.b] w fun e w' => e = .returned (.tuple #[.bool (splitF u x).1, .int .u64 ((splitF u x).2 : Int), .int .i64 0]) ∧ Below w.heap.size w w' := by
  by_cases c : x.k < 4607182418800017408
  · exact split_lt u hu x h0 c w
  · have e : splitF u x = (true, u) := by
      have : splitB x = 0 := by unfold splitB; rw [if_neg c]
      unfold splitF; rw [if_pos (Or.inl (by omega)), this, if_neg (by omega)]
    rw [e]
    exact split_one u x (by omega) w
end Go.Proofs.Ytkgpcnehffiifaa
