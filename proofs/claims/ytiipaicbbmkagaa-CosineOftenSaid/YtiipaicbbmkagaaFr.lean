/- Walks of package dir: parts, rounded. -/
import Derived.Test.YtiipaicbbmkagaaFd
import Derived.Test.YtiipaicbbmkagaaFc
namespace Go.Proofs.Ytiipaicbbmkagaa
set_option linter.all false
open Go.RowKit Bu

theorem ret_tup {a b : Array Value} (h : a = b) : Ending.returned (.tuple a) = .returned (.tuple b) := by rw [h]

set_option maxRecDepth 100000 in
set_option maxHeartbeats 400000 in
theorem parts_F (x : F) (w : World) :
    Calls Try.prog 79 #[.float .f64 x.b] w fun e w' => e = .returned (.tuple #[.bool (decide (x.k < 0)), .int .u64 (man x.k.natAbs), .int .i64 (pl x.k.natAbs - 1074)]) ∧ w = w' := by
  have hb := run_fbits
  have h1 := b_frac x
  have h2 := b_exp x
  have h3 := or_hid x.k.natAbs
  have h4 := (b_parts x).2.2
  have hP : P = 4503599627370496 := rfl
  have hp := Nat.div_add_mod x.k.natAbs P
  by_cases hE : x.k.natAbs / P = 0
  · have hm : man x.k.natAbs = x.k.natAbs % P := by
      have hlt := Nat.mod_lt x.k.natAbs P_pos
      rw [hE, Nat.mul_zero] at hp; unfold man; rw [if_pos (by omega)]; omega
    have hl : pl x.k.natAbs = 0 := by unfold pl; omega
    rw [hm, hl]
    rw [hE] at h2
    clear h3 h4 hP hp hE hm hl
    generalize x.k.natAbs % P = m at *
    go_enter Try.func79, Try.ntmps79
    go_wp2_with (first | (go_at_call 100; refine (signbit_F _ _).mono ?_; rintro e w' ⟨rfl, rfl⟩))
    go_ret3
    exact ⟨ret_tup rfl, rfl⟩
  · have hm : man x.k.natAbs = P + x.k.natAbs % P := by
      unfold man; rw [if_neg]
      intro h; exact hE (Nat.div_eq_of_lt h)
    have hl : (pl x.k.natAbs : Int) - 1074 = ((x.k.natAbs / P : Nat) : Int) + -1074 - 1 := by
      unfold pl; clear h1 h2 h3 hm; generalize x.k.natAbs / P = q at *; omega
    rw [hm, hl]
    have h5 : (1 : Int) ≤ ((x.k.natAbs / P : Nat) : Int) := by omega
    have h6 : ((x.k.natAbs / P : Nat) : Int) < 2047 := by omega
    clear h4 hP hp hE hm hl
    generalize x.k.natAbs % P = m at *
    generalize x.k.natAbs / P = q at *
    generalize P + m = M at *
    go_enter Try.func79, Try.ntmps79
    go_wp2_with (first | (go_at_call 100; refine (signbit_F _ _).mono ?_; rintro e w' ⟨rfl, rfl⟩))
    go_ret3
    exact ⟨ret_tup rfl, rfl⟩


/-- a multiplication of floats, for the walk -/
theorem fmul_exact {x y p : F} (hp : p.k ≠ 0) (h : p.z * S = x.z * y.z) (t : TypeId) (w : World) : (binOp .mul t (.float .f64 x.b) (.float .f64 y.b)).run Try.prog w = .ok (.float .f64 p.b) w :=
  run_float_arith w .mul t .f64 x.b y.b p.b (mul_exact hp h)

def Frung (r : Nat) : F := F.of r
theorem lit52 : (4841369599423283200 : Nat) = (F.of 4841369599423283200).b := by decide +kernel
theorem litmin : (4503599627370496 : Nat) = (F.of 4503599627370496).b := by decide +kernel
theorem lit52z : (F.of 4841369599423283200).z = 4503599627370496 * S := by decide +kernel

set_option maxHeartbeats 400000 in
theorem normalize_norm (x : F) (w : World) (h : P ≤ x.k.natAbs) :
    Calls Try.prog 93 #[.float .f64 x.b] w fun e w' => e = .returned (.tuple #[.float .f64 x.b, .int .i64 0]) ∧ w = w' := by
  have ho : (FloatKind.f64.format.order x.abs.b 4503599627370496 == some .lt) = false := by
    rw [litmin, ford_lt]
    have e : P = 4503599627370496 := rfl
    have e2 : x.abs.k = (x.k.natAbs : Int) := rfl
    rw [F.of_k (by decide), e2]; simp; omega
  go_enter Try.func93, Try.ntmps93
  go_wp2_with (first | (go_at_call 115; refine (abs_F _ _).mono ?_; rintro e w' ⟨rfl, rfl⟩))
  go_ret2
  exact ⟨ret_tup rfl, rfl⟩

set_option maxHeartbeats 400000 in
theorem normalize_sub (x y : F) (w : World) (h : x.k.natAbs < P) (h0 : x.k ≠ 0) (hy : y.z = x.z * 4503599627370496) :
    Calls Try.prog 93 #[.float .f64 x.b] w fun e w' => e = .returned (.tuple #[.float .f64 y.b, .int .i64 (-52)]) ∧ w = w' := by
  have ho : (FloatKind.f64.format.order x.abs.b 4503599627370496 == some .lt) = true := by
    rw [litmin, ford_lt]
    have e : P = 4503599627370496 := rfl
    have e2 : x.abs.k = (x.k.natAbs : Int) := rfl
    rw [F.of_k (by decide), e2]; simp; omega
  have hy0 : y.k ≠ 0 := fun e => h0 ((z_zero x).1 (by have := (z_zero y).2 e; omega))
  have hm := fmul_exact (x := x) (y := F.of 4841369599423283200) (p := y) hy0 (by rw [hy, lit52z, Int.mul_assoc]) 22
  rw [← lit52] at hm
  clear h h0 hy hy0
  go_enter Try.func93, Try.ntmps93
  go_wp2_with (first | (go_at_call 115; refine (abs_F _ _).mono ?_; rintro e w' ⟨rfl, rfl⟩))
  go_ret2
  exact ⟨ret_tup rfl, rfl⟩

theorem litone : (4607182418800017408 : Nat) = (F.of 4607182418800017408).b := by decide +kernel
theorem litone_z : (F.of 4607182418800017408).z = S := by decide +kernel
theorem lit53 : (4368491638549381120 : Nat) = (F.of 4368491638549381120).b := by decide +kernel
theorem lit53_z : (F.of 4368491638549381120).z * 9007199254740992 = S := by decide +kernel

set_option maxRecDepth 100000 in
set_option maxHeartbeats 400000 in
theorem ldexp_C (x x' y : F) (n c : Int) (f : Nat) (w : World) (hx : x.k ≠ 0) (hN : ∀ w, Calls Try.prog 93 #[.float .f64 x.b] w fun e w' => e = .returned (.tuple #[.float .f64 x'.b, .int .i64 c]) ∧ w = w')
    (hc1 : -52 ≤ c) (hc2 : c ≤ 0) (hf1 : 1 ≤ (f : Int)) (hf2 : (f : Int) ≤ 2046) (hfn : n + c + ((x'.k.natAbs / P : Nat) : Int) = f) (hy : y = x'.like (f * P + x'.k.natAbs % P)) :
    Calls Try.prog 50 #[.float .f64 x.b, .int .i64 n] w fun e w' => e = .returned (.float .f64 y.b) ∧ w = w' := by
  have hb := run_fbits
  have hf := run_ffrom
  have ho : (FloatKind.f64.format.order x.b 0 == some .eq) = false := by rw [ford0_eq]; simpa using hx
  have he := b_exp_i x'
  have heq : ((x'.k.natAbs / P : Nat) : Int) < 2047 := by have := b_parts x'; omega
  have hB := ldexp_bits x' f (by omega) (by omega)
  rw [← hy] at hB
  have hy0 : y.k ≠ 0 := by
    intro e
    have h1 := F.like_b x' (f * P + x'.k.natAbs % P) (by have := P_pos; have : 1 * P ≤ f * P := Nat.mul_le_mul_right _ (by omega); omega) (by
      have := Nat.mod_lt x'.k.natAbs P_pos
      have : f * P ≤ 2046 * P := Nat.mul_le_mul_right _ (by omega)
      rw [T_eq]; omega)
    rw [← hy] at h1
    have h2 : y.b = 0 := by unfold F.b; rw [e]; rfl
    have := P_pos
    have : 1 * P ≤ f * P := Nat.mul_le_mul_right _ (by omega)
    split at h1 <;> omega
  have hm := fmul_exact (x := F.of 4607182418800017408) (y := y) (p := y) hy0 (by rw [litone_z, Int.mul_comm]) 22
  rw [← litone] at hm
  generalize x'.k.natAbs / P = q at *
  have g1 : 1 ≤ n + c + q := by omega
  have g2 : n + c + q ≤ 2046 := by omega
  have eB : IntKind.u64.wrap ((f : Int) * 4503599627370496) = (n + c + (q - 1023) + 1023) * 4503599627370496 := by
    rw [IntKind.wrap_u64]; omega
  rw [eB] at hB
  have HN := Lib.hid hN
  clear hfn hy eB hN hx hy0 hf1 hf2
  go_enter Try.func50, Try.ntmps50
  go_wp2_with (first | (go_at_call 93; refine (HN.out _).mono ?_; rintro e w' ⟨rfl, rfl⟩) | (go_at_call 92; refine (isNaN_F _ _).mono ?_; rintro e w' ⟨rfl, rfl⟩) | (go_at_call 91; refine (isInf_F _ _).mono ?_; rintro e w' ⟨rfl, rfl⟩) )
  go_ret
  exact ⟨ret_float rfl, rfl⟩

set_option maxRecDepth 100000 in
set_option maxHeartbeats 400000 in
theorem ldexp_D (x x' y y' : F) (n c : Int) (f : Nat) (w : World) (hx : x.k ≠ 0) (hN : ∀ w, Calls Try.prog 93 #[.float .f64 x.b] w fun e w' => e = .returned (.tuple #[.float .f64 x'.b, .int .i64 c]) ∧ w = w')
    (hc1 : -52 ≤ c) (hc2 : c ≤ 0) (hf1 : 1 ≤ (f : Int)) (hf2 : (f : Int) ≤ 53) (hfn : n + c + ((x'.k.natAbs / P : Nat) : Int) + 53 = f) (hy : y = x'.like (f * P + x'.k.natAbs % P))
    (hy0 : y'.k ≠ 0) (hy' : y.z = y'.z * 9007199254740992) :
    Calls Try.prog 50 #[.float .f64 x.b, .int .i64 n] w fun e w' => e = .returned (.float .f64 y'.b) ∧ w = w' := by
  have hb := run_fbits
  have hf := run_ffrom
  have ho : (FloatKind.f64.format.order x.b 0 == some .eq) = false := by rw [ford0_eq]; simpa using hx
  have he := b_exp_i x'
  have heq : ((x'.k.natAbs / P : Nat) : Int) < 2047 := by have := b_parts x'; omega
  have hB := ldexp_bits x' f (by omega) (by omega)
  rw [← hy] at hB
  have hm := fmul_exact (x := F.of 4368491638549381120) (y := y) (p := y') hy0 (by rw [hy', ← lit53_z, ← Int.mul_assoc, Int.mul_comm y'.z]; grind) 22
  rw [← lit53] at hm
  generalize x'.k.natAbs / P = q at *
  have g1 : 1 ≤ n + c + q + 53 := by omega
  have g2 : n + c + q ≤ 0 := by omega
  have eB : IntKind.u64.wrap ((f : Int) * 4503599627370496) = (n + c + (q - 1023) + 53 + 1023) * 4503599627370496 := by
    rw [IntKind.wrap_u64]; omega
  rw [eB] at hB
  have HN := Lib.hid hN
  clear hfn hy eB hN hx hy0 hy' hf1 hf2
  go_enter Try.func50, Try.ntmps50
  go_wp2_with (first | (go_at_call 93; refine (HN.out _).mono ?_; rintro e w' ⟨rfl, rfl⟩) | (go_at_call 92; refine (isNaN_F _ _).mono ?_; rintro e w' ⟨rfl, rfl⟩) | (go_at_call 91; refine (isInf_F _ _).mono ?_; rintro e w' ⟨rfl, rfl⟩) )
  go_ret
  exact ⟨ret_float rfl, rfl⟩

theorem ldexp_norm (x x' y : F) (n c : Int) (w : World) (hx : x.k ≠ 0) (hN : ∀ w, Calls Try.prog 93 #[.float .f64 x.b] w fun e w' => e = .returned (.tuple #[.float .f64 x'.b, .int .i64 c]) ∧ w = w')
    (hc1 : -52 ≤ c) (hc : c ≤ 0) (h : Sc x y n) (hP : P ≤ x'.k.natAbs) (hxx : nv x'.k.natAbs = nv x.k.natAbs * 2 ^ (-c).toNat) (hs : x'.k < 0 ↔ x.k < 0) :
    Calls Try.prog 50 #[.float .f64 x.b, .int .i64 n] w fun e w' => e = .returned (.float .f64 y.b) ∧ w = w' := by
  have hy0 : y.k ≠ 0 := by
    intro e
    have hab := h.abs
    rw [e, Int.natAbs_zero, nv_zero, Nat.zero_mul] at hab
    have : nv x.k.natAbs = 0 := by
      rcases Nat.mul_eq_zero.1 hab.symm with e | e
      · exact e
      · have := Nat.two_pow_pos n.toNat; omega
    have := nv_inj (this.trans nv_zero.symm)
    omega
  rcases ldexp_parts h hx hc hP hxx hs with ⟨h1, h2, h3⟩ | ⟨h1, h2, h3⟩
  · obtain ⟨f, hf⟩ := Int.eq_ofNat_of_zero_le (show 0 ≤ n + c + ((x'.k.natAbs / P : Nat) : Int) by omega)
    rw [hf] at h1 h2 h3
    exact ldexp_C x x' y n c f w hx hN hc1 hc h1 h2 hf (by rw [h3, Int.toNat_natCast])
  · obtain ⟨f, hf⟩ := Int.eq_ofNat_of_zero_le (show 0 ≤ n + c + ((x'.k.natAbs / P : Nat) : Int) + 53 by omega)
    rw [hf] at h1 h2 h3
    exact ldexp_D x x' _ y n c f w hx hN hc1 hc h1 h2 hf rfl hy0 (by rw [← h3, Int.toNat_natCast])

set_option maxHeartbeats 400000 in
theorem ldexp_zero (n : Int) (w : World) :
    Calls Try.prog 50 #[.float .f64 0, .int .i64 n] w fun e w' => e = .returned (.float .f64 0) ∧ w = w' := by
  have ho : (FloatKind.f64.format.order 0 0 == some .eq) = true := by decide
  go_enter Try.func50, Try.ntmps50
  go_wp2
  go_ret
  exact ⟨ret_float rfl, rfl⟩

theorem ldexp_exact (x y : F) (n : Int) (w : World) (h : Sc x y n) :
    Calls Try.prog 50 #[.float .f64 x.b, .int .i64 n] w fun e w' => e = .returned (.float .f64 y.b) ∧ w = w' := by
  by_cases hx : x.k = 0
  · have e1 : x = F.zero := F.ext' hx
    have e2 : y = F.zero := by
      apply F.ext'
      apply (z_zero y).1
      unfold Sc at h
      rw [(z_zero x).2 hx, Int.zero_mul] at h
      rcases Int.mul_eq_zero.1 h with e | e
      · exact e
      · have := Nat.two_pow_pos (-n).toNat; omega
    subst e1 e2
    rw [b_zero]
    exact ldexp_zero n w
  by_cases hP : P ≤ x.k.natAbs
  · exact ldexp_norm x x y n 0 w hx (fun w => normalize_norm x w hP) (by omega) (by omega) h hP (by simp) (Iff.rfl)
  · obtain ⟨x', h1, h2, h3, h4⟩ := lift_sub x (by omega) hx
    exact ldexp_norm x x' y n (-52) w hx (fun w => normalize_sub x x' w (by omega) hx h1) (by omega) (by omega) h h2 h3 h4

set_option maxHeartbeats 400000 in
/-- math.Ldexp, where the product is a number -/
theorem Ldexp_exact (x y : F) (n : Int) (w : World) (h : Sc x y n) :
    Calls Try.prog 17 #[.float .f64 x.b, .int .i64 n] w fun e w' => e = .returned (.float .f64 y.b) ∧ w = w' := by
  have H := Lib.hid h
  clear h
  go_enter Try.func17, Try.ntmps17
  go_wp2_with (go_at_call 50; refine (ldexp_exact x y n _ H.out).mono ?_; rintro e w' ⟨rfl, rfl⟩)
  go_ret
  exact ⟨ret_float rfl, rfl⟩
end Go.Proofs.Ytiipaicbbmkagaa
