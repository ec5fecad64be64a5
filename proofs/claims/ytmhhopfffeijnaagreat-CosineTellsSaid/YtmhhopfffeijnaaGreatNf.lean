/- Walks of math.Frexp and math.Ldexp, at all numbers. -/
import Derived.Test.YtmhhopfffeijnaaGreatNe
import Derived.Test.YtmhhopfffeijnaaGreatGm
namespace Go.Proofs.YtmhhopfffeijnaaGreat
set_option linter.all false
open Go.RowKit Bu

set_option maxRecDepth 100000 in
set_option maxHeartbeats 400000 in
theorem frexp_C (x x' : F) (c : Int) (w : World) (hx : x.k ≠ 0) (hN : ∀ w, Calls Tryz.prog 206 #[.float .f64 x.b] w fun e w' => e = .returned (.tuple #[.float .f64 x'.b, .int .i64 c]) ∧ w = w')
    (hc1 : -52 ≤ c) (hc2 : c ≤ 0) :
    Calls Tryz.prog 210 #[.float .f64 x.b] w fun e w' => e = .returned (.tuple #[.float .f64 (x'.like (1022 * Bu.P + x'.k.natAbs % Bu.P)).b, .int .i64 (((x'.k.natAbs / Bu.P : Nat) : Int) - 1022 + c)]) ∧ w = w' := by
  have hb := run_fbits
  have hf := run_ffrom
  have ho : (FloatKind.f64.format.order x.b 0 == some .eq) = false := by rw [ford0_eq]; simpa using hx
  have he := b_exp x'
  have heq : ((x'.k.natAbs / Bu.P : Nat) : Int) < 2047 := by have := b_parts x'; omega
  have hB := ldexp_bits x' 1022 (by decide) (by decide)
  have eB : IntKind.u64.wrap ((1022 : Nat) * 4503599627370496) = 4602678819172646912 := by decide
  rw [eB] at hB
  generalize x'.k.natAbs / Bu.P = q at *
  have HN := Lib.hid hN
  clear hN hx eB
  go_enter Tryz.func210, Tryz.ntmps210
  go_wp2_with (first | (go_at_call 206; refine (HN.out _).mono ?_; rintro e w' ⟨rfl, rfl⟩) | (go_at_call 165; refine (isNaN_F _ _).mono ?_; rintro e w' ⟨rfl, rfl⟩) | (go_at_call 166; refine (isInf_F _ _).mono ?_; rintro e w' ⟨rfl, rfl⟩) )
  go_ret2
  refine ⟨ret_tup ?_, rfl⟩
  rw [show ((q : Int) - 1022 + c) = c + ((q : Int) - 1023 + 1) by omega]
  rfl
theorem nm_w (x : F) (hx : x.k ≠ 0) (w : World) : Calls Tryz.prog 206 #[.float .f64 x.b] w fun e w' => e = .returned (.tuple #[.float .f64 (nmF x).1.b, .int .i64 (nmF x).2]) ∧ w = w' := by
  unfold nmF
  by_cases c : Bu.P ≤ x.k.natAbs
  · rw [if_pos c]; exact normalize_norm x w c
  · rw [if_neg c]
    obtain ⟨x', h1, h2, h3, h4⟩ := lift_sub x (by omega) hx
    rw [lift_eq h1]
    exact normalize_sub x x' w (by omega) hx h1
theorem Frexp_w (x : F) (hx : x.k ≠ 0) (w : World) : Calls Tryz.prog 185 #[.float .f64 x.b] w fun e w' => e = .returned (.tuple #[.float .f64 (frF x).b, .int .i64 (exF x)]) ∧ w = w' := by
  have hc := (nm_ok hx).c
  have H := Lib.hid (fun w => frexp_C x (nmF x).1 (nmF x).2 w hx (nm_w x hx) (by omega) (by omega))
  clear hc
  go_enter Tryz.func185, Tryz.ntmps185
  go_wp2_with (go_at_call 210; refine (H.out _).mono ?_; rintro e w' ⟨rfl, rfl⟩)
  go_ret2
  exact ⟨ret_tup rfl, rfl⟩
set_option maxRecDepth 100000 in
set_option maxHeartbeats 400000 in
theorem ldexp_S (x x' : F) (n c : Int) (f : Nat) (W : Nat) (w : World) (hx : x.k ≠ 0) (hN : ∀ w, Calls Tryz.prog 206 #[.float .f64 x.b] w fun e w' => e = .returned (.tuple #[.float .f64 x'.b, .int .i64 c]) ∧ w = w')
    (hc1 : -52 ≤ c) (hc2 : c ≤ 0) (hf1 : 1 ≤ (f : Int)) (hf2 : (f : Int) ≤ 53) (hfn : n + c + ((x'.k.natAbs / Bu.P : Nat) : Int) + 53 = f)
    (hW : Ieee.double.mul F53.b (x'.like (f * Bu.P + x'.k.natAbs % Bu.P)).b = some W) :
    Calls Tryz.prog 176 #[.float .f64 x.b, .int .i64 n] w fun e w' => e = .returned (.float .f64 W) ∧ w = w' := by
  have hb := run_fbits
  have hf := run_ffrom
  have ho : (FloatKind.f64.format.order x.b 0 == some .eq) = false := by rw [ford0_eq]; simpa using hx
  have he := b_exp_i x'
  have heq : ((x'.k.natAbs / Bu.P : Nat) : Int) < 2047 := by have := b_parts x'; omega
  have hB := ldexp_bits x' f (by omega) (by omega)
  have hm := fun w => run_float_arith (P := Tryz.prog) w .mul 22 .f64 F53.b (x'.like (f * Bu.P + x'.k.natAbs % Bu.P)).b W hW
  rw [show F53.b = 4368491638549381120 from lit53.symm] at hm
  generalize x'.k.natAbs / Bu.P = q at *
  have g1 : 1 ≤ n + c + q + 53 := by omega
  have g2 : n + c + q ≤ 0 := by omega
  have eB : IntKind.u64.wrap ((f : Int) * 4503599627370496) = (n + c + (q - 1023) + 53 + 1023) * 4503599627370496 := by
    rw [IntKind.wrap_u64]; omega
  rw [eB] at hB
  have HN := Lib.hid hN
  clear hfn eB hN hx hf1 hf2 hW
  generalize x'.like (f * Bu.P + x'.k.natAbs % Bu.P) = y at *
  go_enter Tryz.func176, Tryz.ntmps176
  go_wp2_with (first | (go_at_call 206; refine (HN.out _).mono ?_; rintro e w' ⟨rfl, rfl⟩) | (go_at_call 165; refine (isNaN_F _ _).mono ?_; rintro e w' ⟨rfl, rfl⟩) | (go_at_call 166; refine (isInf_F _ _).mono ?_; rintro e w' ⟨rfl, rfl⟩) )
  go_ret
  exact ⟨ret_float rfl, rfl⟩
theorem inf_pos (w : World) : Calls Tryz.prog 183 #[.int .i64 1] w fun e w' => e = .returned (.float .f64 INF) ∧ w = w' := by
  have hf := run_ffrom
  go_enter Tryz.func183, Tryz.ntmps183
  go_wp2
  go_ret
  exact ⟨ret_float rfl, rfl⟩
theorem inf_neg (w : World) : Calls Tryz.prog 183 #[.int .i64 (-1)] w fun e w' => e = .returned (.float .f64 NINF) ∧ w = w' := by
  have hf := run_ffrom
  go_enter Tryz.func183, Tryz.ntmps183
  go_wp2
  go_ret
  exact ⟨ret_float rfl, rfl⟩
/-- a zero with a number's sign -/
theorem copy_w (x : F) (w : World) : Calls Tryz.prog 207 #[.float .f64 0, .float .f64 x.b] w fun e w' => e = .returned (.float .f64 (if x.k < 0 then NEG0 else 0)) ∧ w = w' := by
  have hb := run_fbits
  have hf := run_ffrom
  have hs := b_sign x
  have hlt := x.b_lt
  have h1 : bits BinOp.and IntKind.u64 (x.b : Int) 9223372036854775808 = ((if x.k < 0 then 9223372036854775808 else 0 : Nat) : Int) := by
    rw [show (9223372036854775808 : Int) = ((9223372036854775808 : Nat) : Int) from rfl, u64_and_nat _ _ hlt (by omega), show (9223372036854775808 : Nat) = 2 ^ 63 from rfl, nat_bit 63, ← hs]
  have h2 : bits BinOp.or IntKind.u64 (bits BinOp.andNot IntKind.u64 0 9223372036854775808) ((if x.k < 0 then 9223372036854775808 else 0 : Nat) : Int) = ((if x.k < 0 then NEG0 else 0 : Nat) : Int) := by
    split <;> decide
  generalize (if x.k < 0 then 9223372036854775808 else 0 : Nat) = g at *
  generalize (if x.k < 0 then NEG0 else 0 : Nat) = z at *
  clear hs hlt
  go_enter Tryz.func207, Tryz.ntmps207
  go_wp2
  go_ret
  exact ⟨ret_float rfl, rfl⟩
set_option maxRecDepth 100000 in
set_option maxHeartbeats 400000 in
theorem ldexp_I (x x' : F) (n c : Int) (w : World) (hx : x.k ≠ 0) (hN : ∀ w, Calls Tryz.prog 206 #[.float .f64 x.b] w fun e w' => e = .returned (.tuple #[.float .f64 x'.b, .int .i64 c]) ∧ w = w')
    (hc1 : -52 ≤ c) (hc2 : c ≤ 0) (hn : n ≤ 6000) (hfn : 2047 ≤ n + c + ((x'.k.natAbs / Bu.P : Nat) : Int)) :
    Calls Tryz.prog 176 #[.float .f64 x.b, .int .i64 n] w fun e w' => e = .returned (.float .f64 (if x'.k < 0 then NINF else INF)) ∧ w = w' := by
  have hb := run_fbits
  have hf := run_ffrom
  have ho : (FloatKind.f64.format.order x.b 0 == some .eq) = false := by rw [ford0_eq]; simpa using hx
  have ho2 := ford0_lt x'
  have he := b_exp_i x'
  have heq : ((x'.k.natAbs / Bu.P : Nat) : Int) < 2047 := by have := b_parts x'; omega
  generalize x'.k.natAbs / Bu.P = q at *
  have g1 : 2047 ≤ n + c + q := by omega
  have HN := Lib.hid hN
  clear hN hx hfn
  by_cases hk : x'.k < 0
  · rw [if_pos hk]
    rw [decide_eq_true hk] at ho2
    clear hk
    go_enter Tryz.func176, Tryz.ntmps176
    go_wp2_with (first | (go_at_call 206; refine (HN.out _).mono ?_; rintro e w' ⟨rfl, rfl⟩) | (go_at_call 165; refine (isNaN_F _ _).mono ?_; rintro e w' ⟨rfl, rfl⟩) | (go_at_call 166; refine (isInf_F _ _).mono ?_; rintro e w' ⟨rfl, rfl⟩) | (go_at_call 183; refine (inf_neg _).mono ?_; rintro e w' ⟨rfl, rfl⟩))
    go_ret
    exact ⟨ret_float rfl, rfl⟩
  · rw [if_neg hk]
    rw [decide_eq_false hk] at ho2
    clear hk
    go_enter Tryz.func176, Tryz.ntmps176
    go_wp2_with (first | (go_at_call 206; refine (HN.out _).mono ?_; rintro e w' ⟨rfl, rfl⟩) | (go_at_call 165; refine (isNaN_F _ _).mono ?_; rintro e w' ⟨rfl, rfl⟩) | (go_at_call 166; refine (isInf_F _ _).mono ?_; rintro e w' ⟨rfl, rfl⟩) | (go_at_call 183; refine (inf_pos _).mono ?_; rintro e w' ⟨rfl, rfl⟩))
    go_ret
    exact ⟨ret_float rfl, rfl⟩
set_option maxRecDepth 100000 in
set_option maxHeartbeats 400000 in
theorem ldexp_N (x x' : F) (n c : Int) (w : World) (hx : x.k ≠ 0) (hN : ∀ w, Calls Tryz.prog 206 #[.float .f64 x.b] w fun e w' => e = .returned (.tuple #[.float .f64 x'.b, .int .i64 c]) ∧ w = w')
    (hc1 : -52 ≤ c) (hc2 : c ≤ 0) (hn : -6000 ≤ n) (hfn : n + c + ((x'.k.natAbs / Bu.P : Nat) : Int) < -52) :
    Calls Tryz.prog 176 #[.float .f64 x.b, .int .i64 n] w fun e w' => e = .returned (.float .f64 (if x'.k < 0 then NEG0 else 0)) ∧ w = w' := by
  have hb := run_fbits
  have hf := run_ffrom
  have ho : (FloatKind.f64.format.order x.b 0 == some .eq) = false := by rw [ford0_eq]; simpa using hx
  have he := b_exp_i x'
  have heq : ((x'.k.natAbs / Bu.P : Nat) : Int) < 2047 := by have := b_parts x'; omega
  have hs := copy_w x'
  generalize (if x'.k < 0 then NEG0 else 0) = z at *
  generalize x'.k.natAbs / Bu.P = q at *
  have g1 : n + c + q < -52 := by omega
  have HN := Lib.hid hN
  have HS := Lib.hid hs
  clear hN hx hfn hs
  go_enter Tryz.func176, Tryz.ntmps176
  go_wp2_with (first | (go_at_call 206; refine (HN.out _).mono ?_; rintro e w' ⟨rfl, rfl⟩) | (go_at_call 165; refine (isNaN_F _ _).mono ?_; rintro e w' ⟨rfl, rfl⟩) | (go_at_call 166; refine (isInf_F _ _).mono ?_; rintro e w' ⟨rfl, rfl⟩) | (go_at_call 207; refine (HS.out _).mono ?_; rintro e w' ⟨rfl, rfl⟩))
  go_ret
  exact ⟨ret_float rfl, rfl⟩
theorem ldexp_w (x : F) (n : Int) (h1 : -6000 ≤ n) (h2 : n ≤ 6000) (w : World) : Calls Tryz.prog 176 #[.float .f64 x.b, .int .i64 n] w fun e w' => e = .returned (.float .f64 (ldW x n)) ∧ w = w' := by
  by_cases hx : x.k = 0
  · have e : x = F.zero := F.ext' hx
    subst e
    have z0 : F.zero.z = 0 := (z_zero F.zero).2 rfl
    have : ldW F.zero n = 0 := by unfold ldW wrd; rw [z0, Int.zero_mul, if_pos rfl]
    rw [this, b_zero]
    exact ldexp_zero n w
  · have hm := nm_ok hx
    have hN := nm_w x hx
    have hq := hm.q
    have hc := hm.c
    have hs := hm.sg
    generalize (nmF x).1 = x' at *
    generalize (nmF x).2 = c at *
    by_cases c1 : 2047 ≤ n + c + ((x'.k.natAbs / Bu.P : Nat) : Int)
    · rw [ld_inf hm c1, show (if x.k < 0 then NINF else INF) = if x'.k < 0 then NINF else INF from by simp only [hs]]
      exact ldexp_I x x' n c w hx hN (by omega) (by omega) h2 c1
    · by_cases c2 : n + c + ((x'.k.natAbs / Bu.P : Nat) : Int) < -52
      · rw [ld_none hm c2, show (if x.k < 0 then NEG0 else 0) = if x'.k < 0 then NEG0 else 0 from by simp only [hs]]
        exact ldexp_N x x' n c w hx hN (by omega) (by omega) h1 c2
      · by_cases c3 : 1 ≤ n + c + ((x'.k.natAbs / Bu.P : Nat) : Int)
        · obtain ⟨f, hf⟩ := Int.eq_ofNat_of_zero_le (show 0 ≤ n + c + ((x'.k.natAbs / Bu.P : Nat) : Int) by omega)
          rw [ld_norm (f := f) hm hf (by omega) (by omega)]
          exact ldexp_C x x' _ n c f w hx hN (by omega) (by omega) (by omega) (by omega) hf rfl
        · obtain ⟨f, hf⟩ := Int.eq_ofNat_of_zero_le (show 0 ≤ n + c + ((x'.k.natAbs / Bu.P : Nat) : Int) + 53 by omega)
          exact ldexp_S x x' n c f _ w hx hN (by omega) (by omega) (by omega) (by omega) hf (ld_sub hm hf (by omega) (by omega))
set_option maxHeartbeats 400000 in
/-- math.Ldexp, rounded -/
theorem Ldexp_w (x : F) (n : Int) (h1 : -6000 ≤ n) (h2 : n ≤ 6000) (w : World) : Calls Tryz.prog 105 #[.float .f64 x.b, .int .i64 n] w fun e w' => e = .returned (.float .f64 (ldW x n)) ∧ w = w' := by
  have H := Lib.hid (fun w => ldexp_w x n h1 h2 w)
  clear h1 h2
  go_enter Tryz.func105, Tryz.ntmps105
  go_wp2_with (go_at_call 176; refine (H.out _).mono ?_; rintro e w' ⟨rfl, rfl⟩)
  go_ret
  exact ⟨ret_float rfl, rfl⟩
/-- .. of minus 0 -/
theorem Ldexp_NEG0 (n : Int) (w : World) : Calls Tryz.prog 105 #[.float .f64 NEG0, .int .i64 n] w fun e w' => e = .returned (.float .f64 NEG0) ∧ w = w' := by
  have ho : (FloatKind.f64.format.order NEG0 0 == some .eq) = true := by decide
  have H : ∀ w, Calls Tryz.prog 176 #[.float .f64 NEG0, .int .i64 n] w fun e w' => e = .returned (.float .f64 NEG0) ∧ w = w' := by
    intro w
    generalize NEG0 = z at *
    go_enter Tryz.func176, Tryz.ntmps176
    go_wp2
    go_ret
    exact ⟨ret_float rfl, rfl⟩
  have H := Lib.hid H
  clear ho
  generalize NEG0 = z at *
  go_enter Tryz.func105, Tryz.ntmps105
  go_wp2_with (go_at_call 176; refine (H.out _).mono ?_; rintro e w' ⟨rfl, rfl⟩)
  go_ret
  exact ⟨ret_float rfl, rfl⟩
end Go.Proofs.YtmhhopfffeijnaaGreat
