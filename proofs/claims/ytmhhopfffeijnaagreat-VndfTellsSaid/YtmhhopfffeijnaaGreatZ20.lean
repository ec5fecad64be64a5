/- Walks of math.Frexp and math.Ldexp, at all numbers. What the document's answers take for known: numbers taken apart and scaled, neighbours, a product and a sum. Contracts of package math, as the document's answers use it; and of their first functions. -/
import Derived.Test.YtmhhopfffeijnaaGreatZ19
import Derived.Test.YtmhhopfffeijnaaGreatZ08
import Derived.Test.YtmhhopfffeijnaaGreatZ05
import Derived.Test.YtmhhopfffeijnaaGreatZ04
namespace Go.Proofs.YtmhhopfffeijnaaGreat
set_option linter.all false
open Go.RowKit Bu

set_option maxRecDepth 100000 in
set_option maxHeartbeats 400000 in
theorem frexp_C (x x' : F) (c : Int) (w : World) (hx : x.k ≠ 0) (hN : ∀ w, Calls Tryz.prog 206 #[.float .f64 x.b] w fun e w' => e = .returned (.tuple #[.float .f64 x'.b, .int .i64 c]) ∧ w = w')
    (hc1 : -52 ≤ c) (hc2 : c ≤ 0) :
    Calls Tryz.prog 210 #[.float .f64 x.b] w fun e w' => e = .returned (.tuple #[.float .f64 (x'.like (1022 * Bu.P + x'.k.natAbs % Bu.P)).b, .int .i64 (((x'.k.natAbs / Bu.P : Nat) : Int) - 1022 + c)]) ∧ w = w' := by
  have hb := run_fbits
  have hf := run_ffrom
  have ho : (FloatKind.f64.format.order x.b 0 == some .eq) = false := by rw [ford0_eq]; simpa using hx
  have he := b_exp x'
  have heq : ((x'.k.natAbs / Bu.P : Nat) : Int) < 2047 := by have := b_parts x'; omega
  have hB := ldexp_bits x' 1022 (by decide) (by decide)
  have eB : IntKind.u64.wrap ((1022 : Nat) * 4503599627370496) = 4602678819172646912 := by decide
  rw [eB] at hB
  generalize x'.k.natAbs / Bu.P = q at *
  have HN := Lib.hid hN
  clear hN hx eB
  go_enter Tryz.func210, Tryz.ntmps210
  go_wp2_with (first | (go_at_call 206; refine (HN.out _).mono ?_; rintro e w' ⟨rfl, rfl⟩) | (go_at_call 165; refine (isNaN_F _ _).mono ?_; rintro e w' ⟨rfl, rfl⟩) | (go_at_call 166; refine (isInf_F _ _).mono ?_; rintro e w' ⟨rfl, rfl⟩) )
  go_ret2
  refine ⟨ret_tup ?_, rfl⟩
  rw [show ((q : Int) - 1022 + c) = c + ((q : Int) - 1023 + 1) by omega]
  rfl
theorem nm_w (x : F) (hx : x.k ≠ 0) (w : World) : Calls Tryz.prog 206 #[.float .f64 x.b] w fun e w' => e = .returned (.tuple #[.float .f64 (nmF x).1.b, .int .i64 (nmF x).2]) ∧ w = w' := by
  unfold nmF
  by_cases c : Bu.P ≤ x.k.natAbs
  · rw [if_pos c]; exact normalize_norm x w c
  · rw [if_neg c]
    obtain ⟨x', h1, h2, h3, h4⟩ := lift_sub x (by omega) hx
    rw [lift_eq h1]
    exact normalize_sub x x' w (by omega) hx h1
theorem Frexp_w (x : F) (hx : x.k ≠ 0) (w : World) : Calls Tryz.prog 185 #[.float .f64 x.b] w fun e w' => e = .returned (.tuple #[.float .f64 (frF x).b, .int .i64 (exF x)]) ∧ w = w' := by
  have hc := (nm_ok hx).c
  have H := Lib.hid (fun w => frexp_C x (nmF x).1 (nmF x).2 w hx (nm_w x hx) (by omega) (by omega))
  clear hc
  go_enter Tryz.func185, Tryz.ntmps185
  go_wp2_with (go_at_call 210; refine (H.out _).mono ?_; rintro e w' ⟨rfl, rfl⟩)
  go_ret2
  exact ⟨ret_tup rfl, rfl⟩
set_option maxRecDepth 100000 in
set_option maxHeartbeats 400000 in
theorem ldexp_S (x x' : F) (n c : Int) (f : Nat) (W : Nat) (w : World) (hx : x.k ≠ 0) (hN : ∀ w, Calls Tryz.prog 206 #[.float .f64 x.b] w fun e w' => e = .returned (.tuple #[.float .f64 x'.b, .int .i64 c]) ∧ w = w')
    (hc1 : -52 ≤ c) (hc2 : c ≤ 0) (hf1 : 1 ≤ (f : Int)) (hf2 : (f : Int) ≤ 53) (hfn : n + c + ((x'.k.natAbs / Bu.P : Nat) : Int) + 53 = f)
    (hW : Ieee.double.mul F53.b (x'.like (f * Bu.P + x'.k.natAbs % Bu.P)).b = some W) :
    Calls Tryz.prog 176 #[.float .f64 x.b, .int .i64 n] w fun e w' => e = .returned (.float .f64 W) ∧ w = w' := by
  have hb := run_fbits
  have hf := run_ffrom
  have ho : (FloatKind.f64.format.order x.b 0 == some .eq) = false := by rw [ford0_eq]; simpa using hx
  have he := b_exp_i x'
  have heq : ((x'.k.natAbs / Bu.P : Nat) : Int) < 2047 := by have := b_parts x'; omega
  have hB := ldexp_bits x' f (by omega) (by omega)
  have hm := fun w => run_float_arith (P := Tryz.prog) w .mul 22 .f64 F53.b (x'.like (f * Bu.P + x'.k.natAbs % Bu.P)).b W hW
  rw [show F53.b = 4368491638549381120 from lit53.symm] at hm
  generalize x'.k.natAbs / Bu.P = q at *
  have g1 : 1 ≤ n + c + q + 53 := by omega
  have g2 : n + c + q ≤ 0 := by omega
  have eB : IntKind.u64.wrap ((f : Int) * 4503599627370496) = (n + c + (q - 1023) + 53 + 1023) * 4503599627370496 := by
    rw [IntKind.wrap_u64]; omega
  rw [eB] at hB
  have HN := Lib.hid hN
  clear hfn eB hN hx hf1 hf2 hW
  generalize x'.like (f * Bu.P + x'.k.natAbs % Bu.P) = y at *
  go_enter Tryz.func176, Tryz.ntmps176
  go_wp2_with (first | (go_at_call 206; refine (HN.out _).mono ?_; rintro e w' ⟨rfl, rfl⟩) | (go_at_call 165; refine (isNaN_F _ _).mono ?_; rintro e w' ⟨rfl, rfl⟩) | (go_at_call 166; refine (isInf_F _ _).mono ?_; rintro e w' ⟨rfl, rfl⟩) )
  go_ret
  exact ⟨ret_float rfl, rfl⟩
theorem inf_pos (w : World) : Calls Tryz.prog 183 #[.int .i64 1] w fun e w' => e = .returned (.float .f64 INF) ∧ w = w' := by
  have hf := run_ffrom
  go_enter Tryz.func183, Tryz.ntmps183
  go_wp2
  go_ret
  exact ⟨ret_float rfl, rfl⟩
theorem inf_neg (w : World) : Calls Tryz.prog 183 #[.int .i64 (-1)] w fun e w' => e = .returned (.float .f64 NINF) ∧ w = w' := by
  have hf := run_ffrom
  go_enter Tryz.func183, Tryz.ntmps183
  go_wp2
  go_ret
  exact ⟨ret_float rfl, rfl⟩
/-- a zero with a number's sign -/
theorem copy_w (x : F) (w : World) : Calls Tryz.prog 207 #[.float .f64 0, .float .f64 x.b] w fun e w' => e = .returned (.float .f64 (if x.k < 0 then NEG0 else 0)) ∧ w = w' := by
  have hb := run_fbits
  have hf := run_ffrom
  have hs := b_sign x
  have hlt := x.b_lt
  have h1 : bits BinOp.and IntKind.u64 (x.b : Int) 9223372036854775808 = ((if x.k < 0 then 9223372036854775808 else 0 : Nat) : Int) := by
    rw [show (9223372036854775808 : Int) = ((9223372036854775808 : Nat) : Int) from rfl, u64_and_nat _ _ hlt (by omega), show (9223372036854775808 : Nat) = 2 ^ 63 from rfl, nat_bit 63, ← hs]
  have h2 : bits BinOp.or IntKind.u64 (bits BinOp.andNot IntKind.u64 0 9223372036854775808) ((if x.k < 0 then 9223372036854775808 else 0 : Nat) : Int) = ((if x.k < 0 then NEG0 else 0 : Nat) : Int) := by
    split <;> decide
  generalize (if x.k < 0 then 9223372036854775808 else 0 : Nat) = g at *
  generalize (if x.k < 0 then NEG0 else 0 : Nat) = z at *
  clear hs hlt
  go_enter Tryz.func207, Tryz.ntmps207
  go_wp2
  go_ret
  exact ⟨ret_float rfl, rfl⟩
set_option maxRecDepth 100000 in
set_option maxHeartbeats 400000 in
theorem ldexp_I (x x' : F) (n c : Int) (w : World) (hx : x.k ≠ 0) (hN : ∀ w, Calls Tryz.prog 206 #[.float .f64 x.b] w fun e w' => e = .returned (.tuple #[.float .f64 x'.b, .int .i64 c]) ∧ w = w')
    (hc1 : -52 ≤ c) (hc2 : c ≤ 0) (hn : n ≤ 6000) (hfn : 2047 ≤ n + c + ((x'.k.natAbs / Bu.P : Nat) : Int)) :
    Calls Tryz.prog 176 #[.float .f64 x.b, .int .i64 n] w fun e w' => e = .returned (.float .f64 (if x'.k < 0 then NINF else INF)) ∧ w = w' := by
  have hb := run_fbits
  have hf := run_ffrom
  have ho : (FloatKind.f64.format.order x.b 0 == some .eq) = false := by rw [ford0_eq]; simpa using hx
  have ho2 := ford0_lt x'
  have he := b_exp_i x'
  have heq : ((x'.k.natAbs / Bu.P : Nat) : Int) < 2047 := by have := b_parts x'; omega
  generalize x'.k.natAbs / Bu.P = q at *
  have g1 : 2047 ≤ n + c + q := by omega
  have HN := Lib.hid hN
  clear hN hx hfn
  by_cases hk : x'.k < 0
  · rw [if_pos hk]
    rw [decide_eq_true hk] at ho2
    clear hk
    go_enter Tryz.func176, Tryz.ntmps176
    go_wp2_with (first | (go_at_call 206; refine (HN.out _).mono ?_; rintro e w' ⟨rfl, rfl⟩) | (go_at_call 165; refine (isNaN_F _ _).mono ?_; rintro e w' ⟨rfl, rfl⟩) | (go_at_call 166; refine (isInf_F _ _).mono ?_; rintro e w' ⟨rfl, rfl⟩) | (go_at_call 183; refine (inf_neg _).mono ?_; rintro e w' ⟨rfl, rfl⟩))
    go_ret
    exact ⟨ret_float rfl, rfl⟩
  · rw [if_neg hk]
    rw [decide_eq_false hk] at ho2
    clear hk
    go_enter Tryz.func176, Tryz.ntmps176
    go_wp2_with (first | (go_at_call 206; refine (HN.out _).mono ?_; rintro e w' ⟨rfl, rfl⟩) | (go_at_call 165; refine (isNaN_F _ _).mono ?_; rintro e w' ⟨rfl, rfl⟩) | (go_at_call 166; refine (isInf_F _ _).mono ?_; rintro e w' ⟨rfl, rfl⟩) | (go_at_call 183; refine (inf_pos _).mono ?_; rintro e w' ⟨rfl, rfl⟩))
    go_ret
    exact ⟨ret_float rfl, rfl⟩
set_option maxRecDepth 100000 in
set_option maxHeartbeats 400000 in
theorem ldexp_N (x x' : F) (n c : Int) (w : World) (hx : x.k ≠ 0) (hN : ∀ w, Calls Tryz.prog 206 #[.float .f64 x.b] w fun e w' => e = .returned (.tuple #[.float .f64 x'.b, .int .i64 c]) ∧ w = w')
    (hc1 : -52 ≤ c) (hc2 : c ≤ 0) (hn : -6000 ≤ n) (hfn : n + c + ((x'.k.natAbs / Bu.P : Nat) : Int) < -52) :
    Calls Tryz.prog 176 #[.float .f64 x.b, .int .i64 n] w fun e w' => e = .returned (.float .f64 (if x'.k < 0 then NEG0 else 0)) ∧ w = w' := by
  have hb := run_fbits
  have hf := run_ffrom
  have ho : (FloatKind.f64.format.order x.b 0 == some .eq) = false := by rw [ford0_eq]; simpa using hx
  have he := b_exp_i x'
  have heq : ((x'.k.natAbs / Bu.P : Nat) : Int) < 2047 := by have := b_parts x'; omega
  have hs := copy_w x'
  generalize (if x'.k < 0 then NEG0 else 0) = z at *
  generalize x'.k.natAbs / Bu.P = q at *
  have g1 : n + c + q < -52 := by omega
  have HN := Lib.hid hN
  have HS := Lib.hid hs
  clear hN hx hfn hs
  go_enter Tryz.func176, Tryz.ntmps176
  go_wp2_with (first | (go_at_call 206; refine (HN.out _).mono ?_; rintro e w' ⟨rfl, rfl⟩) | (go_at_call 165; refine (isNaN_F _ _).mono ?_; rintro e w' ⟨rfl, rfl⟩) | (go_at_call 166; refine (isInf_F _ _).mono ?_; rintro e w' ⟨rfl, rfl⟩) | (go_at_call 207; refine (HS.out _).mono ?_; rintro e w' ⟨rfl, rfl⟩))
  go_ret
  exact ⟨ret_float rfl, rfl⟩
theorem ldexp_w (x : F) (n : Int) (h1 : -6000 ≤ n) (h2 : n ≤ 6000) (w : World) : Calls Tryz.prog 176 #[.float .f64 x.b, .int .i64 n] w fun e w' => e = .returned (.float .f64 (ldW x n)) ∧ w = w' := by
  by_cases hx : x.k = 0
  · have e : x = F.zero := F.ext' hx
    subst e
    have z0 : F.zero.z = 0 := (z_zero F.zero).2 rfl
    have : ldW F.zero n = 0 := by unfold ldW wrd; rw [z0, Int.zero_mul, if_pos rfl]
    rw [this, b_zero]
    exact ldexp_zero n w
  · have hm := nm_ok hx
    have hN := nm_w x hx
    have hq := hm.q
    have hc := hm.c
    have hs := hm.sg
    generalize (nmF x).1 = x' at *
    generalize (nmF x).2 = c at *
    by_cases c1 : 2047 ≤ n + c + ((x'.k.natAbs / Bu.P : Nat) : Int)
    · rw [ld_inf hm c1, show (if x.k < 0 then NINF else INF) = if x'.k < 0 then NINF else INF from by simp only [hs]]
      exact ldexp_I x x' n c w hx hN (by omega) (by omega) h2 c1
    · by_cases c2 : n + c + ((x'.k.natAbs / Bu.P : Nat) : Int) < -52
      · rw [ld_none hm c2, show (if x.k < 0 then NEG0 else 0) = if x'.k < 0 then NEG0 else 0 from by simp only [hs]]
        exact ldexp_N x x' n c w hx hN (by omega) (by omega) h1 c2
      · by_cases c3 : 1 ≤ n + c + ((x'.k.natAbs / Bu.P : Nat) : Int)
        · obtain ⟨f, hf⟩ := Int.eq_ofNat_of_zero_le (show 0 ≤ n + c + ((x'.k.natAbs / Bu.P : Nat) : Int) by omega)
          rw [ld_norm (f := f) hm hf (by omega) (by omega)]
          exact ldexp_C x x' _ n c f w hx hN (by omega) (by omega) (by omega) (by omega) hf rfl
        · obtain ⟨f, hf⟩ := Int.eq_ofNat_of_zero_le (show 0 ≤ n + c + ((x'.k.natAbs / Bu.P : Nat) : Int) + 53 by omega)
          exact ldexp_S x x' n c f _ w hx hN (by omega) (by omega) (by omega) (by omega) hf (ld_sub hm hf (by omega) (by omega))
set_option maxHeartbeats 400000 in
/-- math.Ldexp, rounded -/
theorem Ldexp_w (x : F) (n : Int) (h1 : -6000 ≤ n) (h2 : n ≤ 6000) (w : World) : Calls Tryz.prog 105 #[.float .f64 x.b, .int .i64 n] w fun e w' => e = .returned (.float .f64 (ldW x n)) ∧ w = w' := by
  have H := Lib.hid (fun w => ldexp_w x n h1 h2 w)
  clear h1 h2
  go_enter Tryz.func105, Tryz.ntmps105
  go_wp2_with (go_at_call 176; refine (H.out _).mono ?_; rintro e w' ⟨rfl, rfl⟩)
  go_ret
  exact ⟨ret_float rfl, rfl⟩
/-- .. of minus 0 -/
theorem Ldexp_NEG0 (n : Int) (w : World) : Calls Tryz.prog 105 #[.float .f64 NEG0, .int .i64 n] w fun e w' => e = .returned (.float .f64 NEG0) ∧ w = w' := by
  have ho : (FloatKind.f64.format.order NEG0 0 == some .eq) = true := by decide
  have H : ∀ w, Calls Tryz.prog 176 #[.float .f64 NEG0, .int .i64 n] w fun e w' => e = .returned (.float .f64 NEG0) ∧ w = w' := by
    intro w
    generalize NEG0 = z at *
    go_enter Tryz.func176, Tryz.ntmps176
    go_wp2
    go_ret
    exact ⟨ret_float rfl, rfl⟩
  have H := Lib.hid H
  clear ho
  generalize NEG0 = z at *
  go_enter Tryz.func105, Tryz.ntmps105
  go_wp2_with (go_at_call 176; refine (H.out _).mono ?_; rintro e w' ⟨rfl, rfl⟩)
  go_ret
  exact ⟨ret_float rfl, rfl⟩
end Go.Proofs.YtmhhopfffeijnaaGreat
namespace Rx
set_option linter.all false
open Go Bu

def fw : SV → Option Nat
  | .f x => some x
  | .fl x => some x.b
  | _ => none
theorem fw_plain {x : SV} {n : Nat} (h : fw x = some n) : plain x = some (.float .f64 n) := by
  unfold fw at h
  split at h
  · simp only [Option.some.injEq] at h; subst h; rfl
  · simp only [Option.some.injEq] at h; subst h; rfl
  · cases h
/-- a product and a sum, rounded once -/
def oFMA : List SV → Option (SV × Obs)
  | [x, y, z] => match fw x, fw y, fw z with
    | some a, some b, some c => some (.f ((Ieee.double.fma a b c).getD 0), [((Ieee.double.fma a b c).isSome, true)])
    | _, _, _ => none
  | _ => none
/-- a root: a number -/
def oSqt : List SV → Option (SV × Obs)
  | [.fl x] => some (.fl (toF ((Ieee.double.sqrt x.b).getD 0)), [((Ieee.double.sqrt x.b).isSome, true), (rightB ((Ieee.double.sqrt x.b).getD 0), true)])
  | _ => none
def kFr : List SV → Dec → Option (SV × Dec × Obs)
  | [.fl x], ds => some (.tup [.fl (frF x), .si .i64 (exF x)], ds, [(!decide (x.k = 0), true)])
  | _, _ => none
def kLg (L : F → Int → Nat) : List SV → Dec → Option (SV × Dec × Obs)
  | [.fl x, n], ds => match intS n with
    | some (.i64, k) => match takeB ds (rightB (L x k)) with
      | some (true, ds', ob) => some (.fl (toF (L x k)), ds', (decide (-6000 ≤ k ∧ k ≤ 6000), true) :: ob)
      | some (false, ds', ob) => some (.f (L x k), ds', (decide (-6000 ≤ k ∧ k ≤ 6000), true) :: ob)
      | none => none
    | _ => none
  | [.f w, n], ds => match intS n with
    | some (.i64, _) => some (.f w, ds, [(Nat.beq w NEG0, true)])
    | _ => none
  | _, _ => none
/-- what a word that is no number tells -/
def badB (w : Nat) : Bool := Nat.beq w INF || (Nat.beq w NINF || Nat.beq w NEG0)
def kInf : List SV → Dec → Option (SV × Dec × Obs)
  | [.fl _, .i .i64 n], ds => some (.b false, ds, [(decide (n = 0 ∨ n = 1 ∨ n = -1), true)])
  | [.f w, .i .i64 0], ds => match takeB ds (Nat.beq w INF || Nat.beq w NINF) with
    | some (d, ds', ob) => some (.b d, ds', (badB w, true) :: ob)
    | none => none
  | _, _ => none
def kAbsG : List SV → Dec → Option (SV × Dec × Obs)
  | [.fl x], ds => some (.fl x.abs, ds, [])
  | [.f w], ds => some (.fl F.zero, ds, [(Nat.beq w NEG0, true)])
  | _, _ => none
def kPlain : List SV → Dec → Option (SV × Dec × Obs)
  | [.fl x], ds => some (.fl x, ds, [])
  | [.f w], ds => match takeB ds (rightB w) with
    | some (true, ds', ob) => some (.fl (toF w), ds', ob)
    | some (false, ds', ob) => some (.fl F.zero, ds', (Nat.beq w NEG0, true) :: ob)
    | none => none
  | _, _ => none
/-- the neighbours -/
def kNa : List SV → Dec → Option (SV × Dec × Obs)
  | [.fl x, .f y], ds => match Nat.beq y INF with
    | true => match takeB ds (decide (x.k + 1 < (T : Int))) with
      | some (true, ds1, ob1) => match takeB ds1 (decide (x.k = -1)) with
        | some (true, ds2, ob2) => some (.f NEG0, ds2, ob2 ++ ob1)
        | some (false, ds2, ob2) => some (.fl (F.of (x.k + 1)), ds2, ob2 ++ ob1)
        | none => none
      | some (false, ds1, ob1) => some (.f INF, ds1, ob1)
      | none => none
    | false => match Nat.beq y NINF with
      | true => match takeB ds (decide (-(T : Int) < x.k - 1)) with
        | some (true, ds1, ob1) => some (.fl (F.of (x.k - 1)), ds1, ob1)
        | some (false, ds1, ob1) => some (.f NINF, ds1, ob1)
        | none => none
      | false => none
  | _, _ => none
/-- the side, of a word -/
def sideW (w : Nat) (pos neg up : Bool) : F × Int := bif Nat.beq w INF then (bif up then (F.zero, 10) else (F.max, 0)) else bif Nat.beq w NINF then (bif up then (F.min, 0) else (F.zero, 10)) else sideF F.zero pos neg up
def kSide : List SV → Dec → Option (SV × Dec × Obs)
  | [.fl c, .fl d, .b up], ds => some (.tup [.fl (sideF c (decide (0 < d.k)) (decide (d.k < 0)) up).1, .si .i64 (sideF c (decide (0 < d.k)) (decide (d.k < 0)) up).2], ds, [])
  | [.f w, .fl d, .b up], ds => some (.tup [.fl (sideW w (decide (0 < d.k)) (decide (d.k < 0)) up).1, .si .i64 (sideW w (decide (0 < d.k)) (decide (d.k < 0)) up).2], ds, [(badB w, true)])
  | _, _ => none
theorem badB_or {w : Nat} (h : badB w = true) : w = INF ∨ w = NINF ∨ w = NEG0 := by
  unfold badB at h
  rcases Bool.or_eq_true _ _ ▸ h with h | h
  · exact .inl (Nat.eq_of_beq_eq_true h)
  · rcases Bool.or_eq_true _ _ ▸ h with h | h
    · exact .inr (.inl (Nat.eq_of_beq_eq_true h))
    · exact .inr (.inr (Nat.eq_of_beq_eq_true h))
def nzB (w : Nat) : Bool := rightB w && !Nat.beq w 0
def badC (w : Nat) : Bool := badB w || Nat.beq w 0
def kLh (L : F → Int → Nat) : List SV → Dec → Option (SV × Dec × Obs)
  | [.fl x, n], ds => match intS n with
    | some (.i64, k) => match takeB ds (nzB (L x k)) with
      | some (true, ds', ob) => some (.fl (toF (L x k)), ds', (decide (-6000 ≤ k ∧ k ≤ 6000), true) :: ob)
      | some (false, ds', ob) => some (.f (L x k), ds', (decide (-6000 ≤ k ∧ k ≤ 6000), true) :: ob)
      | none => none
    | _ => none
  | [.f w, n], ds => match intS n with
    | some (.i64, _) => some (.f w, ds, [(Nat.beq w NEG0 || Nat.beq w 0, true)])
    | _ => none
  | _, _ => none
def kInfC : List SV → Dec → Option (SV × Dec × Obs)
  | [.fl _, .i .i64 n], ds => some (.b false, ds, [(decide (n = 0 ∨ n = 1 ∨ n = -1), true)])
  | [.f w, .i .i64 0], ds => match takeB ds (Nat.beq w INF || Nat.beq w NINF) with
    | some (d, ds', ob) => some (.b d, ds', (badC w, true) :: ob)
    | none => none
  | _, _ => none
def dF (w : Nat) : F := bif rightB w then toF w else F.zero
def sdS (r : F × Int) : SV := .tup [.fl r.1, .si .i64 r.2]
def kSideD : List SV → Dec → Option (SV × Dec × Obs)
  | [.fl c, .f d, .b up], ds => some (sdS (sideF c (decide (0 < (dF d).k)) (decide ((dF d).k < 0)) up), ds, [(rightB d || Nat.beq d NEG0, true)])
  | [.f w, .f d, .b up], ds => some (sdS (sideW w (decide (0 < (dF d).k)) (decide ((dF d).k < 0)) up), ds, [(badC w, true), (rightB d, true)])
  | _, _ => none
theorem badC_or {w : Nat} (h : badC w = true) : badB w = true ∨ w = 0 := by
  unfold badC at h
  rcases Bool.or_eq_true _ _ ▸ h with h | h
  · exact .inl h
  · exact .inr (Nat.eq_of_beq_eq_true h)
end Rx
namespace Go.Proofs.YtmhhopfffeijnaaGreat
set_option linter.all false
open Go.RowKit Bu Rx

theorem fma_red (x y z r : Nat) (h : Ieee.Format.fma FloatKind.f64.format x y z = some r) : Extern.MathFMA.fma #[.float .f64 x, .float .f64 y, .float .f64 z] = pure (.float .f64 r) := by
  delta Extern.MathFMA.fma
  generalize Ieee.Format.fma FloatKind.f64.format = g at *
  conv => lhs; whnf
  rw [h]
theorem sqt_red (x r : Nat) (h : Ieee.Format.sqrt FloatKind.f64.format x = some r) : Extern.MathSqrt.sqrt #[.float .f64 x] = pure (.float .f64 r) := by
  delta Extern.MathSqrt.sqrt
  generalize Ieee.Format.sqrt FloatKind.f64.format = g at *
  conv => lhs; whnf
  rw [h]
theorem fma_f (x y z r : Nat) (h : Ieee.double.fma x y z = some r) (w : World) : (callFunc 189 #[.float .f64 x, .float .f64 y, .float .f64 z]).run Tryz.prog w = .ok (.value (.float .f64 r)) w := by
  rw [run_callFunc_extern (e := Extern.MathFMA.fma) Tryz.func189 (by kernel_rfl) (by kernel_rfl) (by kernel_rfl) (by kernel_rfl)]
  rw [fma_red x y z r h]
  rfl
theorem fmaE : ExtOne Tryz.prog 189 oFMA := by
  intro args x ob h ho m vs hvs
  unfold oFMA at h
  split at h
  · split at h
    · rename_i a b c ha hb hc
      simp only [Option.some.injEq, Prod.mk.injEq] at h; obtain ⟨rfl, rfl⟩ := h
      have h1 := ho _ (List.mem_cons_self ..)
      obtain rfl := plains3 (fw_plain ha) (fw_plain hb) (fw_plain hc) hvs
      obtain ⟨r, hr⟩ := Option.isSome_iff_exists.1 h1
      rw [hr]
      exact ⟨.float .f64 r, rfl, fun w => fma_f a b c r hr w⟩
    · cases h
  · cases h
theorem sqt_f (x r : Nat) (h : Ieee.double.sqrt x = some r) (w : World) : (callFunc 211 #[.float .f64 x]).run Tryz.prog w = .ok (.value (.float .f64 r)) w := by
  rw [run_callFunc_extern (e := Extern.MathSqrt.sqrt) Tryz.func211 (by kernel_rfl) (by kernel_rfl) (by kernel_rfl) (by kernel_rfl)]
  rw [sqt_red x r h]
  rfl
theorem sqtE : ExtOne Tryz.prog 211 oSqt := by
  intro args x ob h ho m vs hvs
  unfold oSqt at h
  split at h
  · rename_i a
    simp only [Option.some.injEq, Prod.mk.injEq] at h; obtain ⟨rfl, rfl⟩ := h
    have h1 := ho _ (List.mem_cons_self ..)
    have h2 := ho _ (List.mem_cons_of_mem _ (List.mem_cons_self ..))
    simp only [dens, den, Option.bind_some, Option.map_some, Option.some.injEq] at hvs; subst hvs
    obtain ⟨r, hr⟩ := Option.isSome_iff_exists.1 h1
    rw [hr] at h2 ⊢
    have h2 : rightB r = true := h2
    refine ⟨.float .f64 r, ?_, fun w => sqt_f a.b r hr w⟩
    show some (Value.float .f64 (toF r).b) = _
    rw [toF_b h2]
  · cases h
def EH : ExtF := lookE [(103, oFb), (197, oFf), (189, oFMA), (211, oSqt)]
theorem goodH : Rx.Good Tryz.prog EH := Rx.Good.of (by kernel_rfl) (by kernel_rfl) (.cons fbE (.cons ffE (.cons fmaE (.cons sqtE (.nil _)))))
theorem frK : PlainOk Tryz.prog 185 kFr := by
  intro args ds x ds' ob h ho
  unfold kFr at h
  split at h
  · rename_i x
    simp only [Option.some.injEq, Prod.mk.injEq] at h; obtain ⟨rfl, _, rfl⟩ := h
    have hx : x.k ≠ 0 := by have := obs1 ho; simpa using this
    refine ⟨[.float .f64 x.b], _, rfl, rfl, fun w => (Frexp_w x hx w).mono ?_⟩
    rintro e w' ⟨rfl, rfl⟩; exact ⟨rfl, Below.refl _ _⟩
  · cases h
theorem lgK : PlainOk Tryz.prog 105 (kLg ldW) := by
  intro args ds x ds' ob h ho
  unfold kLg at h
  split at h
  · rename_i x n
    split at h
    · rename_i k hk
      split at h
      · rename_i ds1 ob1 h1
        simp only [Option.some.injEq, Prod.mk.injEq] at h; obtain ⟨rfl, _, rfl⟩ := h
        have hb := of_decide_eq_true (ho _ (List.mem_cons_self ..))
        have hr := (takeB_ok h1 (fun p hp => ho p (List.mem_cons_of_mem _ hp))).symm
        refine ⟨[.float .f64 x.b, .int .i64 k], .float .f64 (ldW x k), plains_cons rfl (plains_cons (intS_plain hk) plains_nil), ?_, fun w => (Ldexp_w x k hb.1 hb.2 w).mono ?_⟩
        · show some (Value.float .f64 (toF (ldW x k)).b) = _
          rw [toF_b hr]
        · rintro e w' ⟨rfl, rfl⟩; exact ⟨rfl, Below.refl _ _⟩
      · rename_i ds1 ob1 h1
        simp only [Option.some.injEq, Prod.mk.injEq] at h; obtain ⟨rfl, _, rfl⟩ := h
        have hb := of_decide_eq_true (ho _ (List.mem_cons_self ..))
        refine ⟨[.float .f64 x.b, .int .i64 k], .float .f64 (ldW x k), plains_cons rfl (plains_cons (intS_plain hk) plains_nil), rfl, fun w => (Ldexp_w x k hb.1 hb.2 w).mono ?_⟩
        rintro e w' ⟨rfl, rfl⟩; exact ⟨rfl, Below.refl _ _⟩
      · cases h
    · cases h
  · rename_i x n
    split at h
    · rename_i k hk
      simp only [Option.some.injEq, Prod.mk.injEq] at h; obtain ⟨rfl, _, rfl⟩ := h
      have hx := Nat.eq_of_beq_eq_true (obs1 ho)
      subst hx
      refine ⟨[.float .f64 NEG0, .int .i64 k], .float .f64 NEG0, plains_cons rfl (plains_cons (intS_plain hk) plains_nil), rfl, fun w => (Ldexp_NEG0 k w).mono ?_⟩
      rintro e w' ⟨rfl, rfl⟩; exact ⟨rfl, Below.refl _ _⟩
    · cases h
  · cases h
def oNaN : List SV → Dec → Option (SV × Dec × Obs)
  | [.fl _], ds => some (.b false, ds, [])
  | [.f x], ds => (takeB ds (Ieee.double.order x x != some .eq)).map fun r => (.b r.1, r.2.1, r.2.2)
  | _, _ => none
def oInf : List SV → Dec → Option (SV × Dec × Obs)
  | [.fl _, .i .i64 0], ds => some (.b false, ds, [])
  | [.f x, .i .i64 0], ds => (takeB ds (Ieee.double.order (x % 9223372036854775808) 9218868437227405311 == some .gt)).map fun r => (.b r.1, r.2.1, (Nat.blt x 18446744073709551616, true) :: r.2.2)
  | _, _ => none
def oSign : List SV → Dec → Option (SV × Dec × Obs)
  | [.fl x], ds => (takeB ds (decide (x.k < 0))).map fun r => (.b r.1, r.2.1, r.2.2)
  | _, _ => none
theorem nanP : PlainOk Tryz.prog 165 oNaN := by
  intro args ds x ds' ob h ho
  unfold oNaN at h
  split at h
  · rename_i x
    simp only [Option.some.injEq, Prod.mk.injEq] at h; obtain ⟨rfl, _, _⟩ := h
    refine ⟨[.float .f64 x.b], .bool false, rfl, rfl, fun w => (isNaN_F x w).mono ?_⟩
    rintro e w' ⟨rfl, rfl⟩; exact ⟨rfl, Below.refl _ _⟩
  · rename_i x
    simp only [Option.map_eq_some_iff, Prod.mk.injEq] at h
    obtain ⟨⟨d, _, _⟩, h1, rfl, rfl, rfl⟩ := h
    refine ⟨[.float .f64 x], .bool d, rfl, rfl, fun w => (isNaN_w x w).mono ?_⟩
    rintro e w' ⟨rfl, rfl⟩; exact ⟨by rw [takeB_ok h1 ho], Below.refl _ _⟩
  · cases h
theorem infP : PlainOk Tryz.prog 166 oInf := by
  intro args ds x ds' ob h ho
  unfold oInf at h
  split at h
  · rename_i x
    simp only [Option.some.injEq, Prod.mk.injEq] at h; obtain ⟨rfl, _, _⟩ := h
    refine ⟨[.float .f64 x.b, .int .i64 0], .bool false, rfl, rfl, fun w => (isInf_F x w).mono ?_⟩
    rintro e w' ⟨rfl, rfl⟩; exact ⟨rfl, Below.refl _ _⟩
  · rename_i x
    simp only [Option.map_eq_some_iff, Prod.mk.injEq] at h
    obtain ⟨⟨d, _, o⟩, h1, rfl, rfl, rfl⟩ := h
    have hlt := Nat.blt_eq.mp (ho _ (List.mem_cons_self ..))
    have ho' : ObsOk o := fun p hp => ho p (List.mem_cons_of_mem _ hp)
    refine ⟨[.float .f64 x, .int .i64 0], .bool d, rfl, rfl, fun w => (isInf_w x w hlt).mono ?_⟩
    rintro e w' ⟨rfl, rfl⟩; exact ⟨by rw [takeB_ok h1 ho'], Below.refl _ _⟩
  · cases h
theorem signP : PlainOk Tryz.prog 167 oSign := by
  intro args ds x ds' ob h ho
  unfold oSign at h
  split at h
  · rename_i x
    simp only [Option.map_eq_some_iff, Prod.mk.injEq] at h
    obtain ⟨⟨d, _, _⟩, h1, rfl, rfl, rfl⟩ := h
    refine ⟨[.float .f64 x.b], .bool d, rfl, rfl, fun w => (signbit_F x w).mono ?_⟩
    rintro e w' ⟨rfl, rfl⟩; exact ⟨by rw [takeB_ok h1 ho], Below.refl _ _⟩
  · cases h
def OV0 : OracleF := lookO [(165, plainO oNaN), (166, plainO oInf), (167, plainO oSign)]
theorem oracleV0 : OracleOk Tryz.prog OV0 := .cons nanP.of (.cons infP.of (.cons signP.of (.nil _)))
theorem oracleN : OracleOk Tryz.prog (lookO []) := .nil _

theorem rRight_F (x : F) (w : World) : Calls Tryz.prog 97 #[.float .f64 x.b] w fun e w' => e = .returned (.bool true) ∧ Below w.heap.size w w' := by
  by_cases h : x.k = 0
  · refine calls_of_run goodG oracleV0 60 (g := 97) (args := [.fl x]) (ds := some [false, false]) (x := .b true) (M' := []) (ds' := some []) (ob := [(decide (x.k < 0), false), (!decide (x.k = (toF 0).k), false)]) (by kernel_rfl) (ObsOk.of_B ?_) rfl rfl w
    have e0 : (toF 0).k = 0 := zero_k'
    simp only [obsB, List.all_cons, List.all_nil, e0, decide_eq_true h, decide_eq_false (show ¬ x.k < 0 by omega), Bool.not_true, beq_self_eq_true, Bool.and_self]
  · refine calls_of_run goodG oracleV0 60 (g := 97) (args := [.fl x]) (ds := some [true]) (x := .b true) (M' := []) (ds' := some []) (ob := [(!decide (x.k = (toF 0).k), true)]) (by kernel_rfl) (ObsOk.of_B ?_) rfl rfl w
    have e0 : (toF 0).k = 0 := zero_k'
    simp only [obsB, List.all_cons, List.all_nil, e0, decide_eq_false h, Bool.not_false, beq_self_eq_true, Bool.and_self]
theorem rRight_no (x : Nat) (hx : x < 18446744073709551616) (h : rightB x = false) (w : World) : Calls Tryz.prog 97 #[.float .f64 x] w fun e w' => e = .returned (.bool false) ∧ Below w.heap.size w w' := by
  obtain ⟨neg, r, hr, hxr, hc⟩ := bad_parts hx h
  have hr1 := read_parts x neg r hr hxr
  have hm : x % 9223372036854775808 = r := by cases neg <;> simp at hxr <;> omega
  have hbl : Nat.blt x 18446744073709551616 = true := Nat.blt_eq.mpr hx
  rcases hc with ⟨h1, h2⟩ | h1 | h1
  · subst h1 h2
    obtain rfl : x = 9223372036854775808 := by simpa using hxr
    exact calls_of_out goodG oracleN 100 (g := 97) (args := [.f 9223372036854775808]) (ds := none) (x := .b false) (by kernel_rfl) rfl rfl w
  · have hn : (Ieee.double.order x x != some .eq) = false := by
      unfold Ieee.Format.order
      rw [hr1, if_neg (by omega), if_pos h1]
      simp [Ieee.Datum.order]
    have hi : (Ieee.double.order (x % 9223372036854775808) 9218868437227405311 == some .gt) = true := by
      rw [hm, h1]; decide +kernel
    refine calls_of_run goodG oracleV0 60 (g := 97) (args := [.f x]) (ds := some [false, true]) (x := .b false) (M' := []) (ds' := some []) (ob := [(Nat.blt x 18446744073709551616, true), (Ieee.double.order (x % 9223372036854775808) 9218868437227405311 == some .gt, true), (Ieee.double.order x x != some .eq, false)]) (by kernel_rfl) (ObsOk.of_B ?_) rfl rfl w
    simp only [obsB, List.all_cons, List.all_nil, hbl, hi, hn, beq_self_eq_true, Bool.and_self]
  · have hn : (Ieee.double.order x x != some .eq) = true := by
      unfold Ieee.Format.order
      rw [hr1, if_neg (by omega), if_neg (by omega)]
      simp [Ieee.Datum.order]
    refine calls_of_run goodG oracleV0 60 (g := 97) (args := [.f x]) (ds := some [true]) (x := .b false) (M' := []) (ds' := some []) (ob := [(Ieee.double.order x x != some .eq, true)]) (by kernel_rfl) (ObsOk.of_B ?_) rfl rfl w
    simp only [obsB, List.all_cons, List.all_nil, hn, beq_self_eq_true, Bool.and_self]
theorem rRightP : PlainOk Tryz.prog 97 oRight := by
  intro args ds x ds' ob h ho
  unfold oRight at h
  split at h
  · rename_i x
    simp only [Option.some.injEq, Prod.mk.injEq] at h; obtain ⟨rfl, _, _⟩ := h
    exact ⟨[.float .f64 x.b], .bool true, rfl, rfl, fun w => rRight_F x w⟩
  · rename_i v
    split at h
    · rename_i hb
      simp only [Option.some.injEq, Prod.mk.injEq] at h; obtain ⟨rfl, _, rfl⟩ := h
      obtain ⟨y, rfl⟩ := F_of_right (takeB_ok hb ho).symm
      exact ⟨[.float .f64 y.b], .bool true, rfl, rfl, fun w => rRight_F y w⟩
    · rename_i o hb
      simp only [Option.some.injEq, Prod.mk.injEq] at h; obtain ⟨rfl, _, rfl⟩ := h
      have hr := takeB_ok hb (ObsOk.right (a := [_]) ho)
      exact ⟨[.float .f64 v], .bool false, rfl, rfl, fun w => rRight_no v (Nat.blt_eq.mp (ho _ (List.mem_cons_self ..))) hr.symm w⟩
    · cases h
  · cases h
end Go.Proofs.YtmhhopfffeijnaaGreat
