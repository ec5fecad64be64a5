/- Long division: the plain part. Walk of bits.Div64. Package dir by the reckoner: Div. Subtraction, and how far the nearest number may lie. A quotient of two numbers, the lesser by the greater. -/
import Derived.Test.YtlhlcefkmhhmjaaGreatZ03
import Derived.Test.YtlhlcefkmhhmjaaGreatZ09
import Derived.Deep.CutBlock
import Derived.Deep.DeepCutAuto
import Derived.Test.YtlhlcefkmhhmjaaGreatZ10
import Derived.Test.YtlhlcefkmhhmjaaGreatZ08
namespace Bu
set_option linter.all false

/-- one digit -/
structure Kn (U u1 y y1 y0 q r : Nat) : Prop where
  eq : q * y1 + r = U
  lt : U * 4294967296 + u1 < (q + 1) * y
  le : q ≤ 4294967297
  rl : r < 4294967296

theorem kn_startB {U u1 y y1 b : Nat} (h1 : 0 < y1) (hy : y1 * b ≤ y) (hu : u1 < b) : U * b + u1 < (U / y1 + 1) * y := by
  have hd := Nat.div_add_mod U y1
  have hm := Nat.mod_lt U h1
  have : U + 1 ≤ (U / y1 + 1) * y1 := by rw [Nat.add_mul, Nat.mul_comm]; omega
  have h3 : (U + 1) * b ≤ (U / y1 + 1) * y1 * b := Nat.mul_le_mul_right b this
  have h4 : (U / y1 + 1) * (y1 * b) ≤ (U / y1 + 1) * y := Nat.mul_le_mul_left _ hy
  rw [Nat.mul_assoc, Nat.add_mul] at h3
  omega

theorem kn_start {U u1 y y1 y0 : Nat} (hy : y = y1 * 4294967296 + y0) (h1 : 2147483648 ≤ y1) (h2 : y1 < 4294967296) (h0 : y0 < 4294967296) (hU : U < y) (hu : u1 < 4294967296) :
    Kn U u1 y y1 y0 (U / y1) (U % y1) := by
  have hd := Nat.div_add_mod U y1
  have hm := Nat.mod_lt U (show 0 < y1 by omega)
  refine ⟨by rw [Nat.mul_comm]; exact hd, ?_, ?_, by omega⟩
  · exact kn_startB (by omega) (by omega) hu
  · have h5 : U / y1 < 4294967298 := by
      rw [Nat.div_lt_iff_lt_mul (by omega)]
      omega
    omega

theorem kn_stay {U u1 y y1 y0 q r : Nat} (hy : y = y1 * 4294967296 + y0) (h : Kn U u1 y y1 y0 q r) (hc : q * y0 ≤ 4294967296 * r + u1) : q = (U * 4294967296 + u1) / y := by
  have hy0 : 0 < y := by
    have := h.lt
    by_cases c : 0 < y
    · exact c
    · have : y = 0 := by omega
      subst this; omega
  symm
  rw [Nat.div_eq_iff hy0]
  have h1 := h.eq
  have h2 := h.lt
  have e : q * y = q * y1 * 4294967296 + q * y0 := by rw [hy, Nat.mul_add, Nat.mul_assoc]
  have e2 : U * 4294967296 = q * y1 * 4294967296 + r * 4294967296 := by rw [← h1, Nat.add_mul]
  rw [Nat.add_mul, Nat.one_mul] at h2
  omega

theorem kn_test {U u1 y y1 y0 q r : Nat} (hy : y = y1 * 4294967296 + y0) (hU : U < y) (hu : u1 < 4294967296) (h : Kn U u1 y y1 y0 q r) (hc : 4294967296 ≤ q ∨ 4294967296 * r + u1 < q * y0) :
    U * 4294967296 + u1 < q * y := by
  have h1 := h.eq
  have e : q * y = q * y1 * 4294967296 + q * y0 := by rw [hy, Nat.mul_add, Nat.mul_assoc]
  have e2 : U * 4294967296 = q * y1 * 4294967296 + r * 4294967296 := by rw [← h1, Nat.add_mul]
  rcases hc with c | c
  · have : 4294967296 * y ≤ q * y := Nat.mul_le_mul_right _ c
    omega
  · omega

theorem kn_pos {U u1 y y1 y0 q r : Nat} (hy : y = y1 * 4294967296 + y0) (hU : U < y) (hu : u1 < 4294967296) (h : Kn U u1 y y1 y0 q r) (hc : 4294967296 ≤ q ∨ 4294967296 * r + u1 < q * y0) : 1 ≤ q := by
  have := kn_test hy hU hu h hc
  by_cases c : q = 0
  · subst c; omega
  · omega

theorem kn_next {U u1 y y1 y0 q r : Nat} (hy : y = y1 * 4294967296 + y0) (hU : U < y) (hu : u1 < 4294967296) (h : Kn U u1 y y1 y0 q r) (hc : 4294967296 ≤ q ∨ 4294967296 * r + u1 < q * y0) (hr : r + y1 < 4294967296) :
    Kn U u1 y y1 y0 (q - 1) (r + y1) := by
  have h1 := h.eq
  have hp := kn_pos hy hU hu h hc
  obtain ⟨t, rfl⟩ : ∃ t, q = t + 1 := ⟨q - 1, by omega⟩
  have hl := h.le
  refine ⟨?_, ?_, by omega, hr⟩
  · rw [Nat.add_mul] at h1; simp only [Nat.add_sub_cancel]; omega
  · simp only [Nat.add_sub_cancel]; exact kn_test hy hU hu h hc

theorem kn_break {U u1 y y1 y0 q r : Nat} (hy : y = y1 * 4294967296 + y0) (h0 : y0 < 4294967296) (hU : U < y) (hu : u1 < 4294967296) (h : Kn U u1 y y1 y0 q r) (hc : 4294967296 ≤ q ∨ 4294967296 * r + u1 < q * y0) (hr : 4294967296 ≤ r + y1) :
    q - 1 = (U * 4294967296 + u1) / y := by
  have h1 := h.eq
  have hp := kn_pos hy hU hu h hc
  have ht := kn_test hy hU hu h hc
  obtain ⟨t, rfl⟩ : ∃ t, q = t + 1 := ⟨q - 1, by omega⟩
  have hl := h.le
  simp only [Nat.add_sub_cancel]
  symm
  rw [Nat.div_eq_iff (by omega)]
  have e : t * y = t * y1 * 4294967296 + t * y0 := by rw [hy, Nat.mul_add, Nat.mul_assoc]
  have e2 : U * 4294967296 = t * y1 * 4294967296 + (r + y1) * 4294967296 := by rw [← h1, ← Nat.add_mul]; grind
  have e3 : t * y0 ≤ 4294967296 * 4294967295 := Nat.mul_le_mul (by omega) (by omega)
  rw [Nat.add_mul, Nat.one_mul] at ht
  omega

/-- the shifted dividend -/
theorem kn_norm {h l y s : Nat} (hs : s ≤ 63) (hy : h < y) (hY : y * 2 ^ s < 18446744073709551616) (hl : l < 18446744073709551616) :
    (h * 2 ^ s + l / 2 ^ (64 - s)) * 18446744073709551616 + l * 2 ^ s % 18446744073709551616 = (h * 18446744073709551616 + l) * 2 ^ s
    ∧ h * 2 ^ s + l / 2 ^ (64 - s) < y * 2 ^ s ∧ h * 2 ^ s < 18446744073709551616 ∧ l / 2 ^ (64 - s) < 2 ^ s := by
  obtain ⟨a, b, c, d, e⟩ := up_parts h l s (by omega) hl
  have hlt : h * 2 ^ s + 2 ^ s ≤ y * 2 ^ s := by
    have := Nat.mul_le_mul_right (2 ^ s) (show h + 1 ≤ y by omega)
    rw [Nat.add_mul, Nat.one_mul] at this
    exact this
  have hpos := Nat.two_pow_pos s
  rw [W128_eq] at a b
  rw [Nat.mod_eq_of_lt (show h * 2 ^ s < 18446744073709551616 by omega)] at a e
  have hlim : (h * 18446744073709551616 + l) * 2 ^ s < 340282366920938463463374607431768211456 := by
    have h1 : h * 18446744073709551616 + l < (h + 1) * 18446744073709551616 := by omega
    have h2 := Nat.mul_lt_mul_of_pos_right h1 hpos
    have h3 : (h + 1) * 18446744073709551616 * 2 ^ s = (h * 2 ^ s + 2 ^ s) * 18446744073709551616 := by grind
    omega
  rw [Nat.mod_eq_of_lt hlim] at a b
  refine ⟨?_, by omega, by omega, d⟩
  rw [← a, ← b]
  exact Nat.div_add_mod' _ _

theorem kn_bothB {U u1 u0 y q1 q0 R b : Nat} (hy : 0 < y) (hU : U < y) (h1 : u1 < b) (h0 : u0 < b) (hq1 : q1 = (U * b + u1) / y) (hR : R = (U * b + u1) % y) (hq0 : q0 = (R * b + u0) / y) :
    q1 * b + q0 = (U * (b * b) + (u1 * b + u0)) / y ∧ (R * b + u0) % y = (U * (b * b) + (u1 * b + u0)) % y ∧ q1 < b ∧ q0 < b := by
  have hd := Nat.div_add_mod (U * b + u1) y
  have hm := Nat.mod_lt (U * b + u1) hy
  rw [← hq1, ← hR] at hd
  rw [← hR] at hm
  have hd0 := Nat.div_add_mod (R * b + u0) y
  have hm0 := Nat.mod_lt (R * b + u0) hy
  rw [← hq0] at hd0
  have l1 : U * b + u1 < y * b := by
    have : (U + 1) * b ≤ y * b := Nat.mul_le_mul_right _ (by omega)
    rw [Nat.add_mul] at this; omega
  have l0 : R * b + u0 < y * b := by
    have : (R + 1) * b ≤ y * b := Nat.mul_le_mul_right _ (by omega)
    rw [Nat.add_mul] at this; omega
  generalize (R * b + u0) % y = r0 at *
  have e : U * (b * b) + (u1 * b + u0) = y * (q1 * b + q0) + r0 := by
    have : U * (b * b) + (u1 * b + u0) = (U * b + u1) * b + u0 := by grind
    rw [this, ← hd, Nat.add_mul, Nat.add_assoc, ← hd0]
    grind
  rw [e]
  refine ⟨?_, ?_, ?_, ?_⟩
  · rw [Nat.mul_add_div hy, Nat.div_eq_of_lt hm0]; omega
  · rw [Nat.mul_add_mod, Nat.mod_eq_of_lt hm0]
  · rw [hq1, Nat.div_lt_iff_lt_mul hy, Nat.mul_comm b]; exact l1
  · rw [hq0, Nat.div_lt_iff_lt_mul hy, Nat.mul_comm b]; exact l0
/-- both digits -/
theorem kn_both {U u1 u0 y q1 q0 R : Nat} (hy : 0 < y) (hU : U < y) (h1 : u1 < 4294967296) (h0 : u0 < 4294967296) (hq1 : q1 = (U * 4294967296 + u1) / y) (hR : R = (U * 4294967296 + u1) % y) (hq0 : q0 = (R * 4294967296 + u0) / y) :
    q1 * 4294967296 + q0 = (U * 18446744073709551616 + (u1 * 4294967296 + u0)) / y ∧ (R * 4294967296 + u0) % y = (U * 18446744073709551616 + (u1 * 4294967296 + u0)) % y ∧ q1 < 4294967296 ∧ q0 < 4294967296 :=
  kn_bothB hy hU h1 h0 hq1 hR hq0

open Go in
theorem kn_pack (h l y : Nat) (hy : h < y) (hy2 : y < 18446744073709551616) (hl : l < 18446744073709551616) : ∃ s Y U L y1 y0 u1 u0 : Nat,
    64 - blen y = s ∧ s ≤ 63 ∧ IntKind.u64.wrap ((y : Int) * 2 ^ s) = Y ∧ bits BinOp.or IntKind.u64 (IntKind.u64.wrap ((h : Int) * 2 ^ s)) ((l : Int) / 2 ^ (64 - s)) = U ∧
    IntKind.u64.wrap ((l : Int) * 2 ^ s) = L ∧ (Y : Int) / 4294967296 = y1 ∧ bits BinOp.and IntKind.u64 (Y : Int) 4294967295 = y0 ∧ (L : Int) / 4294967296 = u1 ∧ bits BinOp.and IntKind.u64 (L : Int) 4294967295 = u0 ∧
    Y = y1 * 4294967296 + y0 ∧ 2147483648 ≤ y1 ∧ y1 < 4294967296 ∧ y0 < 4294967296 ∧ u1 < 4294967296 ∧ u0 < 4294967296 ∧ U < Y ∧ U * 18446744073709551616 + (u1 * 4294967296 + u0) = (h * 18446744073709551616 + l) * 2 ^ s ∧ Y = y * 2 ^ s ∧ Y < 18446744073709551616 := by
  have hb1 := lt_blen y
  have hb2 : blen y ≤ 64 := blen_le hy2
  have hy0 : y ≠ 0 := by omega
  have hb3 : blen y = y.log2 + 1 := by unfold blen; rw [if_neg hy0]
  have hb4 := Nat.log2_self_le hy0
  obtain ⟨s, hs⟩ : ∃ s, 64 - blen y = s := ⟨_, rfl⟩
  have hs63 : s ≤ 63 := by omega
  have hpos := Nat.two_pow_pos s
  have hY1 : y * 2 ^ s < 18446744073709551616 := by
    have := Nat.mul_lt_mul_of_pos_right hb1 hpos
    rw [← Nat.pow_add, show blen y + s = 64 from by omega] at this
    exact this
  have hY2 : 9223372036854775808 ≤ y * 2 ^ s := by
    have := Nat.mul_le_mul_right (2 ^ s) hb4
    rw [← Nat.pow_add, show y.log2 + s = 63 from by omega] at this
    exact this
  obtain ⟨n1, n2, n3, n4⟩ := kn_norm hs63 hy hY1 hl
  have hmod : h * 2 ^ s % 2 ^ s = 0 := Nat.mul_mod_left _ _
  have a1 : IntKind.u64.wrap ((y : Int) * 2 ^ s) = ((y * 2 ^ s : Nat) : Int) := by
    have e : (y : Int) * 2 ^ s = ((y * 2 ^ s : Nat) : Int) := by simp
    rw [e, IntKind.wrap_u64]; omega
  have a2 : IntKind.u64.wrap ((h : Int) * 2 ^ s) = ((h * 2 ^ s : Nat) : Int) := by
    have e : (h : Int) * 2 ^ s = ((h * 2 ^ s : Nat) : Int) := by simp
    rw [e, IntKind.wrap_u64]; omega
  have a3 : (l : Int) / 2 ^ (64 - s) = ((l / 2 ^ (64 - s) : Nat) : Int) := by simp
  have a4 : IntKind.u64.wrap ((l : Int) * 2 ^ s) = ((l * 2 ^ s % 18446744073709551616 : Nat) : Int) := by
    have e : (l : Int) * 2 ^ s = ((l * 2 ^ s : Nat) : Int) := by simp
    rw [e, IntKind.wrap_u64]; omega
  have hLlt : l * 2 ^ s % 18446744073709551616 < 18446744073709551616 := Nat.mod_lt _ (by omega)
  have hUlt : h * 2 ^ s + l / 2 ^ (64 - s) < 18446744073709551616 := by omega
  have hlq : l / 2 ^ (64 - s) < 18446744073709551616 := by omega
  have b2 : bits BinOp.or IntKind.u64 ((h * 2 ^ s : Nat) : Int) ((l / 2 ^ (64 - s) : Nat) : Int) = ((h * 2 ^ s + l / 2 ^ (64 - s) : Nat) : Int) := by
    rw [u64_or_nat _ _ n3 hlq, nat_join s _ _ hmod n4]
  have mask : ∀ x : Nat, x < 18446744073709551616 → bits BinOp.and IntKind.u64 (x : Int) 4294967295 = ((x % 4294967296 : Nat) : Int) := by
    intro x hx
    have := and_mask x 32 hx (by omega)
    exact this
  generalize h * 2 ^ s + l / 2 ^ (64 - s) = U at *
  generalize l * 2 ^ s % 18446744073709551616 = L at *
  refine ⟨s, y * 2 ^ s, U, L, y * 2 ^ s / 4294967296, y * 2 ^ s % 4294967296, L / 4294967296, L % 4294967296, hs, hs63, a1, by rw [a2, a3, b2], a4, by omega, mask _ hY1, by omega, mask _ hLlt, ?_, ?_, ?_, ?_, ?_, ?_, n2, ?_, rfl, hY1⟩
  · omega
  · omega
  · omega
  · omega
  · omega
  · omega
  · rw [← n1]; omega

theorem kn_final {h l y s Y U u1 u0 q1 R q0 : Nat} (hy : 0 < y) (hY : Y = y * 2 ^ s) (hU : U < Y) (hD : U * 18446744073709551616 + (u1 * 4294967296 + u0) = (h * 18446744073709551616 + l) * 2 ^ s)
    (h1 : u1 < 4294967296) (h0 : u0 < 4294967296) (hq1 : q1 = (U * 4294967296 + u1) / Y) (hR : R = (U * 4294967296 + u1) % Y) (hq0 : q0 = (R * 4294967296 + u0) / Y) :
    q1 * 4294967296 + q0 = (h * 18446744073709551616 + l) / y ∧ (R * 4294967296 + u0) % Y / 2 ^ s = (h * 18446744073709551616 + l) % y ∧ q1 < 4294967296 ∧ q0 < 4294967296 := by
  have hpos := Nat.two_pow_pos s
  have hYp : 0 < Y := by rw [hY]; exact Nat.mul_pos hy hpos
  obtain ⟨a, b, c, d⟩ := kn_both hYp hU h1 h0 hq1 hR hq0
  refine ⟨?_, ?_, c, d⟩
  · rw [a, hD, hY, Nat.mul_div_mul_right _ _ hpos]
  · rw [b, hD, hY, Nat.mul_mod_mul_right, Nat.mul_div_cancel _ hpos]
end Bu
namespace Go.Proofs.YtlhlcefkmhhmjaaGreat
set_option linter.all false
open Go.RowKit Bu

theorem lz_w (n : Nat) (w : World) (h : (n : Int) ≤ 18446744073709551615) :
    Calls Tryz.prog 70 #[.int .u64 n] w fun e w' => e = .returned (.int .i64 (64 - (blen n : Int))) ∧ w = w' :=
  (Tryz.bits_LeadingZeros64 n w (by omega) h).mono fun e w' ⟨h1, h2⟩ => ⟨by rw [h1, Int.toNat_natCast, lib_blen n (by omega)], h2.symm⟩

set_option maxRecDepth 100000 in
set_option maxHeartbeats 1000000 in
theorem div64_zero (l y : Nat) (hy : 0 < (y : Int)) (hl : (l : Int) ≤ 18446744073709551615) (w : World) :
    Calls Tryz.prog 71 #[.int .u64 0, .int .u64 l, .int .u64 y] w fun e w' => e = .returned (.tuple #[.int .u64 ((l / y : Nat) : Int), .int .u64 ((l % y : Nat) : Int)]) ∧ Below w.heap.size w w' := by
  have hy1 : (1 : Int) ≤ y := by omega
  have T1 : ((y : Int) == 0) = false := by rw [beq_eq_false_iff_ne]; omega
  have T2 : ¬ ((y : Int) ≤ 0) := by omega
  have E1 : IntKind.u64.wrap ((l : Int) / y) = ((l / y : Nat) : Int) := by
    have h := Nat.div_le_self l y
    rw [← Int.natCast_ediv, IntKind.wrap_u64]
    generalize l / y = q at *
    omega
  have H1 := Lib.hid E1
  clear E1
  go_enter Tryz.func71, Tryz.ntmps71
  go_wp2
  go_quiet (fail)
  go_wp2
  go_ret2
  refine ⟨ret_tup ?_, below_drewN (Below.refl _ _) _⟩
  rw [← H1.out, Int.natCast_emod]
  rfl

theorem val_u64 {a : Int} {b : Nat} (h : a = b) : Value.int .u64 a = .int .u64 b := by rw [h]
theorem lz_s (n s : Nat) (hs : 64 - blen n = s) (w : World) (h : (n : Int) ≤ 18446744073709551615) :
    Calls Tryz.prog 70 #[.int .u64 n] w fun e w' => e = .returned (.int .i64 s) ∧ w = w' :=
  (lz_w n w h).mono fun e w' ⟨h1, h2⟩ => ⟨by rw [h1]; have : blen n ≤ 64 := blen_le (by omega); exact ret_int (by omega), h2⟩

set_option maxRecDepth 100000 in
set_option maxHeartbeats 1000000 in
theorem div64_pos (h l y : Nat) (hh : 0 < (h : Int)) (hy : (h : Int) < y) (hy2 : (y : Int) ≤ 18446744073709551615) (hl : (l : Int) ≤ 18446744073709551615) (w : World) :
    Calls Tryz.prog 71 #[.int .u64 h, .int .u64 l, .int .u64 y] w fun e w' => e = .returned (.tuple #[.int .u64 (((h * 18446744073709551616 + l) / y : Nat) : Int), .int .u64 (((h * 18446744073709551616 + l) % y : Nat) : Int)]) ∧ w = w' := by
  have T1 : ((y : Int) == 0) = false := by rw [beq_eq_false_iff_ne]; omega
  have T3 : ((h : Int) == 0) = false := by rw [beq_eq_false_iff_ne]; omega
  have T4 : ¬ (y : Int) ≤ h := by omega
  obtain ⟨s, Y, U, L, y1, y0, u1, u0, g1, g2, e1, e2, e3, e4, e5, e6, e7, p1, p2, p3, p4, p5, p6, p7, p8, p9, p10⟩ := kn_pack h l y (by omega) (by omega) (by omega)
  have G1 := Lib.hid g1
  have P1 := Lib.hid (show Y = y1 * 4294967296 + y0 ∧ y0 < 4294967296 ∧ U < Y from ⟨p1, p4, p7⟩)
  have P8 := Lib.hid p8
  have P9 := Lib.hid p9
  have i1 : (2147483648 : Int) ≤ y1 := by omega
  have i2 : (y1 : Int) < 4294967296 := by omega
  have i3 : (y0 : Int) < 4294967296 := by omega
  have i4 : (u1 : Int) < 4294967296 := by omega
  have i5 : (u0 : Int) < 4294967296 := by omega
  have i6 : (U : Int) < Y := by omega
  have i7 : (Y : Int) ≤ 18446744073709551615 := by omega
  have i8 : (s : Int) ≤ 63 := by omega
  have ks := kn_start p1 p2 p3 p4 p7 p5
  have z1 : ((y1 : Int) == 0) = false := by rw [beq_eq_false_iff_ne]; omega
  have f1 : (U : Int) / y1 = ((U / y1 : Nat) : Int) := by simp
  generalize U / y1 = qa at *
  generalize U % y1 = ra at *
  have f2 : (U : Int) - (qa : Int) * y1 = ra := by have := ks.eq; rw [← Int.natCast_mul]; omega
  have f3 : (0 : Int) ≤ (qa : Int) * y1 := by rw [← Int.natCast_mul]; omega
  have f4 : (qa : Int) * y1 ≤ 18446744073709551615 := by have := ks.eq; rw [← Int.natCast_mul]; omega
  have f5 : (qa : Int) ≤ 4294967297 := by have := ks.le; omega
  have f6 : (ra : Int) < 4294967296 := by have := ks.rl; omega
  have KS := Lib.hid ks
  clear g1 p1 p2 p3 p4 p5 p6 p7 p8 p9 p10 g2 ks
  go_enter Tryz.func71, Tryz.ntmps71
  go_upto_block 0 with (go_at_call 70; refine (lz_s _ _ G1.out _ (by omega)).mono ?_; rintro e w' ⟨rfl, rfl⟩)
  go_cut [15, 16] (fun q r wx => q = .int .u64 (((U * 4294967296 + u1) / Y : Nat) : Int) ∧ (∃ t : Int, r = .int .u64 t) ∧ w = wx)
  case first =>
    go_wp2
    go_loop [15, 16] (fun q r => ∃ qn rn : Nat, Kn U u1 Y y1 y0 qn rn ∧ q = .int .u64 qn ∧ r = .int .u64 rn) (fun q _ => (intOf q).toNat)
    case atStart => exact ⟨qa, ra, KS.out, rfl, rfl⟩
    case round =>
      obtain ⟨qn, rn, hk, rfl, rfl⟩ := hrel
      have j1 := hk.le
      have j2 := hk.rl
      have v1 : (qn : Int) ≤ 4294967297 := by omega
      have v2 : (rn : Int) < 4294967296 := by omega
      have v3 : (0 : Int) ≤ (qn : Int) * y0 := by rw [← Int.natCast_mul]; omega
      have v4 : (qn : Int) * y0 ≤ 18446744073709551615 := by
        have := Nat.mul_le_mul (show qn ≤ 4294967297 by omega) (show y0 ≤ 4294967295 by omega)
        rw [← Int.natCast_mul]; omega
      have KN := Lib.hid hk
      clear hk j1 j2
      by_cases c1 : (4294967296 : Int) ≤ qn
      · have hc := Lib.hid (show 4294967296 ≤ qn ∨ 4294967296 * rn + u1 < qn * y0 from Or.inl (by omega))
        have hq1 : (1 : Int) ≤ qn := by omega
        by_cases c3 : (4294967296 : Int) ≤ (rn : Int) + y1
        · have hX := Lib.hid (kn_break P1.out.1 P1.out.2.1 P1.out.2.2 (by omega) KN.out hc.out (by omega))
          go_wp2
          go_meet
          case rel => exact ⟨by rw [← hX.out]; exact val_u64 (by omega), ⟨_, rfl⟩, rfl⟩
        · have hX := Lib.hid (kn_next P1.out.1 (by omega) (by omega) KN.out hc.out (show rn + y1 < 4294967296 by omega))
          go_wp2
          go_round
          case rel => exact ⟨qn - 1, rn + y1, hX.out, val_u64 (by omega), val_u64 (by omega)⟩
          case measure => simp [intOf]; omega
      · by_cases c2 : (4294967296 : Int) * rn + u1 < (qn : Int) * y0
        · have hc := Lib.hid (show 4294967296 ≤ qn ∨ 4294967296 * rn + u1 < qn * y0 from Or.inr (by rw [← Int.natCast_mul] at c2; omega))
          have hq1 : (1 : Int) ≤ qn := by have := kn_pos P1.out.1 (by omega) (by omega) KN.out hc.out; omega
          by_cases c3 : (4294967296 : Int) ≤ (rn : Int) + y1
          · have hX := Lib.hid (kn_break P1.out.1 P1.out.2.1 P1.out.2.2 (by omega) KN.out hc.out (by omega))
            go_wp2
            go_meet
            case rel => exact ⟨by rw [← hX.out]; exact val_u64 (by omega), ⟨_, rfl⟩, rfl⟩
          · have hX := Lib.hid (kn_next P1.out.1 (by omega) (by omega) KN.out hc.out (show rn + y1 < 4294967296 by omega))
            go_wp2
            go_round
            case rel => exact ⟨qn - 1, rn + y1, hX.out, val_u64 (by omega), val_u64 (by omega)⟩
            case measure => simp [intOf]; omega
        · have hX := Lib.hid (kn_stay P1.out.1 KN.out (by rw [← Int.natCast_mul] at c2; omega))
          go_wp2
          go_meet
          case rel => exact ⟨by rw [← hX.out], ⟨_, rfl⟩, rfl⟩
  case rest =>
    obtain ⟨rfl, ⟨t, rfl⟩, rfl⟩ := hcut
    have hYp : 0 < Y := by omega
    have hdm := Nat.div_add_mod (U * 4294967296 + u1) Y
    have hml := Nat.mod_lt (U * 4294967296 + u1) hYp
    have HQ1 := Lib.hid (rfl : (U * 4294967296 + u1) / Y = (U * 4294967296 + u1) / Y)
    have HR1 := Lib.hid (rfl : (U * 4294967296 + u1) % Y = (U * 4294967296 + u1) % Y)
    obtain ⟨q1, hq1⟩ : ∃ q, q = (U * 4294967296 + u1) / Y := ⟨_, rfl⟩
    obtain ⟨R, hR⟩ : ∃ q, q = (U * 4294967296 + u1) % Y := ⟨_, rfl⟩
    rw [← hq1, ← hR] at hdm
    rw [← hR] at hml
    rw [← hq1]
    have e21 : IntKind.u64.wrap (IntKind.u64.wrap (IntKind.u64.wrap ((U : Int) * 4294967296) + u1) - IntKind.u64.wrap ((q1 : Int) * Y)) = R := by
      rw [← Int.natCast_mul, Nat.mul_comm q1 Y]
      simp only [IntKind.wrap_u64]
      omega
    have kb := kn_start P1.out.1 (by omega) (by omega) P1.out.2.1 hml (show u0 < 4294967296 by omega)
    have l1 : (R : Int) / y1 = ((R / y1 : Nat) : Int) := by simp
    obtain ⟨qb, hqb⟩ : ∃ q, q = R / y1 := ⟨_, rfl⟩
    obtain ⟨rb, hrb⟩ : ∃ q, q = R % y1 := ⟨_, rfl⟩
    rw [← hqb] at kb l1
    rw [← hrb] at kb
    have l2 : (R : Int) - (qb : Int) * y1 = rb := by have := kb.eq; rw [← Int.natCast_mul]; omega
    have l3 : (0 : Int) ≤ (qb : Int) * y1 := by rw [← Int.natCast_mul]; omega
    have l4 : (qb : Int) * y1 ≤ 18446744073709551615 := by have := kb.eq; rw [← Int.natCast_mul]; omega
    have l5 : (qb : Int) ≤ 4294967297 := by have := kb.le; omega
    have l6 : (rb : Int) < 4294967296 := by have := kb.rl; omega
    have l7 : (R : Int) < Y := by omega
    have KB := Lib.hid kb
    have FQ1 := Lib.hid hq1
    have FR := Lib.hid hR
    have P2 := Lib.hid (show Y = y1 * 4294967296 + y0 ∧ y0 < 4294967296 ∧ R < Y from ⟨P1.out.1, P1.out.2.1, hml⟩)
    clear f1 f2 f3 f4 f5 f6 KS kb hqb hrb hq1 hR hdm hml HQ1 HR1 P1
    obtain ⟨P1⟩ : Nonempty (Hid (Y = y1 * 4294967296 + y0 ∧ y0 < 4294967296 ∧ R < Y)) := ⟨P2⟩
    go_upto_block 2 with fail
    go_cut [18, 16] (fun q r wx => q = .int .u64 (((R * 4294967296 + u0) / Y : Nat) : Int) ∧ (∃ t : Int, r = .int .u64 t) ∧ w = wx)
    case first =>
      go_wp2
      go_loop [18, 16] (fun q r => ∃ qn rn : Nat, Kn R u0 Y y1 y0 qn rn ∧ q = .int .u64 qn ∧ r = .int .u64 rn) (fun q _ => (intOf q).toNat)
      case atStart => exact ⟨qb, rb, KB.out, rfl, rfl⟩
      case round =>
        obtain ⟨qn, rn, hk, rfl, rfl⟩ := hrel
        have j1 := hk.le
        have j2 := hk.rl
        have v1 : (qn : Int) ≤ 4294967297 := by omega
        have v2 : (rn : Int) < 4294967296 := by omega
        have v3 : (0 : Int) ≤ (qn : Int) * y0 := by rw [← Int.natCast_mul]; omega
        have v4 : (qn : Int) * y0 ≤ 18446744073709551615 := by
          have := Nat.mul_le_mul (show qn ≤ 4294967297 by omega) (show y0 ≤ 4294967295 by omega)
          rw [← Int.natCast_mul]; omega
        have KN := Lib.hid hk
        clear hk j1 j2
        by_cases c1 : (4294967296 : Int) ≤ qn
        · have hc := Lib.hid (show 4294967296 ≤ qn ∨ 4294967296 * rn + u0 < qn * y0 from Or.inl (by omega))
          have hq1 : (1 : Int) ≤ qn := by omega
          by_cases c3 : (4294967296 : Int) ≤ (rn : Int) + y1
          · have hX := Lib.hid (kn_break P1.out.1 P1.out.2.1 P1.out.2.2 (by omega) KN.out hc.out (by omega))
            go_wp2
            go_meet
            case rel => exact ⟨by rw [← hX.out]; exact val_u64 (by omega), ⟨_, rfl⟩, rfl⟩
          · have hX := Lib.hid (kn_next P1.out.1 (by omega) (by omega) KN.out hc.out (show rn + y1 < 4294967296 by omega))
            go_wp2
            go_round
            case rel => exact ⟨qn - 1, rn + y1, hX.out, val_u64 (by omega), val_u64 (by omega)⟩
            case measure => simp [intOf]; omega
        · by_cases c2 : (4294967296 : Int) * rn + u0 < (qn : Int) * y0
          · have hc := Lib.hid (show 4294967296 ≤ qn ∨ 4294967296 * rn + u0 < qn * y0 from Or.inr (by rw [← Int.natCast_mul] at c2; omega))
            have hq1 : (1 : Int) ≤ qn := by have := kn_pos P1.out.1 (by omega) (by omega) KN.out hc.out; omega
            by_cases c3 : (4294967296 : Int) ≤ (rn : Int) + y1
            · have hX := Lib.hid (kn_break P1.out.1 P1.out.2.1 P1.out.2.2 (by omega) KN.out hc.out (by omega))
              go_wp2
              go_meet
              case rel => exact ⟨by rw [← hX.out]; exact val_u64 (by omega), ⟨_, rfl⟩, rfl⟩
            · have hX := Lib.hid (kn_next P1.out.1 (by omega) (by omega) KN.out hc.out (show rn + y1 < 4294967296 by omega))
              go_wp2
              go_round
              case rel => exact ⟨qn - 1, rn + y1, hX.out, val_u64 (by omega), val_u64 (by omega)⟩
              case measure => simp [intOf]; omega
          · have hX := Lib.hid (kn_stay P1.out.1 KN.out (by rw [← Int.natCast_mul] at c2; omega))
            go_wp2
            go_meet
            case rel => exact ⟨by rw [← hX.out], ⟨_, rfl⟩, rfl⟩
    case rest =>
      obtain ⟨rfl, ⟨t, rfl⟩, rfl⟩ := hcut
      have hdm := Nat.div_add_mod (R * 4294967296 + u0) Y
      have hml := Nat.mod_lt (R * 4294967296 + u0) hYp
      obtain ⟨q0, hq0⟩ : ∃ q, q = (R * 4294967296 + u0) / Y := ⟨_, rfl⟩
      obtain ⟨R0, hR0⟩ : ∃ q, q = (R * 4294967296 + u0) % Y := ⟨_, rfl⟩
      obtain ⟨m1, m2, m3, m4⟩ := kn_final (show 0 < y by omega) P9.out (show U < Y by omega) P8.out (show u1 < 4294967296 by omega) (show u0 < 4294967296 by omega) FQ1.out FR.out hq0
      rw [← hq0, ← hR0] at hdm
      rw [← hR0] at hml m2
      rw [← hq0]
      have e22 : IntKind.u64.wrap (IntKind.u64.wrap (IntKind.u64.wrap ((R : Int) * 4294967296) + u0) - IntKind.u64.wrap ((q0 : Int) * Y)) = R0 := by
        rw [← Int.natCast_mul, Nat.mul_comm q0 Y]
        simp only [IntKind.wrap_u64]
        omega
      have n1 : (q1 : Int) < 4294967296 := by omega
      have n2 : (q0 : Int) < 4294967296 := by omega
      have M1 := Lib.hid (show (q1 : Int) * 4294967296 + q0 = (((h * 18446744073709551616 + l) / y : Nat) : Int) from by rw [← m1]; omega)
      have M2 := Lib.hid (show (R0 : Int) / 2 ^ s = (((h * 18446744073709551616 + l) % y : Nat) : Int) from by rw [← m2]; simp)
      clear m1 m2 m3 m4 hdm hml hq0 hR0 l1 l2 l3 l4 l5 l6 KB
      go_wp2_with fail
      go_ret2
      refine ⟨?_, rfl⟩
      rw [← M1.out, ← M2.out]
      exact ret_tup rfl

end Go.Proofs.YtlhlcefkmhhmjaaGreat
namespace Go.Proofs.YtlhlcefkmhhmjaaGreat
set_option linter.all false
open Go.RowKit Bu Rx

def kLz (L : Int → Int) (u : Int → Bool) : List SV → Dec → Option (SV × Dec × Obs)
  | [x], ds => match intS x with
    | some (.u64, a) => some (.si .i64 (L a), ds, [(u a, true)])
    | _ => none
  | _, _ => none
def kDiv (q r : Int → Int → Int → Int) (c : Int → Int → Int → Bool) : List SV → Dec → Option (SV × Dec × Obs)
  | [x, y, z], ds => match intS x, intS y, intS z with
    | some (.u64, h), some (.u64, l), some (.u64, y) => some (.tup [.si .u64 (q h l y), .si .u64 (r h l y)], ds, [(c h l y, true)])
    | _, _, _ => none
  | _, _ => none
def lzI (a : Int) : Int := 64 - (blen a.toNat : Int)
def dqI (h l y : Int) : Int := ((h.toNat * 18446744073709551616 + l.toNat) / y.toNat : Nat)
def drI (h l y : Int) : Int := ((h.toNat * 18446744073709551616 + l.toNat) % y.toNat : Nat)
def dcI (h l y : Int) : Bool := decide (0 < h ∧ h < y ∧ y ≤ 18446744073709551615 ∧ 0 ≤ l ∧ l ≤ 18446744073709551615)
theorem lzG : PlainOk Tryz.prog 70 (kLz lzI u64B) := by
  intro args ds x ds' ob h ho
  unfold kLz at h
  split at h
  · rename_i x
    split at h
    · rename_i a ha
      simp only [Option.some.injEq, Prod.mk.injEq] at h
      obtain ⟨rfl, rfl, rfl⟩ := h
      have k1 := u64_of (ho (u64B a, true) (by simp))
      obtain ⟨p, rfl⟩ := Int.eq_ofNat_of_zero_le k1.1
      refine ⟨[.int .u64 p], _, plains_cons (intS_plain ha) plains_nil, rfl, fun w => (lz_w p w k1.2).mono ?_⟩
      rintro e w' ⟨rfl, rfl⟩
      exact ⟨rfl, Below.refl _ _⟩
    · cases h
  · cases h
theorem divG : PlainOk Tryz.prog 71 (kDiv dqI drI dcI) := by
  intro args ds x ds' ob h ho
  unfold kDiv at h
  split at h
  · rename_i x y z
    split at h
    · rename_i a b c ha hb hc
      simp only [Option.some.injEq, Prod.mk.injEq] at h
      obtain ⟨rfl, rfl, rfl⟩ := h
      have k1 := of_decide_eq_true (ho (dcI a b c, true) (by simp))
      obtain ⟨p, rfl⟩ := Int.eq_ofNat_of_zero_le (show 0 ≤ a by omega)
      obtain ⟨q, rfl⟩ := Int.eq_ofNat_of_zero_le (show 0 ≤ b by omega)
      obtain ⟨r, rfl⟩ := Int.eq_ofNat_of_zero_le (show 0 ≤ c by omega)
      refine ⟨[.int .u64 p, .int .u64 q, .int .u64 r], _, plains_cons (intS_plain ha) (plains_cons (intS_plain hb) (plains_cons (intS_plain hc) plains_nil)), rfl, fun w => (div64_pos p q r k1.1 k1.2.1 k1.2.2.1 k1.2.2.2.2 w).mono ?_⟩
      rintro e w' ⟨rfl, rfl⟩
      exact ⟨rfl, Below.refl _ _⟩
    · cases h
  · cases h
def OGD (K : Kd) (L : Int → Int) (q r : Int → Int → Int → Int) (c : Int → Int → Int → Bool) : OracleF :=
  lookO [(50, plainO oRight), (69, plainO (kParts K)), (72, plainO (kRound K)), (70, plainO (kLz L K.u)), (71, plainO (kDiv q r c))]
theorem oracleGD : OracleOk Tryz.prog (OGD KR lzI dqI drI dcI) := .cons rightG.of (.cons partsG.of (.cons roundG.of (.cons lzG.of (.cons divG.of (.nil _)))))
def nA (K : Kd) (L : Int → Int) (x : F) : Int := IntKind.u64.wrap (K.mn x * 2 ^ min (L (K.mn x)).toNat IntKind.u64.bits)
def nH (K : Kd) (L : Int → Int) (x : F) : Int := (nA K L x).fdiv (2 ^ min (Int.toNat 1) IntKind.u64.bits)
def nL (K : Kd) (L : Int → Int) (x : F) : Int := IntKind.u64.wrap (nA K L x * 2 ^ min (Int.toNat 63) IntKind.u64.bits)
def nE (K : Kd) (L : Int → Int) (x y : F) : Int := IntKind.i64.wrap (IntKind.i64.wrap (IntKind.i64.wrap (K.ex x - L (K.mn x)) - IntKind.i64.wrap (K.ex y - L (K.mn y))) - 63)
def obD (K : Kd) (L : Int → Int) (q r : Int → Int → Int → Int) (c : Int → Int → Int → Bool) (x y : F) (s t d : Bool) : Obs :=
  [(K.u 0, true), (K.u (q (nH K L x) (nL K L x) (nA K L y)), true), (K.re (nE K L x y), true), (decide (r (nH K L x) (nL K L x) (nA K L y) > 0), d), (c (nH K L x) (nL K L x) (nA K L y), true),
    (decide (0 ≤ L (K.mn y)), true), (decide (0 ≤ L (K.mn x)), true), (K.u (K.mn y), true), (K.u (K.mn x), true), (K.sg y, t), (K.sg x, s), (decide (x.k = (toF 0).k), false), (decide (y.k = (toF 0).k), false)]
theorem divRun (K : Kd) (L : Int → Int) (q r : Int → Int → Int → Int) (c : Int → Int → Int → Bool) (x y : F) (up s t d : Bool) : valR ((run Tryz.prog EG (OGD K L q r c) 100).1 42 [.fl x, .fl y, .b up] [] (some [false, false, s, t, d])) =
    some (.tup [.fl (K.rF (s != t) 0 (q (nH K L x) (nL K L x) (nA K L y)) d (nE K L x y) up), .si .i64 (K.rI (s != t) 0 (q (nH K L x) (nL K L x) (nA K L y)) d (nE K L x y) up)], some [], obD K L q r c x y s t d) := by
  cases s <;> cases t <;> cases d <;> kernel_rfl
theorem divRun0 (K : Kd) (L : Int → Int) (q r : Int → Int → Int → Int) (c : Int → Int → Int → Bool) (x y : F) (up : Bool) : valR ((run Tryz.prog EG (OGD K L q r c) 100).1 42 [.fl x, .fl y, .b up] [] (some [true])) =
    some (.tup [.fl (toF 0), .i .i64 11], some [], [(decide (y.k = (toF 0).k), true)]) := by kernel_rfl
theorem divRunZ (K : Kd) (L : Int → Int) (q r : Int → Int → Int → Int) (c : Int → Int → Int → Bool) (x y : F) (up : Bool) : valR ((run Tryz.prog EG (OGD K L q r c) 100).1 42 [.fl x, .fl y, .b up] [] (some [false, true])) =
    some (.tup [.fl (toF 0), .i .i64 0], some [], [(decide (x.k = (toF 0).k), true), (decide (y.k = (toF 0).k), false)]) := by kernel_rfl

structure DivFacts (x y : F) : Prop where
  lx : lzI (mn x) = nlz (mn x)
  a : nA KR lzI x = divM x
  b : nA KR lzI y = divM y
  h : nH KR lzI x = ((divM x / 2 : Nat) : Int)
  l : nL KR lzI x = ((divM x * 9223372036854775808 % 18446744073709551616 : Nat) : Int)
  e : nE KR lzI x y = divE x y
  r : -5000 ≤ divE x y ∧ divE x y ≤ 5000
theorem lzI_mn (x : F) : lzI (mn x) = nlz (mn x) := by
  have := blen_mn x
  unfold lzI nlz
  rw [Int.toNat_natCast]; omega
theorem nA_eq {x : F} (h : x.k ≠ 0) : nA KR lzI x = divM x := by
  have hb := norm_bounds (mn_pos h) (mn_64 x)
  have e1 : min (lzI (KR.mn x)).toNat IntKind.u64.bits = nlz (mn x) := by
    show min (lzI (mn x)).toNat 64 = _
    rw [lzI_mn, Int.toNat_natCast]
    exact Nat.min_eq_left (nlz_le _)
  unfold nA
  rw [e1]
  show IntKind.u64.wrap ((mn x : Int) * 2 ^ nlz (mn x)) = _
  have e2 : (mn x : Int) * 2 ^ nlz (mn x) = ((divM x : Nat) : Int) := by unfold divM; rw [Int.natCast_mul, Int.natCast_pow]; rfl
  rw [e2, IntKind.wrap_u64]
  unfold divM
  generalize mn x * 2 ^ nlz (mn x) = M at *
  omega
theorem divFacts {x y : F} (hx : x.k ≠ 0) (hy : y.k ≠ 0) : DivFacts x y := by
  have h1 := ex_le x
  have h2 := ex_le y
  have h3 := nlz_le (mn x)
  have h4 := nlz_le (mn y)
  have hr : -5000 ≤ divE x y ∧ divE x y ≤ 5000 := by unfold divE; omega
  refine ⟨lzI_mn x, nA_eq hx, nA_eq hy, ?_, ?_, ?_, hr⟩
  · unfold nH
    rw [nA_eq hx]
    show ((divM x : Nat) : Int).fdiv 2 = _
    rw [Int.fdiv_eq_ediv_of_nonneg _ (by omega)]; rfl
  · unfold nL
    rw [nA_eq hx, IntKind.wrap_u64]
    show ((divM x : Nat) : Int) * 9223372036854775808 % 18446744073709551616 = _
    omega
  · unfold nE
    show IntKind.i64.wrap (IntKind.i64.wrap (IntKind.i64.wrap ((ex x : Int) - 1074 - lzI (mn x)) - IntKind.i64.wrap ((ex y : Int) - 1074 - lzI (mn y))) - 63) = _
    rw [lzI_mn, lzI_mn]
    unfold divE
    rw [Bu.wrap_small (n := (ex x : Int) - 1074 - nlz (mn x)) (by omega) (by omega), Bu.wrap_small (n := (ex y : Int) - 1074 - nlz (mn y)) (by omega) (by omega), Bu.wrap_small (n := (ex x : Int) - 1074 - nlz (mn x) - _) (by omega) (by omega), Bu.wrap_small (by omega) (by omega)]
theorem toF_zero : toF 0 = F.zero := by decide +kernel
/-- a quotient, or what is told of none -/
def qDiv (up : Bool) (a b : F) : F × Int := if b.k = 0 then (F.zero, 11) else dDiv up a b
theorem div_F_w (x y : F) (up : Bool) (w : World) :
    Calls Tryz.prog 42 #[.float .f64 x.b, .float .f64 y.b, .bool up] w fun e w' => e = .returned (.tuple #[.float .f64 (qDiv up x y).1.b, .int .i64 (qDiv up x y).2]) ∧ Below w.heap.size w w' := by
  unfold qDiv
  by_cases hy : y.k = 0
  · rw [if_pos hy, ← toF_zero]
    exact calls_of_val goodG oracleGD 100 (divRun0 KR lzI dqI drI dcI x y up) (ObsOk.of_B (obsB_yes (decide_eq_true (by rw [zero_k']; exact hy)) obsB_nil)) rfl rfl w
  have oy : decide (y.k = (toF 0).k) = false := decide_eq_false (by rw [zero_k']; exact hy)
  rw [if_neg hy]
  by_cases hx : x.k = 0
  · rw [dDiv_zero up x y hx, ← toF_zero]
    exact calls_of_val goodG oracleGD 100 (divRunZ KR lzI dqI drI dcI x y up) (ObsOk.of_B (obsB_yes (decide_eq_true (by rw [zero_k']; exact hx)) (obsB_yes oy obsB_nil))) rfl rfl w
  have ox : decide (x.k = (toF 0).k) = false := decide_eq_false (by rw [zero_k']; exact hx)
  have f := divFacts hx hy
  have nx := norm_bounds (mn_pos hx) (mn_64 x)
  have ny := norm_bounds (mn_pos hy) (mn_64 y)
  have hcat := divM_eq (divM x)
  have hl : (divM x * 9223372036854775808 % 18446744073709551616 : Nat) < 18446744073709551616 := Nat.mod_lt _ (by decide)
  have hq : dqI (nH KR lzI x) (nL KR lzI x) (nA KR lzI y) = ((divM x * 9223372036854775808 / divM y : Nat) : Int) := by
    rw [f.h, f.l, f.b]; unfold dqI; rw [Int.toNat_natCast, Int.toNat_natCast, Int.toNat_natCast, hcat]
  have hr : drI (nH KR lzI x) (nL KR lzI x) (nA KR lzI y) = ((divM x * 9223372036854775808 % divM y : Nat) : Int) := by
    rw [f.h, f.l, f.b]; unfold drI; rw [Int.toNat_natCast, Int.toNat_natCast, Int.toNat_natCast, hcat]
  have hc : dcI (nH KR lzI x) (nL KR lzI x) (nA KR lzI y) = true := by
    rw [f.h, f.l, f.b]
    have k1 : 9223372036854775808 ≤ divM x ∧ divM x < 18446744073709551616 := nx
    have k2 : 9223372036854775808 ≤ divM y ∧ divM y < 18446744073709551616 := ny
    generalize divM x * 9223372036854775808 % 18446744073709551616 = l at *
    unfold dcI
    exact decide_eq_true ⟨by omega, by omega, by omega, by omega, by omega⟩
  have hqb : ((divM x * 9223372036854775808 / divM y : Nat) : Int) ≤ 18446744073709551615 := by
    have k1 : 9223372036854775808 ≤ divM x ∧ divM x < 18446744073709551616 := nx
    have k2 : 9223372036854775808 ≤ divM y ∧ divM y < 18446744073709551616 := ny
    have : divM x * 9223372036854775808 / divM y < 18446744073709551616 := by
      rw [Nat.div_lt_iff_lt_mul (by omega)]
      generalize divM x = M at *
      generalize divM y = N at *
      omega
    omega
  have hd : decide (drI (nH KR lzI x) (nL KR lzI x) (nA KR lzI y) > 0) = decide (0 < divM x * 9223372036854775808 % divM y) := by
    rw [hr]
    generalize divM x * 9223372036854775808 % divM y = R
    exact decide_eq_decide.2 (by omega)
  have hv : rndG (sg x != sg y) (wn 0 ((divM x * 9223372036854775808 / divM y : Nat) : Int)) (decide (0 < divM x * 9223372036854775808 % divM y)) (divE x y) up = dDiv up x y := by
    rw [← rndG_div up x y hx hy]
    unfold wn
    rw [Int.toNat_natCast, Int.toNat_zero, Nat.zero_mul, Nat.zero_add]
  have hrun := divRun KR lzI dqI drI dcI x y up (sg x) (sg y) (decide (0 < divM x * 9223372036854775808 % divM y))
  rw [f.e, hq] at hrun
  have ho : obsB (obD KR lzI dqI drI dcI x y (sg x) (sg y) (decide (0 < divM x * 9223372036854775808 % divM y))) = true := by
    unfold obD
    rw [hq, f.e]
    refine obsB_yes u64_0 (obsB_yes (u64_mk (Int.natCast_nonneg _) hqb) (obsB_yes (decide_eq_true f.r) (obsB_yes hd (obsB_yes hc (obsB_yes ?_ (obsB_yes ?_ (obsB_yes (mn_u64 y) (obsB_yes (mn_u64 x) (obsB_yes rfl (obsB_yes rfl (obsB_yes ox (obsB_yes oy obsB_nil))))))))))))
    · exact decide_eq_true (by show 0 ≤ lzI (mn y); rw [lzI_mn]; omega)
    · exact decide_eq_true (by show 0 ≤ lzI (mn x); rw [lzI_mn]; omega)
  rw [← hv]
  exact calls_of_val goodG oracleGD 100 hrun (ObsOk.of_B ho) rfl rfl w
end Go.Proofs.YtlhlcefkmhhmjaaGreat
namespace Bu
set_option linter.all false
open Ieee

theorem signed_not (b : Bool) (m n : Nat) : signed (!b) m n = - signed b m n := by
  rw [signed_eq, signed_eq]
  cases b <;> simp

/-- '-' -/
theorem sub_F (x y : F) : double.sub x.b y.b = some (if x.z - y.z = 0 then 0 else double.word (decide (x.z - y.z < 0)) (min (near (x.z - y.z).natAbs 1) T)) := by
  unfold Format.sub
  rw [read_F, read_F]
  simp only [Datum.opposite, Datum.sum, Option.map_some, Format.write]
  obtain ⟨base, hbase⟩ : ∃ b : Int, b = min (-1074 + (pl x.k.natAbs : Int)) (-1074 + (pl y.k.natAbs : Int)) := ⟨_, rfl⟩
  rw [← hbase, signed_not]
  have s1 := signed_scale (decide (x.k < 0)) (man x.k.natAbs) (-1074 + (pl x.k.natAbs : Int)) base (by omega) (by omega)
  have s2 := signed_scale (decide (y.k < 0)) (man y.k.natAbs) (-1074 + (pl y.k.natAbs : Int)) base (by omega) (by omega)
  rw [show (-1074 + (pl x.k.natAbs : Int) + 1074).toNat = pl x.k.natAbs from by omega, ← nvZ_sign] at s1
  rw [show (-1074 + (pl y.k.natAbs : Int) + 1074).toNat = pl y.k.natAbs from by omega, ← nvZ_sign] at s2
  generalize signed (decide (x.k < 0)) (man x.k.natAbs) (-1074 + (pl x.k.natAbs : Int) - base).toNat = u at *
  generalize signed (decide (y.k < 0)) (man y.k.natAbs) (-1074 + (pl y.k.natAbs : Int) - base).toNat = v at *
  have hp := Nat.two_pow_pos (base + 1074).toNat
  have hz : x.z - y.z = (u + -v) * ((2 ^ (base + 1074).toNat : Nat) : Int) := by
    unfold F.z; rw [Int.add_mul, Int.neg_mul, s1, s2]; omega
  have hpos : (0 : Int) < ((2 ^ (base + 1074).toNat : Nat) : Int) := by omega
  have t1 : x.z - y.z = 0 ↔ u + -v = 0 := by
    rw [hz]; constructor
    · intro h; rcases Int.mul_eq_zero.1 h with h | h
      · exact h
      · omega
    · intro h; rw [h, Int.zero_mul]
  have t2 : x.z - y.z < 0 ↔ u + -v < 0 := by
    rw [hz]
    have := Int.mul_lt_mul_right (b := u + -v) (c := 0) hpos
    rw [Int.zero_mul] at this
    exact this
  by_cases h0 : u + -v = 0
  · rw [if_pos (t1.2 h0)]
    have hx0 : (decide (x.k < 0) && !decide (y.k < 0)) = false := by
      rw [Bool.and_eq_false_iff]
      have a1 := z_sign x
      have a2 := z_sign y
      have := t1.2 h0
      simp only [decide_eq_false_iff_not, Bool.not_eq_false', decide_eq_true_eq]
      omega
    rw [h0]
    simp [hx0, Format.nearest, Format.word]
  · rw [if_neg (fun h => h0 (t1.1 h)), if_neg h0, nearest_eq _ _ _ (by omega)]
    simp only [t2]
    have e : near ((u + -v).natAbs * 2 ^ (base + 1074).toNat) (2 ^ (-(base + 1074)).toNat) = near (x.z - y.z).natAbs 1 := by
      refine near_ratio (Nat.two_pow_pos _) (by omega) ?_
      rw [hz, Int.natAbs_mul, Int.natAbs_natCast, show (-(base + 1074)).toNat = 0 from by omega]
    rw [e]

/-- what does not pass a number on the ladder is not rounded past it -/
theorem near_le {n d r : Nat} (hd : 0 < d) (h : n ≤ nv r * d) : near n d ≤ r := by
  have h1 : n / d ≤ nv r := by
    have := Nat.div_le_div_right (c := d) h
    rwa [Nat.mul_div_cancel _ hd] at this
  have h2 : fl (n / d) ≤ r := by have := fl_mono h1; rwa [fl_nv] at this
  by_cases c : fl (n / d) = r
  · have h3 : nv r ≤ n / d := by rw [← c]; exact nv_fl_le _
    have h4 : n = nv r * d := by
      have := Nat.le_div_iff_mul_le hd |>.1 h3
      omega
    rw [near_exact hd h4]; exact Nat.le_refl _
  · unfold near
    simp only
    split
    · omega
    · split
      · omega
      · split <;> omega
theorem le_near {n d r : Nat} (hd : 0 < d) (h : nv r * d ≤ n) : r ≤ near n d := by
  have h1 : nv r ≤ n / d := (Nat.le_div_iff_mul_le hd).2 h
  have h2 : r ≤ fl (n / d) := by have := fl_mono h1; rwa [fl_nv] at this
  unfold near
  simp only
  split
  · exact h2
  · split
    · omega
    · split <;> omega
end Bu
namespace Bu
set_option linter.all false
open Ieee

theorem quot_le {m n A B more : Nat} (hn : n ≠ 0) (h : m * 2 ^ A ≤ n * 2 ^ B) (hA : A ≤ B + more) : (2 * (m * 2 ^ more / n) + (m * 2 ^ more % n != 0).toNat) ≤ 2 ^ (1 + more + B - A) := by
  obtain ⟨c, hc⟩ : ∃ c, B + more = A + c := ⟨B + more - A, by omega⟩
  have e1 : 1 + more + B - A = c + 1 := by omega
  rw [e1, Nat.pow_succ]
  have hp := Nat.two_pow_pos A
  have h1 : m * 2 ^ more ≤ n * 2 ^ c := by
    have h2 : m * 2 ^ A * 2 ^ more ≤ n * 2 ^ B * 2 ^ more := Nat.mul_le_mul_right _ h
    have e2 : n * 2 ^ B * 2 ^ more = n * 2 ^ c * 2 ^ A := by rw [Nat.mul_assoc, Nat.mul_assoc, ← Nat.pow_add, ← Nat.pow_add, hc, Nat.add_comm]
    have e3 : m * 2 ^ A * 2 ^ more = m * 2 ^ more * 2 ^ A := by rw [Nat.mul_right_comm]
    rw [e2, e3] at h2
    exact Nat.le_of_mul_le_mul_right h2 hp
  have hd := Nat.div_add_mod (m * 2 ^ more) n
  have hr := Nat.mod_lt (m * 2 ^ more) (Nat.pos_of_ne_zero hn)
  generalize m * 2 ^ more / n = Q at *
  generalize m * 2 ^ more % n = R at *
  generalize 2 ^ c = C at *
  have hQ : Q ≤ C := by
    apply Nat.le_of_not_lt
    intro g
    have := Nat.mul_le_mul_left n (show C + 1 ≤ Q from g)
    rw [Nat.mul_add] at this
    omega
  by_cases hR : R = 0
  · subst hR; simp; omega
  · have hs : (R != 0).toNat = 1 := by simp [hR]
    rw [hs]
    have : Q ≠ C := by
      intro e; subst e; omega
    omega
theorem div_le1 {x y : F} (hx : 0 < x.k) (hy : 0 < y.k) (h : x.z ≤ y.z) {r : Nat} (hr : nv r = S) (hT : r < T) : ∃ t : F, double.div x.b y.b = some t.b ∧ 0 ≤ t.k ∧ t.k ≤ r := by
  have m1 : man x.k.natAbs ≠ 0 := fun h => by have := man_zero _ h; omega
  have m2 : man y.k.natAbs ≠ 0 := fun h => by have := man_zero _ h; omega
  have hz : man x.k.natAbs * 2 ^ pl x.k.natAbs ≤ man y.k.natAbs * 2 ^ pl y.k.natAbs := by
    have a := z_natAbs x
    have b := z_natAbs y
    have s1 := (z_sign x); have s2 := (z_sign y)
    omega
  unfold Format.div
  rw [read_F, read_F]
  simp only [Datum.quotient, if_neg m2, Option.map_some, Format.write]
  rw [decide_eq_false (show ¬ x.k < 0 by omega), decide_eq_false (show ¬ y.k < 0 by omega)]
  generalize hmm : man x.k.natAbs = m at *
  generalize hnn : man y.k.natAbs = n at *
  generalize pl x.k.natAbs = A at *
  generalize pl y.k.natAbs = B at *
  obtain ⟨more, hmo⟩ : ∃ more, double.fractionBits + 2 + n.log2 - m.log2 = more := ⟨_, rfl⟩
  rw [hmo, Nat.shiftLeft_eq]
  have hfb : double.fractionBits = 52 := rfl
  rw [hfb] at hmo
  have l1 := Nat.log2_self_le m1
  have l2 : n < 2 ^ (n.log2 + 1) := Nat.lt_log2_self
  have hAB : A + m.log2 < n.log2 + 1 + B := by
    have h1 : 2 ^ (A + m.log2) ≤ m * 2 ^ A := by rw [Nat.pow_add, Nat.mul_comm]; exact Nat.mul_le_mul_right _ l1
    have h2 : n * 2 ^ B < 2 ^ (n.log2 + 1 + B) := by rw [Nat.pow_add]; exact Nat.mul_lt_mul_of_pos_right l2 (Nat.two_pow_pos B)
    exact (Nat.pow_lt_pow_iff_right (by omega)).1 (Nat.lt_of_le_of_lt h1 (Nat.lt_of_le_of_lt hz h2))
  have hA : A ≤ B + more := by omega
  have hq := quot_le m2 hz hA
  have hne : 2 * (m * 2 ^ more / n) + (m * 2 ^ more % n != 0).toNat ≠ 0 := by
    intro h0
    have hd := Nat.div_add_mod (m * 2 ^ more) n
    have h1 : m * 2 ^ more / n = 0 := by omega
    have h2 : (m * 2 ^ more % n != 0).toNat = 0 := by omega
    have h3 : m * 2 ^ more % n = 0 := by
      by_cases c : m * 2 ^ more % n = 0
      · exact c
      · simp [c] at h2
    rw [h1, h3] at hd
    have := Nat.mul_pos (Nat.pos_of_ne_zero m1) (Nat.two_pow_pos more)
    omega
  rw [nearest_eq _ _ _ hne]
  generalize 2 * (m * 2 ^ more / n) + (m * 2 ^ more % n != 0).toNat = mag at *
  have hn : near (mag * 2 ^ (-1074 + (A : Int) - (-1074 + (B : Int)) - (more : Int) - 1 + 1074).toNat) (2 ^ (-(-1074 + (A : Int) - (-1074 + (B : Int)) - (more : Int) - 1 + 1074)).toNat) ≤ r := by
    refine near_le (Nat.two_pow_pos _) ?_
    obtain ⟨sx, hs1, hs2⟩ := S_pow
    rw [hr, hs2, ← Nat.pow_add]
    refine Nat.le_trans (Nat.mul_le_mul_right _ hq) ?_
    rw [← Nat.pow_add]
    exact Nat.pow_le_pow_right (by omega) (by omega)
  rw [Nat.min_eq_left (by omega), word_F _ _ (by omega) (by simp)]
  refine ⟨_, rfl, ?_⟩
  have e : (if (false ^^ false) = true then -((near (mag * 2 ^ (-1074 + (A : Int) - (-1074 + (B : Int)) - (more : Int) - 1 + 1074).toNat) (2 ^ (-(-1074 + (A : Int) - (-1074 + (B : Int)) - (more : Int) - 1 + 1074)).toNat) : Nat) : Int) else ((near (mag * 2 ^ (-1074 + (A : Int) - (-1074 + (B : Int)) - (more : Int) - 1 + 1074).toNat) (2 ^ (-(-1074 + (A : Int) - (-1074 + (B : Int)) - (more : Int) - 1 + 1074)).toNat) : Nat) : Int)) = ((near (mag * 2 ^ (-1074 + (A : Int) - (-1074 + (B : Int)) - (more : Int) - 1 + 1074).toNat) (2 ^ (-(-1074 + (A : Int) - (-1074 + (B : Int)) - (more : Int) - 1 + 1074)).toNat) : Nat) : Int) := if_neg (by decide)
  rw [e, F.of_k (by omega)]
  omega
end Bu
