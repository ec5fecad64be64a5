/- Long division: the plain part. -/
import Derived.Test.YtiipaicbbmkagaaFa
import Derived.Test.YtiipaicbbmkagaaFc
namespace Bu
set_option linter.all false

def B32 : Nat := 4294967296

/-- one digit -/
structure Kn (U u1 y y1 y0 q r : Nat) : Prop where
  eq : q * y1 + r = U
  lt : U * 4294967296 + u1 < (q + 1) * y
  le : q ≤ 4294967297
  rl : r < 4294967296

theorem kn_startB {U u1 y y1 b : Nat} (h1 : 0 < y1) (hy : y1 * b ≤ y) (hu : u1 < b) : U * b + u1 < (U / y1 + 1) * y := by
  have hd := Nat.div_add_mod U y1
  have hm := Nat.mod_lt U h1
  have : U + 1 ≤ (U / y1 + 1) * y1 := by rw [Nat.add_mul, Nat.mul_comm]; omega
  have h3 : (U + 1) * b ≤ (U / y1 + 1) * y1 * b := Nat.mul_le_mul_right b this
  have h4 : (U / y1 + 1) * (y1 * b) ≤ (U / y1 + 1) * y := Nat.mul_le_mul_left _ hy
  rw [Nat.mul_assoc, Nat.add_mul] at h3
  omega

theorem kn_start {U u1 y y1 y0 : Nat} (hy : y = y1 * 4294967296 + y0) (h1 : 2147483648 ≤ y1) (h2 : y1 < 4294967296) (h0 : y0 < 4294967296) (hU : U < y) (hu : u1 < 4294967296) :
    Kn U u1 y y1 y0 (U / y1) (U % y1) := by
  have hd := Nat.div_add_mod U y1
  have hm := Nat.mod_lt U (show 0 < y1 by omega)
  refine ⟨by rw [Nat.mul_comm]; exact hd, ?_, ?_, by omega⟩
  · exact kn_startB (by omega) (by omega) hu
  · have h5 : U / y1 < 4294967298 := by
      rw [Nat.div_lt_iff_lt_mul (by omega)]
      omega
    omega

theorem kn_stay {U u1 y y1 y0 q r : Nat} (hy : y = y1 * 4294967296 + y0) (h : Kn U u1 y y1 y0 q r) (hc : q * y0 ≤ 4294967296 * r + u1) : q = (U * 4294967296 + u1) / y := by
  have hy0 : 0 < y := by
    have := h.lt
    by_cases c : 0 < y
    · exact c
    · have : y = 0 := by omega
      subst this; omega
  symm
  rw [Nat.div_eq_iff hy0]
  have h1 := h.eq
  have h2 := h.lt
  have e : q * y = q * y1 * 4294967296 + q * y0 := by rw [hy, Nat.mul_add, Nat.mul_assoc]
  have e2 : U * 4294967296 = q * y1 * 4294967296 + r * 4294967296 := by rw [← h1, Nat.add_mul]
  rw [Nat.add_mul, Nat.one_mul] at h2
  omega

theorem kn_test {U u1 y y1 y0 q r : Nat} (hy : y = y1 * 4294967296 + y0) (hU : U < y) (hu : u1 < 4294967296) (h : Kn U u1 y y1 y0 q r) (hc : 4294967296 ≤ q ∨ 4294967296 * r + u1 < q * y0) :
    U * 4294967296 + u1 < q * y := by
  have h1 := h.eq
  have e : q * y = q * y1 * 4294967296 + q * y0 := by rw [hy, Nat.mul_add, Nat.mul_assoc]
  have e2 : U * 4294967296 = q * y1 * 4294967296 + r * 4294967296 := by rw [← h1, Nat.add_mul]
  rcases hc with c | c
  · have : 4294967296 * y ≤ q * y := Nat.mul_le_mul_right _ c
    omega
  · omega

theorem kn_pos {U u1 y y1 y0 q r : Nat} (hy : y = y1 * 4294967296 + y0) (hU : U < y) (hu : u1 < 4294967296) (h : Kn U u1 y y1 y0 q r) (hc : 4294967296 ≤ q ∨ 4294967296 * r + u1 < q * y0) : 1 ≤ q := by
  have := kn_test hy hU hu h hc
  by_cases c : q = 0
  · subst c; omega
  · omega

theorem kn_next {U u1 y y1 y0 q r : Nat} (hy : y = y1 * 4294967296 + y0) (hU : U < y) (hu : u1 < 4294967296) (h : Kn U u1 y y1 y0 q r) (hc : 4294967296 ≤ q ∨ 4294967296 * r + u1 < q * y0) (hr : r + y1 < 4294967296) :
    Kn U u1 y y1 y0 (q - 1) (r + y1) := by
  have h1 := h.eq
  have hp := kn_pos hy hU hu h hc
  obtain ⟨t, rfl⟩ : ∃ t, q = t + 1 := ⟨q - 1, by omega⟩
  have hl := h.le
  refine ⟨?_, ?_, by omega, hr⟩
  · rw [Nat.add_mul] at h1; simp only [Nat.add_sub_cancel]; omega
  · simp only [Nat.add_sub_cancel]; exact kn_test hy hU hu h hc

theorem kn_break {U u1 y y1 y0 q r : Nat} (hy : y = y1 * 4294967296 + y0) (h0 : y0 < 4294967296) (hU : U < y) (hu : u1 < 4294967296) (h : Kn U u1 y y1 y0 q r) (hc : 4294967296 ≤ q ∨ 4294967296 * r + u1 < q * y0) (hr : 4294967296 ≤ r + y1) :
    q - 1 = (U * 4294967296 + u1) / y := by
  have h1 := h.eq
  have hp := kn_pos hy hU hu h hc
  have ht := kn_test hy hU hu h hc
  obtain ⟨t, rfl⟩ : ∃ t, q = t + 1 := ⟨q - 1, by omega⟩
  have hl := h.le
  simp only [Nat.add_sub_cancel]
  symm
  rw [Nat.div_eq_iff (by omega)]
  have e : t * y = t * y1 * 4294967296 + t * y0 := by rw [hy, Nat.mul_add, Nat.mul_assoc]
  have e2 : U * 4294967296 = t * y1 * 4294967296 + (r + y1) * 4294967296 := by rw [← h1, ← Nat.add_mul]; grind
  have e3 : t * y0 ≤ 4294967296 * 4294967295 := Nat.mul_le_mul (by omega) (by omega)
  rw [Nat.add_mul, Nat.one_mul] at ht
  omega

/-- the shifted dividend -/
theorem kn_norm {h l y s : Nat} (hs : s ≤ 63) (hy : h < y) (hY : y * 2 ^ s < 18446744073709551616) (hl : l < 18446744073709551616) :
    (h * 2 ^ s + l / 2 ^ (64 - s)) * 18446744073709551616 + l * 2 ^ s % 18446744073709551616 = (h * 18446744073709551616 + l) * 2 ^ s
    ∧ h * 2 ^ s + l / 2 ^ (64 - s) < y * 2 ^ s ∧ h * 2 ^ s < 18446744073709551616 ∧ l / 2 ^ (64 - s) < 2 ^ s := by
  obtain ⟨a, b, c, d, e⟩ := up_parts h l s (by omega) hl
  have hlt : h * 2 ^ s + 2 ^ s ≤ y * 2 ^ s := by
    have := Nat.mul_le_mul_right (2 ^ s) (show h + 1 ≤ y by omega)
    rw [Nat.add_mul, Nat.one_mul] at this
    exact this
  have hpos := Nat.two_pow_pos s
  rw [W128_eq] at a b
  rw [Nat.mod_eq_of_lt (show h * 2 ^ s < 18446744073709551616 by omega)] at a e
  have hlim : (h * 18446744073709551616 + l) * 2 ^ s < 340282366920938463463374607431768211456 := by
    have h1 : h * 18446744073709551616 + l < (h + 1) * 18446744073709551616 := by omega
    have h2 := Nat.mul_lt_mul_of_pos_right h1 hpos
    have h3 : (h + 1) * 18446744073709551616 * 2 ^ s = (h * 2 ^ s + 2 ^ s) * 18446744073709551616 := by grind
    omega
  rw [Nat.mod_eq_of_lt hlim] at a b
  refine ⟨?_, by omega, by omega, d⟩
  rw [← a, ← b]
  exact Nat.div_add_mod' _ _

theorem kn_bothB {U u1 u0 y q1 q0 R b : Nat} (hy : 0 < y) (hU : U < y) (h1 : u1 < b) (h0 : u0 < b) (hq1 : q1 = (U * b + u1) / y) (hR : R = (U * b + u1) % y) (hq0 : q0 = (R * b + u0) / y) :
    q1 * b + q0 = (U * (b * b) + (u1 * b + u0)) / y ∧ (R * b + u0) % y = (U * (b * b) + (u1 * b + u0)) % y ∧ q1 < b ∧ q0 < b := by
  have hd := Nat.div_add_mod (U * b + u1) y
  have hm := Nat.mod_lt (U * b + u1) hy
  rw [← hq1, ← hR] at hd
  rw [← hR] at hm
  have hd0 := Nat.div_add_mod (R * b + u0) y
  have hm0 := Nat.mod_lt (R * b + u0) hy
  rw [← hq0] at hd0
  have l1 : U * b + u1 < y * b := by
    have : (U + 1) * b ≤ y * b := Nat.mul_le_mul_right _ (by omega)
    rw [Nat.add_mul] at this; omega
  have l0 : R * b + u0 < y * b := by
    have : (R + 1) * b ≤ y * b := Nat.mul_le_mul_right _ (by omega)
    rw [Nat.add_mul] at this; omega
  generalize (R * b + u0) % y = r0 at *
  have e : U * (b * b) + (u1 * b + u0) = y * (q1 * b + q0) + r0 := by
    have : U * (b * b) + (u1 * b + u0) = (U * b + u1) * b + u0 := by grind
    rw [this, ← hd, Nat.add_mul, Nat.add_assoc, ← hd0]
    grind
  rw [e]
  refine ⟨?_, ?_, ?_, ?_⟩
  · rw [Nat.mul_add_div hy, Nat.div_eq_of_lt hm0]; omega
  · rw [Nat.mul_add_mod, Nat.mod_eq_of_lt hm0]
  · rw [hq1, Nat.div_lt_iff_lt_mul hy, Nat.mul_comm b]; exact l1
  · rw [hq0, Nat.div_lt_iff_lt_mul hy, Nat.mul_comm b]; exact l0
/-- both digits -/
theorem kn_both {U u1 u0 y q1 q0 R : Nat} (hy : 0 < y) (hU : U < y) (h1 : u1 < 4294967296) (h0 : u0 < 4294967296) (hq1 : q1 = (U * 4294967296 + u1) / y) (hR : R = (U * 4294967296 + u1) % y) (hq0 : q0 = (R * 4294967296 + u0) / y) :
    q1 * 4294967296 + q0 = (U * 18446744073709551616 + (u1 * 4294967296 + u0)) / y ∧ (R * 4294967296 + u0) % y = (U * 18446744073709551616 + (u1 * 4294967296 + u0)) % y ∧ q1 < 4294967296 ∧ q0 < 4294967296 :=
  kn_bothB hy hU h1 h0 hq1 hR hq0

open Go in
theorem kn_pack (h l y : Nat) (hy : h < y) (hy2 : y < 18446744073709551616) (hl : l < 18446744073709551616) : ∃ s Y U L y1 y0 u1 u0 : Nat,
    64 - blen y = s ∧ s ≤ 63 ∧ IntKind.u64.wrap ((y : Int) * 2 ^ s) = Y ∧ bits BinOp.or IntKind.u64 (IntKind.u64.wrap ((h : Int) * 2 ^ s)) ((l : Int) / 2 ^ (64 - s)) = U ∧
    IntKind.u64.wrap ((l : Int) * 2 ^ s) = L ∧ (Y : Int) / 4294967296 = y1 ∧ bits BinOp.and IntKind.u64 (Y : Int) 4294967295 = y0 ∧ (L : Int) / 4294967296 = u1 ∧ bits BinOp.and IntKind.u64 (L : Int) 4294967295 = u0 ∧
    Y = y1 * 4294967296 + y0 ∧ 2147483648 ≤ y1 ∧ y1 < 4294967296 ∧ y0 < 4294967296 ∧ u1 < 4294967296 ∧ u0 < 4294967296 ∧ U < Y ∧ U * 18446744073709551616 + (u1 * 4294967296 + u0) = (h * 18446744073709551616 + l) * 2 ^ s ∧ Y = y * 2 ^ s ∧ Y < 18446744073709551616 := by
  have hb1 := lt_blen y
  have hb2 : blen y ≤ 64 := blen_le hy2
  have hy0 : y ≠ 0 := by omega
  have hb3 : blen y = y.log2 + 1 := by unfold blen; rw [if_neg hy0]
  have hb4 := Nat.log2_self_le hy0
  obtain ⟨s, hs⟩ : ∃ s, 64 - blen y = s := ⟨_, rfl⟩
  have hs63 : s ≤ 63 := by omega
  have hpos := Nat.two_pow_pos s
  have hY1 : y * 2 ^ s < 18446744073709551616 := by
    have := Nat.mul_lt_mul_of_pos_right hb1 hpos
    rw [← Nat.pow_add, show blen y + s = 64 from by omega] at this
    exact this
  have hY2 : 9223372036854775808 ≤ y * 2 ^ s := by
    have := Nat.mul_le_mul_right (2 ^ s) hb4
    rw [← Nat.pow_add, show y.log2 + s = 63 from by omega] at this
    exact this
  obtain ⟨n1, n2, n3, n4⟩ := kn_norm hs63 hy hY1 hl
  have hmod : h * 2 ^ s % 2 ^ s = 0 := Nat.mul_mod_left _ _
  have a1 : IntKind.u64.wrap ((y : Int) * 2 ^ s) = ((y * 2 ^ s : Nat) : Int) := by
    have e : (y : Int) * 2 ^ s = ((y * 2 ^ s : Nat) : Int) := by simp
    rw [e, IntKind.wrap_u64]; omega
  have a2 : IntKind.u64.wrap ((h : Int) * 2 ^ s) = ((h * 2 ^ s : Nat) : Int) := by
    have e : (h : Int) * 2 ^ s = ((h * 2 ^ s : Nat) : Int) := by simp
    rw [e, IntKind.wrap_u64]; omega
  have a3 : (l : Int) / 2 ^ (64 - s) = ((l / 2 ^ (64 - s) : Nat) : Int) := by simp
  have a4 : IntKind.u64.wrap ((l : Int) * 2 ^ s) = ((l * 2 ^ s % 18446744073709551616 : Nat) : Int) := by
    have e : (l : Int) * 2 ^ s = ((l * 2 ^ s : Nat) : Int) := by simp
    rw [e, IntKind.wrap_u64]; omega
  have hLlt : l * 2 ^ s % 18446744073709551616 < 18446744073709551616 := Nat.mod_lt _ (by omega)
  have hUlt : h * 2 ^ s + l / 2 ^ (64 - s) < 18446744073709551616 := by omega
  have hlq : l / 2 ^ (64 - s) < 18446744073709551616 := by omega
  have b2 : bits BinOp.or IntKind.u64 ((h * 2 ^ s : Nat) : Int) ((l / 2 ^ (64 - s) : Nat) : Int) = ((h * 2 ^ s + l / 2 ^ (64 - s) : Nat) : Int) := by
    rw [u64_or_nat _ _ n3 hlq, nat_join s _ _ hmod n4]
  have mask : ∀ x : Nat, x < 18446744073709551616 → bits BinOp.and IntKind.u64 (x : Int) 4294967295 = ((x % 4294967296 : Nat) : Int) := by
    intro x hx
    have := and_mask x 32 hx (by omega)
    exact this
  generalize h * 2 ^ s + l / 2 ^ (64 - s) = U at *
  generalize l * 2 ^ s % 18446744073709551616 = L at *
  refine ⟨s, y * 2 ^ s, U, L, y * 2 ^ s / 4294967296, y * 2 ^ s % 4294967296, L / 4294967296, L % 4294967296, hs, hs63, a1, by rw [a2, a3, b2], a4, by omega, mask _ hY1, by omega, mask _ hLlt, ?_, ?_, ?_, ?_, ?_, ?_, n2, ?_, rfl, hY1⟩
  · omega
  · omega
  · omega
  · omega
  · omega
  · omega
  · rw [← n1]; omega

theorem kn_final {h l y s Y U u1 u0 q1 R q0 : Nat} (hy : 0 < y) (hY : Y = y * 2 ^ s) (hU : U < Y) (hD : U * 18446744073709551616 + (u1 * 4294967296 + u0) = (h * 18446744073709551616 + l) * 2 ^ s)
    (h1 : u1 < 4294967296) (h0 : u0 < 4294967296) (hq1 : q1 = (U * 4294967296 + u1) / Y) (hR : R = (U * 4294967296 + u1) % Y) (hq0 : q0 = (R * 4294967296 + u0) / Y) :
    q1 * 4294967296 + q0 = (h * 18446744073709551616 + l) / y ∧ (R * 4294967296 + u0) % Y / 2 ^ s = (h * 18446744073709551616 + l) % y ∧ q1 < 4294967296 ∧ q0 < 4294967296 := by
  have hpos := Nat.two_pow_pos s
  have hYp : 0 < Y := by rw [hY]; exact Nat.mul_pos hy hpos
  obtain ⟨a, b, c, d⟩ := kn_both hYp hU h1 h0 hq1 hR hq0
  refine ⟨?_, ?_, c, d⟩
  · rw [a, hD, hY, Nat.mul_div_mul_right _ _ hpos]
  · rw [b, hD, hY, Nat.mul_mod_mul_right, Nat.mul_div_cancel _ hpos]
end Bu
