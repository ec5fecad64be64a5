/- Scaled by powers of two: roundings one after the other; products, quotients and sums of products, rounded. -/
import Derived.Test.YtmhhopfffeijnaaGreatNb
namespace Bu
set_option linter.all false
open Ieee

theorem Nk.neg {k A : Int} {B : Nat} (h : Nk k A B) : Nk (-k) (-A) B := by
  constructor
  · intro j hj
    have := h.dn (-j) (by rw [nvZ_neg, Int.neg_mul]; omega)
    omega
  · intro j hj
    have := h.up (-j) (by rw [nvZ_neg, Int.neg_mul]; omega)
    omega
theorem le_scale {a b : Int} {u : Nat} (hu : 0 < u) : a * (u : Int) ≤ b * (u : Int) ↔ a ≤ b := Int.mul_le_mul_right (by omega)
theorem lt_scale {a b : Int} {u : Nat} (hu : 0 < u) : a * (u : Int) < b * (u : Int) ↔ a < b := Int.mul_lt_mul_right (by omega)
theorem Nk.ratio {k A A' : Int} {B B' : Nat} (hB : 0 < B) (hB' : 0 < B') (e : A * (B' : Int) = A' * (B : Int)) (h : Nk k A B) : Nk k A' B' := by
  constructor
  · intro j hj
    refine h.up j ((le_scale hB').1 ?_)
    have := (le_scale hB).2 hj
    rw [e]
    rwa [Int.mul_right_comm] at this
  · intro j hj
    refine h.dn j ((le_scale hB').1 ?_)
    have := (le_scale hB).2 hj
    rw [e]
    rwa [Int.mul_right_comm] at this
/-- a place, scaled: a place again, or small -/
theorem scale_or (j n : Int) : (∃ i, nvZ i * ((2 ^ n.toNat : Nat) : Int) = nvZ j * ((2 ^ (-n).toNat : Nat) : Int)) ∨ ((nvZ j).natAbs < 2 * P * 2 ^ n.toNat ∧ 2 ^ (-n).toNat = 1) := by
  obtain ⟨m, s, e, hm, _⟩ := rep_parts ⟨j, rfl⟩
  by_cases c : n ≤ (s : Int)
  · left
    obtain ⟨i, hi⟩ := rep_mk (m := m) (s := ((s : Int) - n).toNat) (by omega)
    refine ⟨i, ?_⟩
    rw [hi, e, Int.mul_assoc, Int.mul_assoc, ← Int.natCast_mul, ← Int.natCast_mul, ← Nat.pow_add, ← Nat.pow_add]
    congr 3
    omega
  · right
    constructor
    · rw [e, mul_abs]
      have h1 : m.natAbs * 2 ^ s < 2 * P * 2 ^ s := Nat.mul_lt_mul_of_pos_right hm (Nat.two_pow_pos s)
      have h2 : 2 * P * 2 ^ s ≤ 2 * P * 2 ^ n.toNat := Nat.mul_le_mul_left _ (Nat.pow_le_pow_right (by decide) (by omega))
      omega
    · rw [show (-n).toNat = 0 by omega, Nat.pow_zero]
theorem comp_up {k0 k A0 n : Int} {B0 : Nat} (hB : 0 < B0) (h0 : Nk k0 A0 B0) (big : 2 * P * B0 ≤ A0.natAbs) (hk : Nk k (nvZ k0 * ((2 ^ n.toNat : Nat) : Int)) (2 ^ (-n).toNat)) (j : Int) (h : A0 * ((2 ^ n.toNat : Nat) : Int) ≤ nvZ j * ((B0 * 2 ^ (-n).toNat : Nat) : Int)) : k ≤ j := by
  have pU := Nat.two_pow_pos n.toNat
  have pD := Nat.two_pow_pos (-n).toNat
  rcases scale_or j n with ⟨i, e⟩ | ⟨l, e⟩
  · generalize 2 ^ n.toNat = U at *
    generalize 2 ^ (-n).toNat = D at *
    refine hk.up j ?_
    rw [← e]
    refine (le_scale pU).2 ?_
    have h1 : A0 * (U : Int) ≤ nvZ i * (B0 : Int) * (U : Int) := by
      rw [Int.natCast_mul, Int.mul_comm (B0 : Int), ← Int.mul_assoc, ← e] at h
      rwa [Int.mul_right_comm]
    have h2 := h0.up i ((le_scale pU).1 h1)
    exact nvZ_le_iff.2 h2
  · rw [e] at hk h
    generalize 2 ^ n.toNat = U at *
    rw [Nat.mul_one] at h
    refine hk.up j ?_
    have e2 : ((1 : Nat) : Int) = 1 := rfl
    rw [e2, Int.mul_one]
    obtain ⟨i, hi⟩ := (rep_nat (m := 2 * P) (s := 0) (Nat.le_refl _)).neg
    rw [Nat.pow_zero, Nat.mul_one] at hi
    have q1 := mul_abs (nvZ j) B0
    have q2 := mul_abs A0 U
    have q3 : (nvZ j).natAbs * B0 < 2 * P * U * B0 := Nat.mul_lt_mul_of_pos_right l hB
    have q4 : 2 * P * B0 * U ≤ A0.natAbs * U := Nat.mul_le_mul_right U big
    have q5 : 2 * P * U * B0 = 2 * P * B0 * U := by rw [Nat.mul_right_comm]
    rcases (show A0 < 0 ∨ 0 ≤ A0 by omega) with c | c
    · have h3 : A0 ≤ nvZ i * (B0 : Int) := by
        rw [hi, Int.neg_mul, ← Int.natCast_mul]
        omega
      have h4 := nvZ_le_iff.2 (h0.up i h3)
      rw [hi] at h4
      have h5 := (le_scale pU).2 h4
      rw [Int.neg_mul, ← Int.natCast_mul] at h5
      omega
    · exfalso
      have := Int.mul_nonneg c (show (0 : Int) ≤ (U : Int) by omega)
      omega
/-- two roundings, one after the other, round; where the first one is far from the least numbers -/
theorem comp_Nk {k0 k A0 n : Int} {B0 : Nat} (hB : 0 < B0) (h0 : Nk k0 A0 B0) (big : 2 * P * B0 ≤ A0.natAbs) (hk : Nk k (nvZ k0 * ((2 ^ n.toNat : Nat) : Int)) (2 ^ (-n).toNat)) : Nk k (A0 * ((2 ^ n.toNat : Nat) : Int)) (B0 * 2 ^ (-n).toNat) := by
  refine ⟨comp_up hB h0 big hk, fun j h => ?_⟩
  have := comp_up hB h0.neg (by omega) (by rw [nvZ_neg, Int.neg_mul]; exact hk.neg) (-j) (by rw [nvZ_neg, Int.neg_mul, Int.neg_mul]; omega)
  omega
/-- Ldexp, rounded -/
def ldK (x : F) (n : Int) : Int := nearZ (x.z * ((2 ^ n.toNat : Nat) : Int)) (2 ^ (-n).toNat)
def ldW (x : F) (n : Int) : Nat := wrd (x.z * ((2 ^ n.toNat : Nat) : Int)) (2 ^ (-n).toNat)
theorem ld_out (x : F) (n : Int) : Out (ldW x n) (ldK x n) := out_wrd _ (Nat.two_pow_pos _)
theorem ld_Nk (x : F) (n : Int) : Nk (ldK x n) (x.z * ((2 ^ n.toNat : Nat) : Int)) (2 ^ (-n).toNat) := near_Nk (Nat.two_pow_pos _)
theorem near_half {n d : Nat} (h : 2 * n < d) : near n d = 0 := by
  unfold near
  simp only
  have e : n / d = 0 := Nat.div_eq_of_lt (by omega)
  have n1 : nv 1 = 1 := by decide
  rw [e, fl_zero, nv_zero, show (0 : Nat) + 1 = 1 from rfl, n1, if_pos (by omega)]
theorem pow_between {n : Nat} (h : n ≠ 0) : ∃ t, 2 ^ t ≤ n ∧ n < 2 ^ (t + 1) := ⟨n.log2, Nat.log2_self_le h, Nat.lt_log2_self⟩
/-- what a rounded one is, back again -/
theorem back_ok {x D : F} {n : Int} (hx : 2 * P ≤ x.z.natAbs) (hD : D.k = ldK x n) (hm : 2 * x.z.natAbs ≤ F.max.z.natAbs) : ∃ y : F, y.z * ((2 ^ n.toNat : Nat) : Int) = D.z * ((2 ^ (-n).toNat : Nat) : Int) ∧ y.z.natAbs ≤ 2 * x.z.natAbs ∧ (D.k ≠ 0 → x.z.natAbs ≤ 2 * y.z.natAbs) := by
  have hk := ld_Nk x n
  have hP := P_pos
  rw [← hD] at hk
  by_cases hD0 : D.k = 0
  · refine ⟨F.zero, ?_, ?_, fun h => absurd hD0 h⟩
    · have z0 : F.zero.z = 0 := (z_zero F.zero).2 rfl
      rw [z0, (z_zero D).2 hD0, Int.zero_mul, Int.zero_mul]
    · have z0 : F.zero.z = 0 := (z_zero F.zero).2 rfl
      rw [z0]; exact Nat.zero_le _
  · -- not so small
    have half : 2 ^ (-n).toNat ≤ 2 * (x.z.natAbs * 2 ^ n.toNat) := by
      apply Nat.le_of_not_lt
      intro c
      apply hD0
      rw [hD]
      unfold ldK nearZ
      rw [mul_abs, near_half c]
      split <;> rfl
    obtain ⟨t, t1, t2⟩ := pow_between (n := x.z.natAbs) (by omega)
    -- a place above
    have pU := Nat.two_pow_pos n.toNat
    have pD := Nat.two_pow_pos (-n).toNat
    have ex : 0 ≤ (t : Int) + 1 + n := by
      apply Int.not_lt.1
      intro c
      have c0 : n.toNat = 0 := by omega
      rw [c0, Nat.pow_zero, Nat.mul_one] at half
      have : 2 ^ (t + 2) ≤ 2 ^ (-n).toNat := Nat.pow_le_pow_right (by decide) (by omega)
      have e : 2 ^ (t + 2) = 2 * 2 ^ (t + 1) := by rw [Nat.pow_succ _ (t + 1), Nat.mul_comm]
      omega
    obtain ⟨i, hi⟩ := rep_nat (m := 1) (s := ((t : Int) + 1 + n).toNat) (by have := hP; omega)
    rw [Nat.one_mul] at hi
    have ev : 2 ^ ((t : Int) + 1 + n).toNat * 2 ^ (-n).toNat = 2 ^ (t + 1) * 2 ^ n.toNat := by
      rw [← Nat.pow_add, ← Nat.pow_add]; congr 1; omega
    have ax := mul_abs x.z (2 ^ n.toNat)
    have lt : x.z.natAbs * 2 ^ n.toNat ≤ 2 ^ (t + 1) * 2 ^ n.toNat := Nat.mul_le_mul_right _ (by omega)
    have u1 : D.k ≤ i := hk.up i (by rw [hi, ← Int.natCast_mul, ev]; omega)
    have u2 : -i ≤ D.k := hk.dn (-i) (by rw [nvZ_neg, hi, Int.neg_mul, ← Int.natCast_mul, ev]; omega)
    have v1 : D.z ≤ ((2 ^ ((t : Int) + 1 + n).toNat : Nat) : Int) := by rw [← hi]; exact nvZ_le_iff.2 u1
    have v2 : -((2 ^ ((t : Int) + 1 + n).toNat : Nat) : Int) ≤ D.z := by rw [← hi, ← nvZ_neg]; exact nvZ_le_iff.2 u2
    have v3 : D.z.natAbs * 2 ^ (-n).toNat ≤ 2 ^ (t + 1) * 2 ^ n.toNat := by
      rw [← ev]; exact Nat.mul_le_mul_right _ (by omega)
    have e2 : 2 ^ (t + 1) = 2 * 2 ^ t := by rw [Nat.pow_succ, Nat.mul_comm]
    -- from below
    have v4 : 2 ^ t * 2 ^ n.toNat ≤ D.z.natAbs * 2 ^ (-n).toNat := by
      by_cases ex0 : 0 ≤ (t : Int) + n
      · obtain ⟨j, hj⟩ := rep_nat (m := 1) (s := ((t : Int) + n).toNat) (by have := hP; omega)
        rw [Nat.one_mul] at hj
        have ev0 : 2 ^ ((t : Int) + n).toNat * 2 ^ (-n).toNat = 2 ^ t * 2 ^ n.toNat := by
          rw [← Nat.pow_add, ← Nat.pow_add]; congr 1; omega
        have lt0 : 2 ^ t * 2 ^ n.toNat ≤ x.z.natAbs * 2 ^ n.toNat := Nat.mul_le_mul_right _ t1
        have ge : 2 ^ ((t : Int) + n).toNat ≤ D.z.natAbs := by
          rcases (show x.z * ((2 ^ n.toNat : Nat) : Int) < 0 ∨ 0 ≤ x.z * ((2 ^ n.toNat : Nat) : Int) by omega) with c | c
          · have := nvZ_le_iff.2 (hk.up (-j) (by rw [nvZ_neg, hj, Int.neg_mul, ← Int.natCast_mul, ev0]; omega))
            rw [nvZ_neg, hj] at this
            have : D.z ≤ -((2 ^ ((t : Int) + n).toNat : Nat) : Int) := this
            omega
          · have := nvZ_le_iff.2 (hk.dn j (by rw [hj, ← Int.natCast_mul, ev0]; omega))
            rw [hj] at this
            have : ((2 ^ ((t : Int) + n).toNat : Nat) : Int) ≤ D.z := this
            omega
        rw [← ev0]
        exact Nat.mul_le_mul_right _ ge
      · have c0 : n.toNat = 0 := by omega
        have z0 := z_zero D
        have : 1 * 2 ^ (-n).toNat ≤ D.z.natAbs * 2 ^ (-n).toNat := Nat.mul_le_mul_right _ (by omega)
        have : 2 ^ t ≤ 2 ^ (-n).toNat := Nat.pow_le_pow_right (by decide) (by omega)
        rw [c0, Nat.pow_zero, Nat.mul_one]
        omega
    rcases scale_or D.k n with ⟨i', e⟩ | ⟨l, e⟩
    · have e : nvZ i' * ((2 ^ n.toNat : Nat) : Int) = D.z * ((2 ^ (-n).toNat : Nat) : Int) := e
      have q := congrArg Int.natAbs e
      rw [mul_abs, mul_abs] at q
      have w : (nvZ i').natAbs ≤ 2 ^ (t + 1) := Nat.le_of_mul_le_mul_right (by rw [q]; exact v3) pU
      have w2 : 2 ^ t ≤ (nvZ i').natAbs := Nat.le_of_mul_le_mul_right (by rw [q]; exact v4) pU
      have fin : (nvZ i').natAbs ≤ F.max.z.natAbs := by omega
      have mp : F.max.z = nvZ ((T : Int) - 1) := rfl
      have mpos : 0 ≤ F.max.z := by rw [mp]; exact nvZ_nonneg (by have := T_num; omega)
      have f1 : i' ≤ (T : Int) - 1 := nvZ_le_iff.1 (by rw [← mp]; omega)
      have f2 : -((T : Int) - 1) ≤ i' := nvZ_le_iff.1 (by rw [nvZ_neg, ← mp]; omega)
      refine ⟨F.of i', ?_, ?_, fun _ => ?_⟩
      · unfold F.z at *
        rw [F.of_k (by omega), e]
      · unfold F.z at *
        rw [F.of_k (by omega)]; omega
      · unfold F.z at *
        rw [F.of_k (by omega)]; omega
    · exfalso
      -- at least 2 P U
      obtain ⟨i', hi'⟩ := rep_nat (m := 2 * P) (s := n.toNat) (Nat.le_refl _)
      rw [e] at hk
      have ge : 2 * P * 2 ^ n.toNat ≤ x.z.natAbs * 2 ^ n.toNat := Nat.mul_le_mul_right _ hx
      have l' : D.z.natAbs < 2 * P * 2 ^ n.toNat := l
      have e1 : ((1 : Nat) : Int) = 1 := rfl
      rcases (show x.z * ((2 ^ n.toNat : Nat) : Int) < 0 ∨ 0 ≤ x.z * ((2 ^ n.toNat : Nat) : Int) by omega) with c | c
      · have := nvZ_le_iff.2 (hk.up (-i') (by rw [nvZ_neg, hi', e1, Int.mul_one]; omega))
        rw [nvZ_neg, hi'] at this
        have : D.z ≤ -((2 * P * 2 ^ n.toNat : Nat) : Int) := this
        omega
      · have := nvZ_le_iff.2 (hk.dn i' (by rw [hi', e1, Int.mul_one]; omega))
        rw [hi'] at this
        have : ((2 * P * 2 ^ n.toNat : Nat) : Int) ≤ D.z := this
        omega
/-- scaled: on which side of what is real -/
theorem scaled_side {A A0 n : Int} {B B0 : Nat} (hB : 0 < B) (hB0 : 0 < B0) (hr : A * ((B0 * 2 ^ (-n).toNat : Nat) : Int) = A0 * ((2 ^ n.toNat : Nat) : Int) * (B : Int)) {D y : Int} (hy : y * ((2 ^ n.toNat : Nat) : Int) = D * ((2 ^ (-n).toNat : Nat) : Int)) :
    (D * (B : Int) < A ↔ y * (B0 : Int) < A0) ∧ (A < D * (B : Int) ↔ A0 < y * (B0 : Int)) := by
  have pU := Nat.two_pow_pos n.toNat
  have pD := Nat.two_pow_pos (-n).toNat
  generalize 2 ^ n.toNat = U at *
  generalize 2 ^ (-n).toNat = V at *
  have h1 : D * (B : Int) * ((B0 * V : Nat) : Int) = y * (B0 : Int) * (U : Int) * (B : Int) := by
    have : D * (B : Int) * ((B0 * V : Nat) : Int) = D * (V : Int) * (B0 : Int) * (B : Int) := by rw [Int.natCast_mul]; grind
    rw [this, ← hy]; grind
  have pBV : 0 < B0 * V := Nat.mul_pos hB0 pD
  constructor
  · rw [← lt_scale pBV, h1, hr, lt_scale hB, lt_scale pU]
  · rw [← lt_scale pBV, h1, hr, lt_scale hB, lt_scale pU]
theorem scaled_Nk {A A0 n : Int} {B B0 : Nat} {x : F} (hB : 0 < B) (hB0 : 0 < B0) (hr : A * ((B0 * 2 ^ (-n).toNat : Nat) : Int) = A0 * ((2 ^ n.toNat : Nat) : Int) * (B : Int)) (h0 : Nk x.k A0 B0) (big : 2 * P * B0 ≤ A0.natAbs) : Nk (ldK x n) A B :=
  (comp_Nk hB0 h0 big (ld_Nk x n)).ratio (Nat.mul_pos hB0 (Nat.two_pow_pos _)) hB hr.symm
end Bu
