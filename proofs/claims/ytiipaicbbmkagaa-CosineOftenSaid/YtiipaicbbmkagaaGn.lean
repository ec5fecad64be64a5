/- Quotients, rounded: plain. -/
import Derived.Test.YtiipaicbbmkagaaGe
namespace Bu
set_option linter.all false
open Ieee

/-- so many places up, that the uppermost of 64 stands -/
def nlz (m : Nat) : Nat := 64 - blen m
theorem nlz_le (m : Nat) : nlz m ≤ 64 := by unfold nlz; omega
theorem norm_bounds {m : Nat} (h0 : m ≠ 0) (h : m < 18446744073709551616) : 9223372036854775808 ≤ m * 2 ^ nlz m ∧ m * 2 ^ nlz m < 18446744073709551616 := by
  have hl : blen m = m.log2 + 1 := by unfold blen; rw [if_neg h0]
  have h1 := Nat.log2_self_le h0
  have h2 : m < 2 ^ (m.log2 + 1) := Nat.lt_log2_self
  have h3 : m.log2 < 64 := (Nat.log2_lt h0).2 (by have : (2:Nat) ^ 64 = 18446744073709551616 := rfl; omega)
  have e63 : (9223372036854775808 : Nat) = 2 ^ 63 := by decide
  have e64 : (18446744073709551616 : Nat) = 2 ^ 64 := by decide
  unfold nlz
  rw [hl, e63, e64]
  have p : (2:Nat) ^ m.log2 * 2 ^ (64 - (m.log2 + 1)) = 2 ^ 63 := by rw [← Nat.pow_add]; congr 1; omega
  have q : (2:Nat) ^ (m.log2 + 1) * 2 ^ (64 - (m.log2 + 1)) = 2 ^ 64 := by rw [← Nat.pow_add]; congr 1; omega
  constructor
  · rw [← p]; exact Nat.mul_le_mul_right _ h1
  · rw [← q]; exact Nat.mul_lt_mul_of_pos_right h2 (pow_pos' _)
theorem mn_pos {x : F} (h : x.k ≠ 0) : mn x ≠ 0 := by
  intro c
  have := man_zero _ c
  omega
theorem mn_64 (x : F) : mn x < 18446744073709551616 := by have := mn_lt x; omega

def divM (x : F) : Nat := mn x * 2 ^ nlz (mn x)
def divE (a b : F) : Int := (ex a : Int) - 1074 - nlz (mn a) - ((ex b : Int) - 1074 - nlz (mn b)) - 63

theorem rndG_div (up : Bool) (a b : F) (ha : a.k ≠ 0) (hb : b.k ≠ 0) :
    rndG (sg a != sg b) (divM a * 9223372036854775808 / divM b) (decide (0 < divM a * 9223372036854775808 % divM b)) (divE a b) up = dDiv up a b := by
  have nb := norm_bounds (mn_pos hb) (mn_64 b)
  have na := norm_bounds (mn_pos ha) (mn_64 a)
  obtain ⟨X, hX⟩ : ∃ X, divM a * 9223372036854775808 / divM b = X := ⟨_, rfl⟩
  obtain ⟨R, hR⟩ : ∃ R, divM a * 9223372036854775808 % divM b = R := ⟨_, rfl⟩
  have hdm : divM b * X + R = divM a * 9223372036854775808 := by rw [← hX, ← hR]; exact Nat.div_add_mod _ _
  have hbp : 0 < divM b := by unfold divM; omega
  have hRl : R < divM b := by rw [← hR]; exact Nat.mod_lt _ hbp
  have hXl : 4611686018427387904 ≤ X := by
    rw [← hX, Nat.le_div_iff_mul_le hbp]
    unfold divM
    generalize mn a * 2 ^ nlz (mn a) = M at *
    generalize mn b * 2 ^ nlz (mn b) = N at *
    omega
  rw [hX, hR]
  unfold dDiv
  have hzb : b.z.natAbs = mn b * 2 ^ ex b := by rw [z_parts b]; split <;> omega
  have hz : (if b.k < 0 then -(a.z * S) else a.z * S) = if (sg a != sg b) = true then -((mn a * 2 ^ ex a * S : Nat) : Int) else ((mn a * 2 ^ ex a * S : Nat) : Int) := by
    rw [z_parts a, Int.natCast_mul _ S]
    generalize ((mn a * 2 ^ ex a : Nat) : Int) = A
    by_cases c : b.k < 0
    · have hs : sg b = true := by unfold sg; exact decide_eq_true c
      rw [if_pos c, hs]
      cases sg a <;> simp [Int.neg_mul]
    · have hs : sg b = false := by unfold sg; exact decide_eq_false c
      rw [if_neg c, hs]
      cases sg a <;> simp [Int.neg_mul]
  rw [hz, hzb]
  obtain ⟨s, hs, hS⟩ := S_pow
  rw [hS]
  obtain ⟨p, hp⟩ : ∃ p, (divE a b + 1074).toNat = p := ⟨_, rfl⟩
  obtain ⟨q, hq⟩ : ∃ q, (-(divE a b + 1074)).toNat = q := ⟨_, rfl⟩
  have hpq : p + ex b + nlz (mn a) + 63 = ex a + s + q + nlz (mn b) := by unfold divE at hp hq; omega
  obtain ⟨T, hT⟩ : ∃ T, ex a + s + q + nlz (mn b) = T := ⟨_, rfl⟩
  obtain ⟨U, hU⟩ : ∃ U, nlz (mn a) + nlz (mn b) + 63 = U := ⟨_, rfl⟩
  have key1 : ∀ x : Nat, x * 2 ^ p * (mn b * 2 ^ ex b) * 2 ^ U = (divM b * x) * 2 ^ T := by
    intro x
    have e : U + p + ex b = nlz (mn b) + T := by omega
    have : (2:Nat) ^ U * 2 ^ p * 2 ^ ex b = 2 ^ nlz (mn b) * 2 ^ T := by rw [← Nat.pow_add, ← Nat.pow_add, e, Nat.pow_add]
    unfold divM
    calc x * 2 ^ p * (mn b * 2 ^ ex b) * 2 ^ U = x * mn b * (2 ^ U * 2 ^ p * 2 ^ ex b) := by ac_rfl
      _ = x * mn b * (2 ^ nlz (mn b) * 2 ^ T) := by rw [this]
      _ = mn b * 2 ^ nlz (mn b) * x * 2 ^ T := by ac_rfl
  have key2 : mn a * 2 ^ ex a * 2 ^ s * 2 ^ q * 2 ^ U = (divM a * 9223372036854775808) * 2 ^ T := by
    have e : ex a + s + q + U = nlz (mn a) + 63 + T := by omega
    have e63 : (9223372036854775808 : Nat) = 2 ^ 63 := by decide
    unfold divM
    rw [e63]
    have : (2:Nat) ^ ex a * 2 ^ s * 2 ^ q * 2 ^ U = 2 ^ nlz (mn a) * 2 ^ 63 * 2 ^ T := by rw [← Nat.pow_add, ← Nat.pow_add, ← Nat.pow_add, e, Nat.pow_add, Nat.pow_add]
    calc mn a * 2 ^ ex a * 2 ^ s * 2 ^ q * 2 ^ U = mn a * (2 ^ ex a * 2 ^ s * 2 ^ q * 2 ^ U) := by ac_rfl
      _ = mn a * (2 ^ nlz (mn a) * 2 ^ 63 * 2 ^ T) := by rw [this]
      _ = mn a * 2 ^ nlz (mn a) * 2 ^ 63 * 2 ^ T := by ac_rfl
  have hle : ∀ x : Nat, x * 2 ^ p * (mn b * 2 ^ ex b) ≤ mn a * 2 ^ ex a * 2 ^ s * 2 ^ q ↔ divM b * x ≤ divM a * 9223372036854775808 := by
    intro x
    rw [← Nat.mul_le_mul_right_iff (pow_pos' U), key1, key2, Nat.mul_le_mul_right_iff (pow_pos' T)]
  have hge : ∀ x : Nat, mn a * 2 ^ ex a * 2 ^ s * 2 ^ q ≤ x * 2 ^ p * (mn b * 2 ^ ex b) ↔ divM a * 9223372036854775808 ≤ divM b * x := by
    intro x
    rw [← Nat.mul_le_mul_right_iff (pow_pos' U), key1, key2, Nat.mul_le_mul_right_iff (pow_pos' T)]
  clear key1 key2
  have hmn : mn b ≠ 0 := mn_pos hb
  refine rndG_eq_rndR (Nat.mul_pos (by omega) (pow_pos' _)) ?_ ?_ ?_ ?_
  · rw [hp, hq]; exact (hle X).2 (by omega)
  · rw [hp, hq]
    have : ¬ ((X + 1) * 2 ^ p * (mn b * 2 ^ ex b) ≤ mn a * 2 ^ ex a * 2 ^ s * 2 ^ q) := by
      rw [hle, Nat.mul_add]; omega
    omega
  · rw [hp, hq]
    have h1 := hle X
    have h2 := hge X
    simp only [decide_eq_true_eq]
    constructor
    · intro h0 he
      have := h2.1 (Nat.le_of_eq he)
      omega
    · intro h0
      rcases Nat.eq_zero_or_pos R with c | c
      · exfalso
        apply h0
        exact Nat.le_antisymm (h2.2 (by omega)) (h1.2 (by omega))
      · exact c
  · intro _
    have : (2:Nat) ^ 62 ≤ X := by have : (2:Nat) ^ 62 = 4611686018427387904 := by decide
                                  omega
    have := blen_ge this
    omega

theorem divM_eq (M : Nat) : M / 2 * 18446744073709551616 + M * 9223372036854775808 % 18446744073709551616 = M * 9223372036854775808 := by omega
theorem blen_mn (x : F) : blen (mn x) ≤ 53 := by
  refine blen_le ?_
  have h := mn_lt x
  have e : (2:Nat) ^ 53 = 9007199254740992 := by decide
  omega
theorem rndR_zero (up : Bool) {B : Nat} : rndR up 0 B = (F.zero, 0) := by
  have e0 : flI 0 B = 0 := by unfold flI; rw [if_pos (Int.le_refl 0), Int.toNat_zero, flQ_zero]; rfl
  have e1 : ceI 0 B = 0 := by unfold ceI; rw [Int.neg_zero, e0, Int.neg_zero]
  unfold rndR
  rw [e0, e1]
  cases up <;> decide +kernel
theorem dDiv_zero (up : Bool) (a b : F) (h : a.k = 0) : dDiv up a b = (F.zero, 0) := by
  have hz : a.z = 0 := (z_zero a).2 h
  unfold dDiv
  rw [hz, Int.zero_mul, Int.neg_zero, ite_self, rndR_zero]
end Bu
