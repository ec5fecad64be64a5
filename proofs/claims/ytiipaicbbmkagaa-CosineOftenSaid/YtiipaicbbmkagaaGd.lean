/- Sums, products and quotients, rounded: what package dir computes, in plain words. -/
import Derived.Test.YtiipaicbbmkagaaFq
namespace Bu
set_option linter.all false
open Ieee

def dAdd (up : Bool) (a b : F) : F × Int := rndR up (a.z + b.z) 1
def dSub (up : Bool) (a b : F) : F × Int := rndR up (a.z - b.z) 1
def dMul (up : Bool) (a b : F) : F × Int := rndR up (a.z * b.z) S
def dDiv (up : Bool) (a b : F) : F × Int := rndR up (if b.k < 0 then -(a.z * S) else a.z * S) b.z.natAbs

def sg (x : F) : Bool := decide (x.k < 0)
def mn (x : F) : Nat := man x.k.natAbs
def ex (x : F) : Nat := pl x.k.natAbs
theorem z_parts (x : F) : x.z = if sg x = true then -((mn x * 2 ^ ex x : Nat) : Int) else ((mn x * 2 ^ ex x : Nat) : Int) := by
  have h := z_natAbs x
  have h2 := z_sign x
  unfold sg mn ex
  by_cases c : x.k < 0
  · rw [if_pos (by simpa using c), ← h]; have := h2.2 c; omega
  · rw [if_neg (by simpa using c), ← h]; have : ¬ x.z < 0 := fun e => c (h2.1 e); omega
theorem mn_lt (x : F) : mn x < 9007199254740992 := by have := (man_pl x.k.natAbs).2; have : P = 4503599627370496 := rfl; unfold mn; omega
theorem mn_norm (x : F) : ex x = 0 ∨ 4503599627370496 ≤ mn x := (man_pl x.k.natAbs).1
theorem ex_le (x : F) : ex x ≤ 2045 := by
  have h := x.hk
  have hT := T_num
  have hP : P = 4503599627370496 := rfl
  unfold ex pl
  have : x.k.natAbs / P < 2047 := by rw [Nat.div_lt_iff_lt_mul P_pos, hP]; omega
  omega
theorem pow_pos' (n : Nat) : 0 < 2 ^ n := Nat.two_pow_pos n

/-- no more than what is told -/
theorem rndG_exact {minus up : Bool} {n A B : Nat} {e : Int} (hB : 0 < B) (h : n * 2 ^ (e + 1074).toNat * B = A * 2 ^ (-(e + 1074)).toNat) :
    rndG minus n false e up = rndR up (if minus then -(A : Int) else A) B := by
  refine rndG_eq_rndR hB (Nat.le_of_eq h) ?_ (by simp [h]) (by simp)
  rw [← h, Nat.add_mul, Nat.add_mul]
  have : 0 < 1 * 2 ^ (e + 1074).toNat * B := Nat.mul_pos (by have := pow_pos' (e + 1074).toNat; omega) hB
  omega

theorem rndG_mul (up : Bool) (a b : F) : rndG (sg a != sg b) (mn a * mn b) false ((ex a : Int) - 1074 + ((ex b : Int) - 1074)) up = dMul up a b := by
  unfold dMul
  have hz : a.z * b.z = if (sg a != sg b) = true then -((mn a * 2 ^ ex a * (mn b * 2 ^ ex b) : Nat) : Int) else ((mn a * 2 ^ ex a * (mn b * 2 ^ ex b) : Nat) : Int) := by
    rw [z_parts a, z_parts b]
    cases sg a <;> cases sg b <;> simp [Int.mul_neg, Int.neg_mul]
  rw [hz]
  refine rndG_exact S_pos ?_
  obtain ⟨s, hs, hS⟩ := S_pow
  rw [hS]
  have e1 : mn a * 2 ^ ex a * (mn b * 2 ^ ex b) = mn a * mn b * 2 ^ (ex a + ex b) := by rw [Nat.pow_add]; ac_rfl
  rw [e1, Nat.mul_assoc, Nat.mul_assoc (mn a * mn b), ← Nat.pow_add, ← Nat.pow_add]
  congr 2
  omega

/-- of magnitudes in order: sum and difference by 128 bits -/
structure Al (m n d : Nat) : Prop where
  m53 : m < 9007199254740992
  n53 : n < 9007199254740992
  ord : d = 0 → n ≤ m
  nrm : d ≠ 0 → 4503599627370496 ≤ m

def smallN (n d : Nat) : Nat := n * 18446744073709551616 / 2 ^ d
def moreN (n d : Nat) : Bool := decide (n * 18446744073709551616 % 2 ^ d ≠ 0)
/-- what stands in 128 bits -/
def addN (same : Bool) (m n d : Nat) : Nat :=
  if same then m * 18446744073709551616 + smallN n d else m * 18446744073709551616 - smallN n d - (if moreN n d then 1 else 0)

theorem blen_ge {n k : Nat} (h : 2 ^ k ≤ n) : k + 1 ≤ blen n := by
  unfold blen
  have : n ≠ 0 := by have := pow_pos' k; omega
  rw [if_neg this]
  have := (Nat.le_log2 this).2 h
  omega

theorem rndG_add (minus same up : Bool) {m n d pa pb : Nat} (h : Al m n d) (hd : pa = pb + d) :
    rndG minus (addN same m n d) (moreN n d) ((pa : Int) - 1074 - 64) up =
      rndR up (if minus then -((if same then m * 2 ^ pa + n * 2 ^ pb else m * 2 ^ pa - n * 2 ^ pb : Nat) : Int) else ((if same then m * 2 ^ pa + n * 2 ^ pb else m * 2 ^ pa - n * 2 ^ pb : Nat) : Int)) 1 := by
  obtain ⟨Q, W⟩ : ∃ Q, (18446744073709551616 : Nat) = Q := ⟨_, rfl⟩
  have hQ : Q = 2 ^ 64 := by rw [← W]
  have hQ0 : 0 < Q := by rw [hQ]; exact pow_pos' 64
  obtain ⟨h1, h2, h3, h4⟩ := h
  -- all by 2^d: with G = m 2^64 2^d, s 2^d + r = n 2^64
  obtain ⟨s, hs⟩ : ∃ s, smallN n d = s := ⟨_, rfl⟩
  obtain ⟨r, hr⟩ : ∃ r, n * 18446744073709551616 % 2 ^ d = r := ⟨_, rfl⟩
  have hdm : s * 2 ^ d + r = n * Q := by
    have := Nat.div_add_mod (n * 18446744073709551616) (2 ^ d)
    rw [hr] at this
    unfold smallN at hs
    rw [hs, Nat.mul_comm] at this
    rw [← W]; exact this
  have hrl : r < 2 ^ d := by rw [← hr]; exact Nat.mod_lt _ (pow_pos' d)
  have hmore : moreN n d = true ↔ r ≠ 0 := by unfold moreN; rw [hr]; simp
  -- n 2^64 ≤ m 2^64 2^d
  have hle : n ≤ m * 2 ^ d := by
    by_cases c : d = 0
    · subst c; simpa using h3 rfl
    · have := h4 c
      have h5 : 2 ≤ 2 ^ d := by
        have := Nat.pow_le_pow_right (show 0 < 2 by omega) (show 1 ≤ d by omega)
        simpa using this
      have := Nat.mul_le_mul this h5
      omega
  have hsle : s ≤ m * Q := by
    have : s * 2 ^ d ≤ (m * Q) * 2 ^ d := by
      rw [Nat.mul_assoc, Nat.mul_comm Q, ← Nat.mul_assoc]
      have := Nat.mul_le_mul_right Q hle
      omega
    exact Nat.le_of_mul_le_mul_right this (pow_pos' d)
  have hslt : r ≠ 0 → s + 1 ≤ m * Q := by
    intro hr0
    have : s * 2 ^ d < (m * Q) * 2 ^ d := by
      rw [Nat.mul_assoc, Nat.mul_comm Q, ← Nat.mul_assoc]
      have := Nat.mul_le_mul_right Q hle
      omega
    exact Nat.lt_of_mul_lt_mul_right this
  -- the value, by 2^64
  obtain ⟨V, hV⟩ : ∃ V, (if same then m * 2 ^ pa + n * 2 ^ pb else m * 2 ^ pa - n * 2 ^ pb : Nat) = V := ⟨_, rfl⟩
  obtain ⟨N, hN⟩ : ∃ N, addN same m n d = N := ⟨_, rfl⟩
  rw [hV, hN]
  -- N 2^pa <= V 2^64 < (N + 1) 2^pa
  have key : ∃ t, V * Q = N * 2 ^ pa + t * 2 ^ pb ∧ t < 2 ^ d ∧ (moreN n d = true ↔ t ≠ 0) := by
    subst hd
    rw [← hV, ← hN]
    unfold addN
    rw [hs]
    have e1 : ∀ x : Nat, x * 2 ^ (pb + d) = x * 2 ^ d * 2 ^ pb := fun x => by rw [Nat.pow_add]; ac_rfl
    cases same with
    | true =>
      refine ⟨r, ?_, hrl, hmore⟩
      simp only [if_true, W]
      rw [e1, e1, ← Nat.add_mul, ← Nat.add_mul, Nat.mul_right_comm]
      refine congrArg (fun z => z * 2 ^ pb) ?_
      rw [Nat.add_mul, Nat.add_mul, ← hdm]
      have : m * 2 ^ d * Q = m * Q * 2 ^ d := by ac_rfl
      omega
    | false =>
      simp only [Bool.false_eq_true, if_false, W]
      have hsub : m * 2 ^ (pb + d) - n * 2 ^ pb = (m * 2 ^ d - n) * 2 ^ pb := by rw [e1, Nat.sub_mul]
      have h6 : (m * 2 ^ d - n) * Q = (m * Q - s) * 2 ^ d - r := by
        rw [Nat.sub_mul, Nat.sub_mul, ← hdm]
        have : m * 2 ^ d * Q = m * Q * 2 ^ d := by ac_rfl
        omega
      rw [hsub]
      by_cases hr0 : r = 0
      · have hm0 : moreN n d = false := by rw [← Bool.not_eq_true, hmore]; simpa using hr0
        rw [hm0]
        refine ⟨0, ?_, pow_pos' d, by simp⟩
        simp only [Bool.false_eq_true, if_false, Nat.sub_zero, Nat.zero_mul, Nat.add_zero]
        rw [e1, Nat.mul_right_comm, h6, hr0, Nat.sub_zero]
      · have hm1 : moreN n d = true := hmore.2 hr0
        rw [hm1]
        refine ⟨2 ^ d - r, ?_, by omega, by simp; omega⟩
        simp only [if_true]
        rw [e1, Nat.mul_right_comm, h6, ← Nat.add_mul]
        refine congrArg (fun z => z * 2 ^ pb) ?_
        have h7 := hslt hr0
        obtain ⟨q, hq⟩ : ∃ q, m * Q - s = q + 1 := ⟨m * Q - s - 1, by omega⟩
        rw [hq, Nat.add_sub_cancel, Nat.add_mul]; omega
  obtain ⟨t, k1, k2, k3⟩ := key
  have kt : t * 2 ^ pb < 2 ^ pa := by
    rw [hd, Nat.pow_add, Nat.mul_comm (2 ^ pb)]
    exact Nat.mul_lt_mul_of_pos_right k2 (pow_pos' pb)
  have kt0 : t ≠ 0 → 0 < t * 2 ^ pb := fun h => Nat.mul_pos (by omega) (pow_pos' pb)
  -- scale
  have hE : ∃ p q : Nat, ((pa : Int) - 1074 - 64 + 1074).toNat = p ∧ (-((pa : Int) - 1074 - 64 + 1074)).toNat = q ∧ p + 64 = pa + q := ⟨_, _, rfl, rfl, by omega⟩
  obtain ⟨p, q, hp, hq, hpq⟩ := hE
  have hscale : ∀ x y : Nat, x * 2 ^ p ≤ y * 2 ^ q ↔ x * 2 ^ pa ≤ y * Q := by
    intro x y
    have e : x * 2 ^ p * Q = x * 2 ^ pa * 2 ^ q := by rw [hQ, Nat.mul_assoc, ← Nat.pow_add, hpq, Nat.pow_add, ← Nat.mul_assoc]
    have e2 : y * 2 ^ q * Q = y * Q * 2 ^ q := by ac_rfl
    constructor
    · intro h
      have := Nat.mul_le_mul_right Q h
      rw [e, e2] at this
      exact Nat.le_of_mul_le_mul_right this (pow_pos' q)
    · intro h
      have := Nat.mul_le_mul_right (2 ^ q) h
      rw [← e, ← e2] at this
      exact Nat.le_of_mul_le_mul_right this hQ0
  refine rndG_eq_rndR (by decide) ?_ ?_ ?_ ?_
  · rw [hp, hq, Nat.mul_one]; exact (hscale N V).2 (by omega)
  · rw [hp, hq, Nat.mul_one]
    have h5 : ¬ ((N + 1) * 2 ^ p ≤ V * 2 ^ q) := by
      rw [hscale, Nat.add_mul]; omega
    omega
  · rw [hp, hq, Nat.mul_one, k3]
    have h5 := hscale N V
    have h6 : V * 2 ^ q ≤ N * 2 ^ p ↔ V * Q ≤ N * 2 ^ pa := by
      have e : N * 2 ^ p * Q = N * 2 ^ pa * 2 ^ q := by rw [hQ, Nat.mul_assoc, ← Nat.pow_add, hpq, Nat.pow_add, ← Nat.mul_assoc]
      have e2 : V * 2 ^ q * Q = V * Q * 2 ^ q := by ac_rfl
      constructor
      · intro h
        have := Nat.mul_le_mul_right Q h
        rw [e, e2] at this
        exact Nat.le_of_mul_le_mul_right this (pow_pos' q)
      · intro h
        have := Nat.mul_le_mul_right (2 ^ q) h
        rw [← e, ← e2] at this
        exact Nat.le_of_mul_le_mul_right this hQ0
    constructor
    · intro h0 he
      have := kt0 h0
      have := h6.1 (Nat.le_of_eq he)
      omega
    · intro h0 he
      subst he
      rw [Nat.zero_mul, Nat.add_zero] at k1
      exact h0 (Nat.le_antisymm (h6.2 (Nat.le_of_eq k1)) (h5.2 (Nat.le_of_eq k1.symm)))
  · intro hm1
    have hr0 := hmore.1 hm1
    -- d > 64
    have hd64 : 64 < d := by
      rcases Nat.lt_or_ge 64 d with h | h
      · exact h
      · exfalso
        apply hr0
        rw [← hr, W, hQ]
        exact Nat.mod_eq_zero_of_dvd (Nat.dvd_trans (Nat.pow_dvd_pow 2 h) (Nat.dvd_mul_left _ _))
    have hm52 := h4 (by omega)
    have p53 : (2:Nat) ^ 53 = 9007199254740992 := by decide
    have p52 : (2:Nat) ^ 52 = 4503599627370496 := by decide
    have hs52 : s < 2 ^ 53 := by
      have : s * 2 ^ d < 2 ^ 53 * 2 ^ d := by
        have a1 : n * Q < 2 ^ 53 * Q := Nat.mul_lt_mul_of_pos_right (by omega) hQ0
        have a2 : (2:Nat) ^ 53 * Q ≤ 2 ^ 53 * 2 ^ d := by rw [hQ]; exact Nat.mul_le_mul_left _ (Nat.pow_le_pow_right (by omega) (by omega))
        omega
      exact Nat.lt_of_mul_lt_mul_right this
    have : 2 ^ 115 ≤ N := by
      rw [← hN]
      unfold addN
      rw [hs, W]
      have a1 : (2:Nat) ^ 52 * Q ≤ m * Q := Nat.mul_le_mul_right _ (by omega)
      have a2 : (2:Nat) ^ 52 * Q = 2 * 2 ^ 115 := by rw [hQ]
      have a3 : (2:Nat) ^ 53 + 1 ≤ 2 ^ 115 := by decide
      cases same
      · simp only [Bool.false_eq_true, if_false]
        split <;> omega
      · simp only [if_true]; omega
    have := blen_ge this
    omega

/-- the greater one first -/
def Fst (a b : F) : Prop := ex b < ex a ∨ (ex a = ex b ∧ mn b ≤ mn a)
theorem al_of {a b : F} (h : Fst a b) : Al (mn a) (mn b) (ex a - ex b) := by
  unfold Fst at h
  refine ⟨mn_lt a, mn_lt b, fun hd => by omega, fun hd => ?_⟩
  have := mn_norm a
  omega
theorem rndG_dAdd {a b : F} (up : Bool) (h : Fst a b) :
    rndG (sg a) (addN (sg a == sg b) (mn a) (mn b) (ex a - ex b)) (moreN (mn b) (ex a - ex b)) ((ex a : Int) - 1074 - 64) up = dAdd up a b := by
  have hle : ex b ≤ ex a := by unfold Fst at h; omega
  rw [rndG_add (sg a) (sg a == sg b) up (al_of h) (show ex a = ex b + (ex a - ex b) by omega)]
  unfold dAdd
  congr 1
  have hz : mn b * 2 ^ ex b ≤ mn a * 2 ^ ex a := by
    rcases h with h | ⟨h, h2⟩
    · have h3 := mn_norm a
      have h4 := mn_lt b
      have h5 : 2 ^ (ex b + 1) ≤ 2 ^ ex a := Nat.pow_le_pow_right (by omega) (by omega)
      rw [Nat.pow_succ] at h5
      have h6 : mn a * (2 ^ ex b * 2) ≤ mn a * 2 ^ ex a := Nat.mul_le_mul_left _ h5
      have h7 : mn b * 2 ^ ex b ≤ mn a * 2 * 2 ^ ex b := Nat.mul_le_mul_right _ (by omega)
      have h8 : mn a * 2 * 2 ^ ex b = mn a * (2 ^ ex b * 2) := by ac_rfl
      omega
    · rw [h]; exact Nat.mul_le_mul_right _ h2
  rw [z_parts a, z_parts b]
  cases sg a <;> cases sg b <;> simp only [Bool.false_eq_true, if_false, if_true, beq_self_eq_true, show (true == false) = false from rfl, show (false == true) = false from rfl] <;> omega
theorem dAdd_comm (up : Bool) (a b : F) : dAdd up a b = dAdd up b a := by unfold dAdd; rw [Int.add_comm]
theorem dSub_zero (up : Bool) (a b : F) (h : b.k = 0) : dSub up a b = dAdd up a b := by
  have : b.z = 0 := (z_zero b).2 h
  unfold dSub dAdd; rw [this, Int.sub_zero, Int.add_zero]
theorem dSub_neg (up : Bool) (a b : F) : dSub up a b = dAdd up a b.neg := by
  unfold dSub dAdd; rw [F.neg_z, Int.sub_eq_add_neg]

theorem small_le {m n d : Nat} (h : Al m n d) : smallN n d + (if moreN n d then 1 else 0) ≤ m * 18446744073709551616 := by
  have h1 := h.m53
  have h2 := h.n53
  by_cases c : d = 0
  · subst c
    have h3 := h.ord rfl
    have e1 : smallN n 0 = n * 18446744073709551616 := by unfold smallN; rw [Nat.pow_zero, Nat.div_one]
    have e2 : moreN n 0 = false := by unfold moreN; rw [Nat.pow_zero, Nat.mod_one]; rfl
    rw [e1, e2]
    simp only [Bool.false_eq_true, if_false, Nat.add_zero]
    exact Nat.mul_le_mul_right _ h3
  · have h4 := h.nrm c
    have h6 : 2 ≤ 2 ^ d := by
      have := Nat.pow_le_pow_right (show 0 < 2 by omega) (show 1 ≤ d by omega)
      simpa using this
    have h7 : smallN n d * 2 ≤ n * 18446744073709551616 := by
      have : smallN n d * 2 ^ d ≤ n * 18446744073709551616 := Nat.div_mul_le_self _ _
      exact Nat.le_trans (Nat.mul_le_mul_left _ h6) this
    have h8 : n * 18446744073709551616 ≤ (2 * m - 1) * 18446744073709551616 := Nat.mul_le_mul_right _ (by omega)
    have hQ0 : 0 < 18446744073709551616 := by decide
    have h9 : (2 * m - 1) * 18446744073709551616 + 18446744073709551616 = m * 18446744073709551616 * 2 := by
      have : (2 * m - 1) + 1 = m * 2 := by omega
      rw [← Nat.succ_mul, Nat.succ_eq_add_one, this]; ac_rfl
    generalize 18446744073709551616 = Q at *
    have : (if moreN n d then 1 else 0) ≤ 1 := by split <;> omega
    omega
theorem wn_add (same : Bool) {m n d : Nat} (h : Al m n d) : addN same m n d < W128 ∧ m * 18446744073709551616 + smallN n d < W128 := by
  have h5 := small_le h
  have h1 : m * 18446744073709551616 + m * 18446744073709551616 < W128 := by
    have := h.m53
    have hW : W128 = 18446744073709551616 * 18446744073709551616 := by decide
    rw [hW, ← Nat.add_mul]
    exact Nat.mul_lt_mul_of_pos_right (by omega) (by decide)
  generalize W128 = W at *
  unfold addN
  generalize m * 18446744073709551616 = A at *
  generalize smallN n d = s at *
  have h6 : s ≤ A := by split at h5 <;> omega
  refine ⟨?_, by omega⟩
  split
  · omega
  · split <;> omega
end Bu
