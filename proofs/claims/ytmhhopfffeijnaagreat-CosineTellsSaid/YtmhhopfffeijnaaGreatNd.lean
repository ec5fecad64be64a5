/- The float operations of the document's answers, over numbers of the ladder: products, products and sums, quotients and roots of fractions. -/
import Derived.Test.YtmhhopfffeijnaaGreatNc
namespace Bu
set_option linter.all false
open Ieee

theorem mul_wrd (x y : F) (hx : x.k ≠ 0) (hy : y.k ≠ 0) : double.mul x.b y.b = some (wrd (x.z * y.z) S) := by
  have sx := z_sign x; have sy := z_sign y
  have zx := z_zero x; have zy := z_zero y
  have hz : x.z * y.z ≠ 0 := fun h => by
    rcases Int.mul_eq_zero.1 h with h | h
    · exact hx (zx.1 h)
    · exact hy (zy.1 h)
  rw [mul_F x y hx hy]
  unfold wrd
  rw [if_neg hz, Int.natAbs_mul]
  congr 2
  rcases (show x.z < 0 ∨ 0 < x.z by have : x.z ≠ 0 := fun h => hx (zx.1 h); omega) with a | a
  · rcases (show y.z < 0 ∨ 0 < y.z by have : y.z ≠ 0 := fun h => hy (zy.1 h); omega) with b | b
    · have := Int.mul_pos_of_neg_of_neg a b
      rw [decide_eq_true (sx.1 a), decide_eq_true (sy.1 b), decide_eq_false (show ¬ x.z * y.z < 0 by omega)]; rfl
    · have := Int.mul_neg_of_neg_of_pos a b
      rw [decide_eq_true (sx.1 a), decide_eq_false (show ¬ y.k < 0 by omega), decide_eq_true this]; rfl
  · rcases (show y.z < 0 ∨ 0 < y.z by have : y.z ≠ 0 := fun h => hy (zy.1 h); omega) with b | b
    · have := Int.mul_neg_of_pos_of_neg a b
      rw [decide_eq_false (show ¬ x.k < 0 by omega), decide_eq_true (sy.1 b), decide_eq_true this]; rfl
    · have := Int.mul_pos a b
      rw [decide_eq_false (show ¬ x.k < 0 by omega), decide_eq_false (show ¬ y.k < 0 by omega), decide_eq_false (show ¬ x.z * y.z < 0 by omega)]; rfl
theorem signed_scale' (C : Int) (neg : Bool) (m : Nat) (i base : Int) (hb : 0 ≤ base + C) (h : base ≤ i) :
    signed neg m (i - base).toNat * ((2 ^ (base + C).toNat : Nat) : Int) = (if neg then -1 else 1) * ((m * 2 ^ (i + C).toNat : Nat) : Int) := by
  rw [signed_eq, Int.mul_assoc, ← Int.natCast_mul, Nat.mul_assoc, ← Nat.pow_add, show (i - base).toNat + (base + C).toNat = (i + C).toNat from by omega]
/-- a product and a sum, rounded once -/
theorem fma_gen {w1 w2 w3 : Nat} {s1 s2 s3 : Bool} {r1 r2 r3 : Nat} (h1 : double.read w1 = .number s1 (man r1) (-1074 + (pl r1 : Int))) (h2 : double.read w2 = .number s2 (man r2) (-1074 + (pl r2 : Int))) (h3 : double.read w3 = .number s3 (man r3) (-1074 + (pl r3 : Int))) {t : Int}
    (ht : t = (if s1 then -1 else 1) * (nv r1 : Int) * ((if s2 then -1 else 1) * (nv r2 : Int)) + (if s3 then -1 else 1) * (nv r3 : Int) * (S : Int)) (h0 : t = 0 → ((s1 ^^ s2) && s3) = false) :
    double.fma w1 w2 w3 = some (wrd t S) := by
  obtain ⟨s, hs, eS⟩ := S_pow
  unfold Format.fma
  rw [h1, h2, h3]
  simp only [Datum.product, Option.bind_some, Datum.sum, Option.map_some, Format.write]
  obtain ⟨base, hbase⟩ : ∃ b : Int, b = min (-1074 + (pl r1 : Int) + (-1074 + (pl r2 : Int))) (-1074 + (pl r3 : Int)) := ⟨_, rfl⟩
  rw [← hbase]
  have k1 := signed_scale' 2148 (s1 ^^ s2) (man r1 * man r2) (-1074 + (pl r1 : Int) + (-1074 + (pl r2 : Int))) base (by omega) (by omega)
  have k2 := signed_scale' 2148 s3 (man r3) (-1074 + (pl r3 : Int)) base (by omega) (by omega)
  have e1 : (if (s1 ^^ s2) then -1 else 1) * ((man r1 * man r2 * 2 ^ (-1074 + (pl r1 : Int) + (-1074 + (pl r2 : Int)) + 2148).toNat : Nat) : Int) = (if s1 then -1 else 1) * (nv r1 : Int) * ((if s2 then -1 else 1) * (nv r2 : Int)) := by
    rw [show (-1074 + (pl r1 : Int) + (-1074 + (pl r2 : Int)) + 2148).toNat = pl r1 + pl r2 from by omega, Nat.pow_add]
    unfold nv
    simp only [Int.natCast_mul]
    cases s1 <;> cases s2 <;> simp only [Bool.xor_false, Bool.xor_true, Bool.false_xor, Bool.true_xor, Bool.not_true, Bool.not_false, if_true, Bool.false_eq_true, if_false, Bool.xor_self] <;> grind
  have e2 : (if s3 then -1 else 1) * ((man r3 * 2 ^ (-1074 + (pl r3 : Int) + 2148).toNat : Nat) : Int) = (if s3 then -1 else 1) * (nv r3 : Int) * (S : Int) := by
    rw [show (-1074 + (pl r3 : Int) + 2148).toNat = pl r3 + s from by omega, Nat.pow_add, ← eS]
    unfold nv
    simp only [Int.natCast_mul]
    generalize ((2 ^ pl r3 : Nat) : Int) = q
    generalize (S : Int) = t
    generalize (man r3 : Int) = m
    cases s3 <;> simp only [if_true, Bool.false_eq_true, if_false] <;> grind
  rw [e1] at k1
  rw [e2] at k2
  generalize signed (s1 ^^ s2) (man r1 * man r2) _ = u at *
  generalize signed s3 (man r3) _ = v at *
  have hp := Nat.two_pow_pos (base + 2148).toNat
  have hz : t = (u + v) * ((2 ^ (base + 2148).toNat : Nat) : Int) := by rw [ht, Int.add_mul, k1, k2]
  have hpos : (0 : Int) < ((2 ^ (base + 2148).toNat : Nat) : Int) := by omega
  have t1 : t = 0 ↔ u + v = 0 := by
    rw [hz]; constructor
    · intro h; rcases Int.mul_eq_zero.1 h with h | h
      · exact h
      · omega
    · intro h; rw [h, Int.zero_mul]
  have t2 : t < 0 ↔ u + v < 0 := by
    rw [hz]
    have := Int.mul_lt_mul_right (b := u + v) (c := 0) hpos
    rw [Int.zero_mul] at this
    exact this
  unfold wrd
  by_cases h0' : u + v = 0
  · rw [if_pos (t1.2 h0')]
    have hx0 := h0 (t1.2 h0')
    rw [h0']
    simp [hx0, Format.nearest, Format.word]
  · rw [if_neg (fun h => h0' (t1.1 h)), if_neg h0', nearest_eq _ _ _ (by omega)]
    simp only [t2]
    have e : near ((u + v).natAbs * 2 ^ (base + 1074).toNat) (2 ^ (-(base + 1074)).toNat) = near t.natAbs S := by
      refine near_ratio (Nat.two_pow_pos _) S_pos ?_
      rw [hz, mul_abs, eS, Nat.mul_assoc, Nat.mul_assoc, ← Nat.pow_add, ← Nat.pow_add]
      congr 2
      omega
    rw [e]
theorem z_form (x : F) : x.z = (if decide (x.k < 0) then -1 else 1) * (nv x.k.natAbs : Int) := by
  show nvZ x.k = _
  rw [nvZ_sign]; rfl
/-- the word of the other sign -/
theorem read_neg (y : F) : ∃ w s r, Go.Op.negFloat .f64 y.b = w ∧ double.read w = .number s (man r) (-1074 + (pl r : Int)) ∧ (if s then -1 else 1) * (nv r : Int) = -y.z ∧ (w = NEG0 ∧ y.k = 0 ∨ w = y.neg.b) := by
  by_cases h : y.k = 0
  · have e : y = F.zero := F.ext' h
    subst e
    have z0 : F.zero.z = 0 := (z_zero F.zero).2 rfl
    refine ⟨_, true, 0, rfl, ?_, ?_, .inl ⟨by decide, h⟩⟩
    · have e1 : Go.Op.negFloat .f64 F.zero.b = NEG0 := by decide
      rw [e1]
      have := read_parts NEG0 true 0 (by decide) rfl
      rwa [if_pos (by decide)] at this
    · rw [z0, nv_zero]; rfl
  · refine ⟨_, _, _, negFloat_F y h, read_F y.neg, ?_, .inr rfl⟩
    rw [← z_form, F.neg_z]
theorem mul_ne {a b : Int} (ha : a ≠ 0) (hb : b ≠ 0) : a * b ≠ 0 := fun h => by
  rcases Int.mul_eq_zero.1 h with h | h
  · exact ha h
  · exact hb h
theorem sign_sum {s1 s2 s3 : Bool} {a b c : Nat} (hab : a * b ≠ 0) (h : (if s1 then -1 else 1) * (a : Int) * ((if s2 then -1 else 1) * (b : Int)) + (if s3 then -1 else 1) * (c : Int) = 0) : ((s1 ^^ s2) && s3) = false := by
  have p : 0 < (a : Int) * b := by have : ((a * b : Nat) : Int) = (a : Int) * b := Int.natCast_mul a b; omega
  cases s1 <;> cases s2 <;> cases s3 <;> simp_all <;> grind
/-- x y - z -/
theorem fma_sub {x y z : F} (hx : x.k ≠ 0) (hy : y.k ≠ 0) : double.fma x.b y.b (Go.Op.negFloat .f64 z.b) = some (wrd (x.z * y.z - z.z * (S : Int)) S) := by
  obtain ⟨w, s, r, e1, e2, e3, _⟩ := read_neg z
  rw [e1]
  have hz : ∀ {x : F}, x.k ≠ 0 → nv x.k.natAbs ≠ 0 := fun {x} h k => h (by have := nv_inj (k.trans nv_zero.symm); omega)
  refine fma_gen (read_F x) (read_F y) e2 ?_ fun h => ?_
  · rw [e3, ← z_form, ← z_form, Int.neg_mul]; omega
  · refine sign_sum (a := nv x.k.natAbs) (b := nv y.k.natAbs) (c := nv r * S) (Nat.mul_ne_zero (hz hx) (hz hy)) ?_
    rw [← z_form, ← z_form, Int.natCast_mul, ← Int.mul_assoc, e3, Int.neg_mul]; omega
/-- -z y + x -/
theorem fma_neg {x y z : F} (hx : x.k ≠ 0) (hy : y.k ≠ 0) : double.fma (Go.Op.negFloat .f64 z.b) y.b x.b = some (wrd (x.z * (S : Int) - z.z * y.z) S) := by
  obtain ⟨w, s, r, e1, e2, e3, _⟩ := read_neg z
  rw [e1]
  have hz : ∀ {x : F}, x.k ≠ 0 → nv x.k.natAbs ≠ 0 := fun {x} h k => h (by have := nv_inj (k.trans nv_zero.symm); omega)
  refine fma_gen e2 (read_F y) (read_F x) ?_ fun h => ?_
  · rw [e3, ← z_form, ← z_form, Int.neg_mul]; omega
  · by_cases r0 : nv r = 0
    · exfalso
      have z0 : z.z = 0 := by rw [r0] at e3; simp at e3; omega
      rw [z0, Int.zero_mul, Int.sub_zero] at h
      have := S_pos
      rcases Int.mul_eq_zero.1 h with h | h
      · exact hx ((z_zero x).1 h)
      · omega
    · refine sign_sum (a := nv r) (b := nv y.k.natAbs) (c := nv x.k.natAbs * S) (Nat.mul_ne_zero r0 (hz hy)) ?_
      rw [e3, ← z_form, Int.natCast_mul, ← Int.mul_assoc, ← z_form, Int.neg_mul]; omega
/-- the same of the word of minus 0 -/
theorem read_NEG0 : double.read NEG0 = .number true (man 0) (-1074 + (pl 0 : Int)) := by
  have := read_parts NEG0 true 0 (by decide) rfl
  rwa [if_pos (by decide)] at this
theorem neg_NEG0 : Go.Op.negFloat .f64 NEG0 = 0 := by decide
/-- a whole number of the least places, with its sign -/
theorem wrd_mult {n : Int} {g : F} (h1 : n ≤ g.z) (h2 : -n ≤ g.z) : ∃ d : F, wrd (n * (S : Int)) S = d.b ∧ (0 < d.k ↔ 0 < n) ∧ (d.k < 0 ↔ n < 0) := by
  have hS := S_pos
  have hk := @near_Nk (n * (S : Int)) S hS
  have hg := g.hk
  have n1 : nvZ 1 = 1 := by decide
  have a1 : nearZ (n * (S : Int)) S ≤ g.k := hk.up g.k ((le_scale hS).2 h1)
  have a2 : -g.k ≤ nearZ (n * (S : Int)) S := hk.dn (-g.k) ((le_scale hS).2 (by rw [nvZ_neg]; have : nvZ g.k = g.z := rfl; omega))
  have a3 : 0 < n → 1 ≤ nearZ (n * (S : Int)) S := fun h => hk.dn 1 ((le_scale hS).2 (by rw [n1]; omega))
  have a4 : n < 0 → nearZ (n * (S : Int)) S ≤ -1 := fun h => hk.up (-1) ((le_scale hS).2 (by rw [nvZ_neg, n1]; omega))
  have a5 : n = 0 → nearZ (n * (S : Int)) S = 0 := fun h => by
    subst h
    rw [Int.zero_mul] at hk ⊢
    have b1 := hk.up 0 (by rw [nvZ_zero, Int.zero_mul]; exact Int.le_refl _)
    have b2 := hk.dn 0 (by rw [nvZ_zero, Int.zero_mul]; exact Int.le_refl _)
    omega
  rcases out_wrd (n * (S : Int)) hS with ⟨D, e, k⟩ | ⟨e, k⟩ | ⟨e, h⟩ | ⟨e, h⟩
  · refine ⟨D, e, ?_, ?_⟩ <;> omega
  · have : n = 0 := by omega
    subst this
    refine ⟨F.zero, ?_, ?_, ?_⟩
    · rw [Int.zero_mul]; decide
    · exact ⟨fun h => absurd h (by decide), fun h => absurd h (by decide)⟩
    · exact ⟨fun h => absurd h (by decide), fun h => absurd h (by decide)⟩
  · omega
  · omega
/-! fractions: at least 1/2, below 1 -/
def FrP (f : F) : Prop := f.k.natAbs / P = 1022
@[irreducible] def X19 : Nat := 2 ^ 1019
theorem X19_eq : X19 = 2 ^ 1019 := by unfold X19; rfl
theorem X19_pos : 0 < X19 := X19_eq ▸ Nat.two_pow_pos 1019
theorem S_X : S = 36028797018963968 * X19 := by decide +kernel
theorem FrP.man {f : F} (h : FrP f) : man f.k.natAbs = P + f.k.natAbs % P ∧ pl f.k.natAbs = 1021 := by
  unfold FrP at h
  unfold Bu.man pl
  rw [h]
  refine ⟨?_, rfl⟩
  rw [if_neg]
  intro c
  rw [Nat.div_eq_of_lt c] at h
  omega
theorem X_pow : ∃ a : Nat, a = 1019 ∧ X19 = 2 ^ a := ⟨1019, rfl, X19_eq⟩
theorem X21 {e : Nat} (h : e = 1021) : 2 ^ e = 4 * X19 := by
  obtain ⟨a, ha, eX⟩ := X_pow
  rw [eX, show e = a + 2 by omega, Nat.pow_add, Nat.mul_comm]
theorem FrP.z {f : F} (h : FrP f) : ∃ m : Nat, P ≤ m ∧ m < 2 * P ∧ Bu.man f.k.natAbs = m ∧ f.z.natAbs = m * (4 * X19) := by
  obtain ⟨h1, h2⟩ := h.man
  have := Nat.mod_lt f.k.natAbs P_pos
  refine ⟨P + f.k.natAbs % P, by omega, by omega, h1, ?_⟩
  rw [z_natAbs, h1, X21 h2]
theorem mag_Nk {K M n : Nat} (up : ∀ r, M ≤ nv r * n → K ≤ r) (dn : ∀ r, nv r * n ≤ M → r ≤ K) (neg : Bool) : Nk (if neg then -(K : Int) else K) (if neg then -(M : Int) else M) n := by
  have base : Nk (K : Int) (M : Int) n := by
    constructor
    · intro j h
      by_cases hj : 0 ≤ j
      · obtain ⟨r, rfl⟩ := Int.eq_ofNat_of_zero_le hj
        rw [nvZ_natCast, ← Int.natCast_mul] at h
        have := up r (by omega)
        omega
      · have h1 : nvZ j < nvZ 0 := nvZ_lt (by omega)
        rw [nvZ_zero] at h1
        have hn : nvZ j * (n : Int) ≤ 0 := by
          rcases Nat.eq_zero_or_pos n with c | c
          · rw [c]; simp
          · exact Int.le_of_lt (Int.mul_neg_of_neg_of_pos h1 (by omega))
        have hM : M = 0 := by omega
        rcases Nat.eq_zero_or_pos n with c | c
        · have := dn (K + 1) (by rw [c]; omega); omega
        · have := Int.mul_neg_of_neg_of_pos h1 (show (0 : Int) < n by omega)
          omega
    · intro j h
      by_cases hj : 0 ≤ j
      · obtain ⟨r, rfl⟩ := Int.eq_ofNat_of_zero_le hj
        rw [nvZ_natCast, ← Int.natCast_mul] at h
        have := dn r (by omega)
        omega
      · omega
  cases neg
  · exact base
  · exact base.neg
theorem log2_52 {m : Nat} (h1 : P ≤ m) (h2 : m < 2 * P) : m.log2 = 52 := by
  have a := Nat.log2_self_le (n := m) (by have := P_pos; omega)
  have b : m < 2 ^ (m.log2 + 1) := Nat.lt_log2_self
  rw [P_eq] at h1 h2
  have c : m.log2 < 53 := (Nat.pow_lt_pow_iff_right (a := 2) (by decide)).1 (by omega)
  have d : 52 < m.log2 + 1 := (Nat.pow_lt_pow_iff_right (a := 2) (by decide)).1 (by omega)
  omega
/-- a place that is not small is a multiple -/
theorem nv_coarse {r i : Nat} (k : 2 * P * 2 ^ i ≤ nv r) : ∃ w, nv r = w * 2 ^ i := by
  obtain ⟨n, e⟩ := rep_coarse (z := (nv r : Int)) ⟨(r : Int), nvZ_natCast r⟩ (i := i) (by rw [Int.natAbs_natCast]; exact k)
  refine ⟨n.natAbs, ?_⟩
  have := congrArg Int.natAbs e
  rw [mul_abs, Int.natAbs_natCast] at this
  exact this
theorem X20 {e : Nat} (h : e = 1020) : 2 ^ e = 2 * X19 := by
  obtain ⟨a, ha, eX⟩ := X_pow
  rw [eX, show e = a + 1 by omega, Nat.pow_add, Nat.mul_comm]
def quoN (m n : Nat) : Nat := 2 * (m <<< 54 / n) + (m <<< 54 % n != 0).toNat
theorem quo_facts {m n : Nat} (m1 : P ≤ m) (n1 : P ≤ n) (n2 : n < 2 * P) : (∀ r, m * S ≤ nv r * n → quoN m n * X19 ≤ nv r) ∧ (∀ r, nv r * n ≤ m * S → nv r ≤ quoN m n * X19) := by
  have hP := P_pos
  have hX := X19_pos
  have e54 : m <<< 54 = m * 18014398509481984 := by rw [Nat.shiftLeft_eq]
  have eS : m * S = m * 18014398509481984 * (2 * X19) := by rw [S_X]; grind
  have big : 2 * P * n ≤ m * 18014398509481984 := by
    have e : (18014398509481984 : Nat) = 2 * P * 2 := rfl
    rw [e, Nat.mul_comm m, Nat.mul_assoc (2 * P)]
    exact Nat.mul_le_mul_left _ (by omega)
  have dm := Nat.div_add_mod (m * 18014398509481984) n
  have ml := Nat.mod_lt (m * 18014398509481984) (show 0 < n by omega)
  have q53 : 2 * P ≤ m * 18014398509481984 / n := (Nat.le_div_iff_mul_le (by omega)).2 big
  unfold quoN
  rw [e54, eS]
  generalize m * 18014398509481984 = N at *
  generalize hq : N / n = q at *
  generalize hr : N % n = r at *
  have key : ∀ R, nv R < 2 * P * (2 * X19) ∨ ∃ w, nv R = w * (2 * X19) := by
    intro R
    rcases Nat.lt_or_ge (nv R) (2 * P * (2 * X19)) with c | c
    · exact .inl c
    · right
      obtain ⟨i, hi⟩ : ∃ i : Nat, i = 1020 := ⟨_, rfl⟩
      have := nv_coarse (r := R) (i := i) (by rw [X20 hi]; exact c)
      rwa [X20 hi] at this
  have s1 : (r != 0).toNat = 0 ∧ r = 0 ∨ (r != 0).toNat = 1 ∧ 0 < r := by
    by_cases c : r = 0
    · left; subst c; exact ⟨rfl, rfl⟩
    · right; exact ⟨by simp [c], by omega⟩
  constructor
  · intro R h
    rcases key R with c | ⟨w, e⟩
    · exfalso
      have h1 : nv R * n < 2 * P * (2 * X19) * n := Nat.mul_lt_mul_of_pos_right c (by omega)
      have h2 : 2 * P * n * (2 * X19) ≤ N * (2 * X19) := Nat.mul_le_mul_right _ big
      rw [Nat.mul_right_comm] at h1
      omega
    · rw [e] at h ⊢
      rw [Nat.mul_right_comm] at h
      have h1 : N ≤ w * n := Nat.le_of_mul_le_mul_right h (by omega)
      have h2 : 2 * q + (r != 0).toNat ≤ 2 * w := by
        rcases s1 with ⟨a, b⟩ | ⟨a, b⟩
        · have : q * n ≤ w * n := by rw [Nat.mul_comm q]; omega
          have := Nat.le_of_mul_le_mul_right this (by omega)
          omega
        · have : q * n < w * n := by rw [Nat.mul_comm q]; omega
          have := Nat.lt_of_mul_lt_mul_right this
          omega
      have := Nat.mul_le_mul_right X19 h2
      have e2 : 2 * w * X19 = w * (2 * X19) := by grind
      omega
  · intro R h
    rcases key R with c | ⟨w, e⟩
    · have h1 : 2 * P * (2 * X19) ≤ q * (2 * X19) := Nat.mul_le_mul_right _ q53
      have h2 : q * (2 * X19) = 2 * q * X19 := by grind
      have h3 : 2 * q * X19 ≤ (2 * q + (r != 0).toNat) * X19 := Nat.mul_le_mul_right _ (by omega)
      omega
    · rw [e] at h ⊢
      rw [Nat.mul_right_comm] at h
      have h1 : w * n ≤ N := Nat.le_of_mul_le_mul_right h (by omega)
      have h2 : w ≤ q := by rw [← hq]; exact (Nat.le_div_iff_mul_le (by omega)).2 h1
      have h3 : 2 * w * X19 ≤ (2 * q + (r != 0).toNat) * X19 := Nat.mul_le_mul_right _ (by omega)
      have e2 : 2 * w * X19 = w * (2 * X19) := by grind
      omega
def rHalf : Nat := 4602678819172646912
def rTwo : Nat := 4611686018427387904
theorem rHalf_nv : 2 * nv rHalf = S := by decide +kernel
theorem rTwo_nv : nv rTwo = 2 * S := by decide +kernel
/-- the sign of f S by g, over what is not below 0 -/
def sgA (f g : F) : Int := if g.z < 0 then -(f.z * (S : Int)) else f.z * (S : Int)
theorem div_frac {f g : F} (hf : FrP f) (hg : FrP g) : ∃ c : F, double.div f.b g.b = some c.b ∧ Nk c.k (sgA f g) g.z.natAbs ∧ S ≤ 2 * c.z.natAbs ∧ c.z.natAbs ≤ 2 * S := by
  obtain ⟨m, m1, m2, m3, m4⟩ := hf.z
  obtain ⟨n, n1, n2, n3, n4⟩ := hg.z
  have hP := P_pos
  have pf := hf.man.2; have pg := hg.man.2
  have hS := S_pos
  have hX := X19_pos
  obtain ⟨q1, q2⟩ := quo_facts m1 n1 n2
  have q0 : quoN m n ≠ 0 := by
    intro h
    have := q2 rHalf (by
      have e := rHalf_nv
      have h1 : 2 * nv rHalf * n ≤ 2 * (m * S) := by rw [e, Nat.mul_comm S, ← Nat.mul_assoc]; exact Nat.mul_le_mul_right _ (by omega)
      rw [Nat.mul_assoc] at h1; omega)
    rw [h] at this
    have := rHalf_nv
    omega
  have K1 : near (quoN m n * X19) 1 ≤ rTwo := near_le (by decide) (by
    rw [Nat.mul_one]
    exact q1 rTwo (by rw [rTwo_nv, Nat.mul_comm (2 * S), ← Nat.mul_assoc]; exact Nat.mul_le_mul_right _ (by omega)))
  have K2 : rHalf ≤ near (quoN m n * X19) 1 := le_near (by decide) (by
    rw [Nat.mul_one]
    exact q2 rHalf (by
      have e := rHalf_nv
      have h1 : 2 * nv rHalf * n ≤ 2 * (m * S) := by rw [e, Nat.mul_comm S, ← Nat.mul_assoc]; exact Nat.mul_le_mul_right _ (by omega)
      rw [Nat.mul_assoc] at h1; omega))
  have hK := mag_Nk (K := near (quoN m n * X19) 1) (M := m * S) (n := n) (fun r h => near_le (by decide) (by rw [Nat.mul_one]; exact q1 r h)) (fun r h => le_near (by decide) (by rw [Nat.mul_one]; exact q2 r h)) (decide (f.k < 0) ^^ decide (g.k < 0))
  have hT := T_num
  have rh : rHalf = 4602678819172646912 := rfl
  have rt : rTwo = 4611686018427387904 := rfl
  have hw : double.div f.b g.b = some (double.word (decide (f.k < 0) ^^ decide (g.k < 0)) (near (quoN m n * X19) 1)) := by
    unfold Format.div
    rw [read_F, read_F]
    have l1 := log2_52 m1 m2; have l2 := log2_52 n1 n2
    rw [m3, n3, pf, pg]
    simp only [Datum.quotient, if_neg (show ¬ n = 0 by omega), Option.map_some, Format.write]
    have hfb : double.fractionBits = 52 := rfl
    rw [hfb, l1, l2, show 52 + 2 + 52 - 52 = 54 from rfl]
    have q0' : 2 * (m <<< 54 / n) + (m <<< 54 % n != 0).toNat ≠ 0 := q0
    rw [nearest_eq _ _ _ q0']
    have e1 : (-1074 + ((1021 : Nat) : Int) - (-1074 + ((1021 : Nat) : Int)) - ((54 : Nat) : Int) - 1 + 1074).toNat = 1019 := by decide
    have e2 : (-(-1074 + ((1021 : Nat) : Int) - (-1074 + ((1021 : Nat) : Int)) - ((54 : Nat) : Int) - 1 + 1074)).toNat = 0 := by decide
    rw [e1, e2, Nat.pow_zero, ← X19_eq]
    have e3 : 2 * (m <<< 54 / n) + (m <<< 54 % n != 0).toNat = quoN m n := rfl
    rw [e3, Nat.min_eq_left (by omega)]
  generalize near (quoN m n * X19) 1 = K at *
  have hk0 : ∀ b : Bool, b = true → K ≠ 0 := fun _ _ => by omega
  rw [word_F _ _ (by omega) (hk0 _)] at hw
  refine ⟨_, hw, ?_, ?_, ?_⟩
  · rw [F.of_k (by split <;> omega)]
    refine hK.ratio (by omega) (by rw [n4]; exact Nat.mul_pos (by omega) (by omega)) ?_
    unfold sgA
    have sf := z_sign f; have sg := z_sign g
    have fz : f.z = if f.k < 0 then -((m * (4 * X19) : Nat) : Int) else ((m * (4 * X19) : Nat) : Int) := by
      have h0 : 0 < m * (4 * X19) := Nat.mul_pos (by omega) (by omega)
      clear hK q1 q2
      generalize m * (4 * X19) = w at *
      split <;> omega
    rw [n4, fz]
    rcases (show f.k < 0 ∨ ¬ f.k < 0 by omega) with a | a
    · rcases (show g.k < 0 ∨ ¬ g.k < 0 by omega) with b | b
      · rw [if_pos a, if_pos (sg.2 b), decide_eq_true a, decide_eq_true b]
        simp only [Int.natCast_mul, Bool.xor_self, Bool.false_eq_true, if_false]
        grind
      · rw [if_pos a, if_neg (fun h => b (sg.1 h)), decide_eq_true a, decide_eq_false b]
        simp only [Int.natCast_mul, Bool.xor_false, if_true]
        grind
    · rcases (show g.k < 0 ∨ ¬ g.k < 0 by omega) with b | b
      · rw [if_neg a, if_pos (sg.2 b), decide_eq_false a, decide_eq_true b]
        simp only [Int.natCast_mul, Bool.false_xor, if_true]
        grind
      · rw [if_neg a, if_neg (fun h => b (sg.1 h)), decide_eq_false a, decide_eq_false b]
        simp only [Int.natCast_mul, Bool.xor_self, Bool.false_eq_true, if_false]
        grind
  · rw [z_natAbs', F.of_k (by split <;> omega)]
    have : (if (decide (f.k < 0) ^^ decide (g.k < 0)) = true then -(K : Int) else (K : Int)).natAbs = K := by split <;> omega
    rw [this, ← rHalf_nv]
    have := nv_le K2
    omega
  · rw [z_natAbs', F.of_k (by split <;> omega)]
    have : (if (decide (f.k < 0) ^^ decide (g.k < 0)) = true then -(K : Int) else (K : Int)).natAbs = K := by split <;> omega
    rw [this, ← rTwo_nv]
    exact nv_le K1
end Bu
