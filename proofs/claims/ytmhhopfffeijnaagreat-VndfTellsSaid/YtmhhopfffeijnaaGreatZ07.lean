/- Draws: the plain part. Roots, rounded: by squares. Draws by the cosine, plain. Draws by the cosine: what the laws ask. CosineOften, plain. -/
import Derived.Test.YtmhhopfffeijnaaGreatZ01
import Derived.Test.YtmhhopfffeijnaaGreatZ06
import Derived.Test.YtmhhopfffeijnaaGreatZ05
namespace Bu
set_option linter.all false

structure Iv where
  lo : F
  hi : F
theorem Iv.ext' {a b : Iv} (h1 : a.lo = b.lo) (h2 : a.hi = b.hi) : a = b := by cases a; cases b; simp only at h1 h2; subst h1 h2; rfl
instance : DecidableEq Iv := fun a b => if h : a.lo = b.lo ∧ a.hi = b.hi then isTrue (Iv.ext' h.1 h.2) else isFalse (fun e => h (by rw [e]; exact ⟨rfl, rfl⟩))

/-- 2^1010: S by 2^64 -/
def Q64 : Nat := 2 ^ 1010
theorem Q64_eq : Q64 = 2 ^ 1010 := by unfold Q64; rfl
theorem S_Q64 : S = 18446744073709551616 * Q64 := by
  obtain ⟨s, hs, e⟩ := S_pow
  have h : ∃ t : Nat, t = 1010 ∧ Q64 = 2 ^ t := ⟨1010, rfl, Q64_eq⟩
  obtain ⟨t, ht, e2⟩ := h
  rw [e, e2, show s = 64 + t from by omega, Nat.pow_add]
theorem Q64_pow : ∃ t : Nat, t = 1010 ∧ Q64 = 2 ^ t := ⟨1010, rfl, Q64_eq⟩
theorem Q64_pos : 0 < Q64 := by obtain ⟨t, _, e⟩ := Q64_pow; rw [e]; exact Nat.two_pow_pos t
attribute [irreducible] Q64
def unitCut (u : Nat) : Nat := blen u - 53
def unitLo (u : Nat) : F := F.dy (u / 2 ^ unitCut u) ((unitCut u : Int) - 64)
/-- a draw's interval -/
def unitOf (u : Nat) : Iv := ⟨unitLo u, if u % 2 ^ unitCut u = 0 then unitLo u else (nextF (unitLo u) true).1⟩

theorem unit_m (u : Nat) (hu : u < 18446744073709551616) : unitCut u ≤ 11 ∧ u / 2 ^ unitCut u < 2 * P ∧ (unitCut u = 0 ∨ P ≤ u / 2 ^ unitCut u) := by
  have h1 : blen u ≤ 64 := blen_le hu
  have h2 := lt_blen u
  have hP : P = 2 ^ 52 := P_eq
  refine ⟨by unfold unitCut; omega, ?_, ?_⟩
  · rw [Nat.div_lt_iff_lt_mul (Nat.two_pow_pos _), show 2 * P = 2 ^ 53 from rfl, ← Nat.pow_add]
    exact Nat.lt_of_lt_of_le h2 (Nat.pow_le_pow_right (by omega) (by unfold unitCut; omega))
  · by_cases c : unitCut u = 0
    · exact Or.inl c
    · right
      have h0 : u ≠ 0 := by intro e; subst e; exact c (by decide)
      have e1 : blen u = u.log2 + 1 := by unfold blen; rw [if_neg h0]
      rw [hP, Nat.le_div_iff_mul_le (Nat.two_pow_pos _), ← Nat.pow_add]
      exact Nat.le_trans (Nat.pow_le_pow_right (by omega) (by unfold unitCut at *; omega)) (Nat.log2_self_le h0)

theorem blen_m {m : Nat} (h : m < 2 * P) : blen m ≤ 53 := blen_le (by rw [show (2 : Nat) ^ 53 = 2 * P from rfl]; exact h)

theorem unitLo_z (u : Nat) (hu : u < 18446744073709551616) : (unitLo u).z = ((u / 2 ^ unitCut u * 2 ^ unitCut u * Q64 : Nat) : Int) := by
  obtain ⟨h1, h2, h3⟩ := unit_m u hu
  have h4 := blen_m h2
  unfold unitLo
  rw [dy_z (by omega) (by omega) (by omega)]
  obtain ⟨t, ht, e⟩ := Q64_pow
  rw [e, Nat.mul_assoc, ← Nat.pow_add, show ((unitCut u : Int) - 64 + 1074).toNat = unitCut u + t from by omega]

theorem unitLo_k (u : Nat) (hu : u < 18446744073709551616) : (unitLo u).k = flI ((u * Q64 : Nat) : Int) 1 := by
  obtain ⟨h1, h2, h3⟩ := unit_m u hu
  have h4 := blen_m h2
  have hd := Nat.div_add_mod u (2 ^ unitCut u)
  have hm := Nat.mod_lt u (Nat.two_pow_pos (unitCut u))
  unfold unitLo
  rw [dy_k (by omega) (by omega)]
  unfold flI
  rw [if_pos (by omega), Int.toNat_natCast]
  obtain ⟨t, ht, e⟩ := Q64_pow
  rw [e, show ((unitCut u : Int) - 64 + 1074).toNat = unitCut u + t from by omega]
  refine congrArg (Nat.cast : Nat → Int) ?_
  generalize unitCut u = c at *
  generalize u / 2 ^ c = m at *
  generalize u % 2 ^ c = r at *
  symm
  have ht0 := Nat.two_pow_pos t
  by_cases hc : c = 0
  · subst hc
    unfold flQ
    rw [Nat.pow_zero] at hm hd
    rw [Nat.div_one, Nat.zero_add, show u = m from by omega]
  · have hn : P ≤ m := by omega
    have n1 := nv_mk (c + t) m (by omega) (Or.inr hn)
    have n2 := nv_mk (c + t) (m + 1) (by omega) (by omega)
    have f1 : fl (m * 2 ^ (c + t)) = (c + t) * P + m := by rw [← n1, fl_nv]
    rw [f1]
    refine flQ_eq (by omega) ?_ ?_
    · rw [n1, Nat.pow_add, ← hd, Nat.mul_one, ← Nat.mul_assoc, Nat.mul_comm m]
      exact Nat.mul_le_mul_right _ (by omega)
    · rw [Nat.add_assoc, n2, Nat.pow_add, ← hd, Nat.mul_one, ← Nat.mul_assoc]
      exact Nat.mul_lt_mul_of_pos_right (by rw [Nat.add_mul, Nat.mul_comm]; omega) ht0

theorem unit_exact (u : Nat) (hu : u < 18446744073709551616) : u % 2 ^ unitCut u = 0 ↔ nvZ (unitLo u).k = ((u * Q64 : Nat) : Int) := by
  have h := unitLo_z u hu
  unfold F.z at h
  rw [h]
  have hd := Nat.div_add_mod u (2 ^ unitCut u)
  have hQ := Q64_pos
  rw [Nat.mul_comm] at hd
  generalize u / 2 ^ unitCut u * 2 ^ unitCut u = a at *
  generalize u % 2 ^ unitCut u = r at *
  constructor
  · intro e; rw [e, Nat.add_zero] at hd; rw [hd]
  · intro e
    have e2 : a * Q64 = u * Q64 := by omega
    have := Nat.eq_of_mul_eq_mul_right hQ e2
    omega

theorem one_k : ∃ one : F, one.z = S ∧ one.k = 4607182418800017408 := ⟨F.of 4607182418800017408, by decide +kernel, by decide +kernel⟩

theorem unitLo_lt (u : Nat) (hu : u < 18446744073709551616) : (unitLo u).k < 4607182418800017408 := by
  obtain ⟨one, h1, h2⟩ := one_k
  have h := unitLo_z u hu
  rw [← h2, ← F.z_lt, h, h1, S_Q64]
  have hd := Nat.div_mul_le_self u (2 ^ unitCut u)
  have := Nat.mul_lt_mul_of_pos_right (show u / 2 ^ unitCut u * 2 ^ unitCut u < 18446744073709551616 by omega) Q64_pos
  omega

theorem nextF_up (x : F) (h : x.k < 4607182418800017408) : (nextF x true).1.k = x.k + 1 ∧ (nextF x true).2 = 0 := by
  have hT := T_num
  have hx := x.hk
  unfold nextF outUp
  rw [if_pos rfl, if_neg (by omega)]
  simp only
  rw [F.of_k (by omega)]
  exact ⟨by omega, trivial⟩

theorem unitHi_k (u : Nat) (hu : u < 18446744073709551616) : (unitOf u).hi.k = ceI ((u * Q64 : Nat) : Int) 1 := by
  have h1 := unitLo_k u hu
  have h2 := unit_exact u hu
  have h3 := unitLo_lt u hu
  unfold unitOf
  simp only
  by_cases c : u % 2 ^ unitCut u = 0
  · rw [if_pos c, ← h2.1 c, ceI_nvZ]
  · rw [if_neg c, (nextF_up _ h3).1]
    have a := (le_flI (k := (unitLo u).k + 1) (A := ((u * Q64 : Nat) : Int)) (B := 1) (by omega))
    have b := (le_flI (k := (unitLo u).k) (A := ((u * Q64 : Nat) : Int)) (B := 1) (by omega)).1 (by omega)
    have c1 := (ceI_le (k := (unitLo u).k + 1) (A := ((u * Q64 : Nat) : Int)) (B := 1) (by omega))
    have c2 := (ceI_le (k := (unitLo u).k) (A := ((u * Q64 : Nat) : Int)) (B := 1) (by omega))
    have h4 : nvZ (unitLo u).k ≠ ((u * Q64 : Nat) : Int) := fun e => c (h2.2 e)
    omega

theorem unitHi_le (u : Nat) (hu : u < 18446744073709551616) : (unitOf u).hi.k ≤ 4607182418800017408 := by
  obtain ⟨one, h1, h2⟩ := one_k
  rw [unitHi_k u hu, ceI_le (by omega), ← h2]
  show _ ≤ one.z * _
  rw [h1, S_Q64]
  have := Nat.mul_le_mul_right Q64 (show u ≤ 18446744073709551616 by omega)
  omega
theorem unitLo_nonneg (u : Nat) (hu : u < 18446744073709551616) : 0 ≤ (unitLo u).k := by
  rw [unitLo_k u hu, le_flI (by omega), nvZ_zero]; omega

theorem scaleC (w : F) (c : Nat) (hc : c ≤ 64) (h0 : 0 ≤ w.k) (h1 : w.k ≤ 4607182418800017408) : ∃ y : F, 0 ≤ y.k ∧ y.z = w.z * ((2 ^ c : Nat) : Int) := by
  obtain ⟨one, o1, o2⟩ := one_k
  obtain ⟨r, hr⟩ := Int.eq_ofNat_of_zero_le h0
  have hz : w.z = (nv r : Int) := by unfold F.z; rw [hr, nvZ_natCast]
  have hm := man_pl r
  have hex : nv (fl (nv r * 2 ^ c)) = nv r * 2 ^ c := by
    have e : nv r * 2 ^ c = man r * 2 ^ (pl r + c) := by unfold nv; rw [Nat.pow_add, ← Nat.mul_assoc]
    rw [e]; exact nv_fl_exact (by omega)
  have hlt : fl (nv r * 2 ^ c) < T := by
    rw [← nv_lt_iff, hex, nv_T]
    have hle : w.z ≤ one.z := F.z_le.2 (by omega)
    rw [o1, hz] at hle
    obtain ⟨s, hs, e⟩ := S_pow
    obtain ⟨t, ht⟩ : ∃ t : Nat, t = 2046 := ⟨_, rfl⟩
    rw [← ht, show P * 2 ^ t = 2 ^ (52 + t) from by rw [Nat.pow_add]; rfl]
    have h3 : nv r ≤ 2 ^ s := by rw [← e]; omega
    refine Nat.lt_of_le_of_lt (Nat.mul_le_mul_right _ h3) ?_
    rw [← Nat.pow_add]
    exact Nat.pow_lt_pow_right (by omega) (by omega)
  have hyk : (F.of (fl (nv r * 2 ^ c) : Nat)).k = (fl (nv r * 2 ^ c) : Nat) := F.of_k (by omega)
  have hyz : (F.of (fl (nv r * 2 ^ c) : Nat)).z = ((nv r * 2 ^ c : Nat) : Int) := by
    unfold F.z; rw [hyk, nvZ_natCast, hex]
  refine ⟨F.of (fl (nv r * 2 ^ c) : Nat), ?_, ?_⟩
  · rw [hyk]; exact Int.natCast_nonneg _
  · rw [hyz, hz, Int.natCast_mul]

theorem Sc_of {x y : F} (c : Nat) (h : y.z = x.z * ((2 ^ c : Nat) : Int)) : Sc x y c := by
  unfold Sc
  rw [h, Int.toNat_natCast, show (-(c : Int)).toNat = 0 from by omega]
  simp

/-- a number below 1, times 2^64 -/
theorem scale64 (w : F) (h0 : 0 ≤ w.k) (h1 : w.k ≤ 4607182418800017408) : ∃ y : F, Sc w y 64 ∧ 0 ≤ y.k ∧ y.z = w.z * 18446744073709551616 := by
  obtain ⟨y, a, b⟩ := scaleC w 64 (by omega) h0 h1
  refine ⟨y, Sc_of 64 b, a, ?_⟩
  rw [b]
  rfl

theorem unitHi_z (u : Nat) (hu : u < 18446744073709551616) (hc : u % 2 ^ unitCut u ≠ 0) : (nextF (unitLo u) true).1.z = (((u / 2 ^ unitCut u + 1) * 2 ^ unitCut u * Q64 : Nat) : Int) := by
  obtain ⟨h1, h2, h3⟩ := unit_m u hu
  have h4 := blen_m h2
  have hlt := unitLo_lt u hu
  have hk := (nextF_up _ hlt).1
  have hc0 : unitCut u ≠ 0 := by
    intro e; rw [e, Nat.pow_zero] at hc; omega
  have hl : (unitLo u).k = (fl (u / 2 ^ unitCut u * 2 ^ ((unitCut u : Int) - 64 + 1074).toNat) : Nat) := by
    unfold unitLo; rw [dy_k (by omega) (by omega)]
  unfold F.z
  rw [hk, hl]
  obtain ⟨t, ht, e⟩ := Q64_pow
  rw [e, show ((unitCut u : Int) - 64 + 1074).toNat = unitCut u + t from by omega]
  generalize unitCut u = c at *
  generalize u / 2 ^ c = m at *
  have hn : P ≤ m := by omega
  have n1 := nv_mk (c + t) m (by omega) (Or.inr hn)
  have n2 := nv_mk (c + t) (m + 1) (by omega) (by omega)
  have f1 : fl (m * 2 ^ (c + t)) = (c + t) * P + m := by rw [← n1, fl_nv]
  rw [f1, show (((c + t) * P + m : Nat) : Int) + 1 = (((c + t) * P + (m + 1) : Nat) : Int) from by omega, nvZ_natCast, n2, Nat.pow_add, Nat.mul_assoc (m + 1)]

theorem scale_trunc {x X : F} {N : Nat} (hx : x.z = ((N * Q64 : Nat) : Int)) (hX : X.z = x.z * 18446744073709551616) : X.z / (S : Int) = N := by
  have hS := S_Q64
  have hQ := Q64_pos
  have hSp := S_pos
  rw [hX, hx]
  have e : ((N * Q64 : Nat) : Int) * 18446744073709551616 = (N : Int) * (S : Int) := by
    rw [hS, Int.natCast_mul, Int.natCast_mul]; grind
  rw [e]
  exact Int.mul_ediv_cancel _ (by omega)

/-- what UnitOf asks of a draw -/
structure UFacts (p : Nat) (x y n X : F) (N : Nat) : Prop where
  of : unitOf p = ⟨x, y⟩
  nx : (nextF x true).1 = n
  nx2 : (nextF x true).2 = 0
  nk : n.k = x.k + 1
  lo : 0 ≤ x.k
  lt : x.k < 4607182418800017408
  hi : y.k ≤ 4607182418800017408
  sc : Sc x X 64
  X0 : 0 ≤ X.k
  XN : X.z / S = N
  NL : N < 18446744073709551616
  cs : (y = x ∧ N = p) ∨ (y = n ∧ N < p ∧ (n.k < 4607182418800017408 → ∃ (Y : F) (M : Nat), Sc n Y 64 ∧ 0 ≤ Y.k ∧ Y.z / S = M ∧ M < 18446744073709551616 ∧ p < M))

theorem unit_facts (p : Nat) (hp : p < 18446744073709551616) : ∃ (x y n X : F) (N : Nat), UFacts p x y n X N := by
  have h1 := unitLo_nonneg p hp
  have h2 := unitLo_lt p hp
  have h3 := unitHi_le p hp
  have h4 := unitLo_z p hp
  have h5 := nextF_up _ h2
  obtain ⟨X, a1, a2, a3⟩ := scale64 (unitLo p) h1 (by omega)
  have hd := Nat.div_add_mod p (2 ^ unitCut p)
  have hm := Nat.mod_lt p (Nat.two_pow_pos (unitCut p))
  rw [Nat.mul_comm] at hd
  refine ⟨unitLo p, (unitOf p).hi, (nextF (unitLo p) true).1, X, p / 2 ^ unitCut p * 2 ^ unitCut p, ?_⟩
  refine ⟨rfl, rfl, h5.2, h5.1, h1, h2, h3, a1, a2, scale_trunc h4 a3, by omega, ?_⟩
  by_cases c : p % 2 ^ unitCut p = 0
  · left
    refine ⟨by unfold unitOf; simp only; rw [if_pos c], by omega⟩
  · right
    have hz := unitHi_z p hp c
    have hh : (unitOf p).hi = (nextF (unitLo p) true).1 := by unfold unitOf; simp only; rw [if_neg c]
    refine ⟨hh, by omega, ?_⟩
    intro hn
    have hn0 : 0 ≤ (nextF (unitLo p) true).1.k := by rw [h5.1]; omega
    obtain ⟨Y, b1, b2, b3⟩ := scale64 (nextF (unitLo p) true).1 hn0 (by omega)
    have e2 : (p / 2 ^ unitCut p + 1) * 2 ^ unitCut p = p / 2 ^ unitCut p * 2 ^ unitCut p + 2 ^ unitCut p := by rw [Nat.add_mul, Nat.one_mul]
    refine ⟨Y, (p / 2 ^ unitCut p + 1) * 2 ^ unitCut p, b1, b2, scale_trunc hz b3, ?_, by omega⟩
    obtain ⟨one, o1, o2⟩ := one_k
    have hl : (nextF (unitLo p) true).1.z < one.z := F.z_lt.2 (by omega)
    rw [hz, o1, S_Q64] at hl
    have hl2 : (p / 2 ^ unitCut p + 1) * 2 ^ unitCut p * Q64 < 18446744073709551616 * Q64 := by omega
    exact Nat.lt_of_mul_lt_mul_right hl2
end Bu
namespace Bu
set_option linter.all false
open Rx

def qSqrt (up : Bool) (a : F) : F × Int := if a.k < 0 then (F.zero, 12) else if a.k = 0 then (F.zero, 0) else dSqrt up a

theorem natq_pos {n : Nat} (h : 0 < n) : (0 : Rat) < (n : Rat) := by have := Rat.natCast_lt_natCast.2 h; simpa using this
theorem natq_nn (n : Nat) : (0 : Rat) ≤ (n : Rat) := by have := Rat.natCast_le_natCast.2 (Nat.zero_le n); simpa using this
/-- what stands behind a root: the number is N by the square of a unit -/
structure SqP (a : F) (x : Nat) (p q : Nat) : Prop where
  root : IsRoot (sqN a) x
  big : 9223372036854775808 ≤ x
  hp : (sqE a / 2 + 1074).toNat = p
  hq : (-(sqE a / 2 + 1074)).toNat = q
  val : sqN a * 2 ^ (2 * p) = mn a * 2 ^ ex a * 2 ^ (2 * q) * 2 ^ 1074
theorem mn_pos' {a : F} (h : 0 < a.k) : mn a ≠ 0 := by
  intro h0
  have := z_parts a
  rw [h0, Nat.zero_mul, show sg a = false from decide_eq_false (by omega)] at this
  have h1 : a.z = 0 := by simpa using this
  have := (z_zero a).1 h1
  omega
theorem sqP {a : F} (h : 0 < a.k) : ∃ x p q, SqP a x p q ∧ root64 (sqN a) = x := by
  have hm := mn_pos' h
  have nb := norm_bounds hm (by have := mn_lt a; omega)
  have hN : 85070591730234615865843651857942052864 ≤ sqN a ∧ sqN a < W128 := by
    have : W128 = 340282366920938463463374607431768211456 := rfl
    unfold sqN divM
    generalize mn a * 2 ^ nlz (mn a) = M at *
    split <;> omega
  have hr := root64_ok hN.2
  refine ⟨_, _, _, ⟨hr, ?_, rfl, rfl, ?_⟩, rfl⟩
  · rcases Nat.lt_or_ge (root64 (sqN a)) 9223372036854775808 with c | c
    · exfalso
      have h1 := hr.lt
      have h2 := Nat.mul_le_mul (show root64 (sqN a) + 1 ≤ 9223372036854775808 from c) (show root64 (sqN a) + 1 ≤ 9223372036854775808 from c)
      omega
    · exact c
  · have he := sqE_even a
    unfold sqN divM
    unfold sqE at he ⊢
    split
    · rename_i ho
      rw [if_pos ho] at he
      rw [show (9223372036854775808 : Nat) = 2 ^ 63 from rfl]
      simp only [Nat.mul_assoc, ← Nat.pow_add]
      congr 2
      omega
    · rename_i ho
      rw [if_neg ho] at he
      rw [show (18446744073709551616 : Nat) = 2 ^ 64 from rfl]
      simp only [Nat.mul_assoc, ← Nat.pow_add]
      congr 2
      omega
theorem blen_63 {x : Nat} (h : 9223372036854775808 ≤ x) : 53 ≤ blen x := by
  have := blen_ge (n := x) (k := 63) (by have e : (2:Nat) ^ 63 = 9223372036854775808 := rfl; omega)
  omega
/-- it is what lies between, wherever there -/
theorem dSqrt_mid {a : F} {x p q : Nat} (h : SqP a x p q) (hx : root64 (sqN a) = x) (up : Bool) (hne : x * x ≠ sqN a) (n d : Nat) (h0 : 0 < n) (h1 : n < d) : dSqrt up a = rndR up (((x * d + n) * 2 ^ p : Nat) : Int) (d * 2 ^ q) := by
  have hq := pow_pos' q
  have hp := pow_pos' p
  unfold dSqrt
  rw [hx, decide_eq_true hne]
  have e1 : x * 2 ^ p * (d * 2 ^ q) = x * d * (2 ^ p * 2 ^ q) := by ac_rfl
  have e2 : (x * d + n) * 2 ^ p * 2 ^ q = (x * d + n) * (2 ^ p * 2 ^ q) := by ac_rfl
  have e3 : (x + 1) * 2 ^ p * (d * 2 ^ q) = (x + 1) * d * (2 ^ p * 2 ^ q) := by ac_rfl
  have hpq : 0 < 2 ^ p * 2 ^ q := Nat.mul_pos hp hq
  have lt1 : x * d < x * d + n := by omega
  have lt2 : x * d + n < (x + 1) * d := by rw [Nat.add_mul]; omega
  refine rndG_eq_rndR (Nat.mul_pos (by omega) hq) ?_ ?_ ?_ (fun _ => blen_63 h.big)
  · rw [h.hp, h.hq, e1, e2]; exact Nat.mul_le_mul_right _ (Nat.le_of_lt lt1)
  · rw [h.hp, h.hq, e2, e3]; exact Nat.mul_lt_mul_of_pos_right lt2 hpq
  · rw [h.hp, h.hq, e1, e2]
    constructor
    · intro _ e
      have := Nat.eq_of_mul_eq_mul_right hpq e
      omega
    · intro _; rfl
theorem dSqrt_eq {a : F} {x p q : Nat} (h : SqP a x p q) (hx : root64 (sqN a) = x) (up : Bool) (he : x * x = sqN a) : dSqrt up a = rndR up ((x * 2 ^ p : Nat) : Int) (2 ^ q) := by
  have hq := pow_pos' q
  have hp := pow_pos' p
  unfold dSqrt
  rw [hx, show decide (x * x ≠ sqN a) = false from decide_eq_false (fun k => k he)]
  refine rndG_eq_rndR hq ?_ ?_ ?_ (fun k => by cases k)
  · rw [h.hp, h.hq]; exact Nat.le_refl _
  · rw [h.hp, h.hq, Nat.add_mul, Nat.add_mul]
    have := Nat.mul_pos (show 0 < 1 * 2 ^ p by omega) hq
    omega
  · rw [h.hp, h.hq]
    exact ⟨fun k => (by cases k), fun k => absurd rfl k⟩
/-- the unit -/
def un (p q : Nat) : Rat := ((2 ^ p : Nat) : Rat) / ((S : Rat) * ((2 ^ q : Nat) : Rat))
theorem un_pos (p q : Nat) : 0 < un p q := by
  have h1 := pow_q p
  have h2 := Rat.mul_pos S_gt (pow_q q)
  unfold un
  rw [Rat.div_def]
  exact Rat.mul_pos h1 (Rat.inv_pos.2 h2)
theorem un_val {a : F} {x p q : Nat} (h : SqP a x p q) (ha : 0 < a.k) : a.q = ((sqN a : Nat) : Rat) * (un p q * un p q) := by
  have hz : a.z = ((mn a * 2 ^ ex a : Nat) : Int) := by rw [z_parts, show sg a = false from decide_eq_false (by omega)]; rfl
  have e : ((sqN a * 2 ^ (2 * p) : Nat) : Rat) = ((mn a * 2 ^ ex a * 2 ^ (2 * q) * 2 ^ 1074 : Nat) : Rat) := by rw [h.val]
  have e2 : (2 ^ 1074 : Nat) = S := S_eq.symm
  rw [e2, Nat.mul_comm 2 p, Nat.mul_comm 2 q, Nat.pow_mul, Nat.pow_mul, Nat.pow_two, Nat.pow_two] at e
  have e3 : (2 ^ p) * (2 ^ p) = (2 ^ p * 2 ^ p : Nat) := rfl
  have hm := F.q_mul a
  rw [hz, Rat.intCast_natCast, Rat.natCast_mul] at hm
  rw [Rat.natCast_mul, Rat.natCast_mul, Rat.natCast_mul, Rat.natCast_mul, Rat.natCast_mul, ← hm, Rat.natCast_mul] at e
  have hS := S_ne
  have hq := pow_q q
  unfold un
  generalize ((2 ^ p : Nat) : Rat) = u at *
  generalize ((2 ^ q : Nat) : Rat) = v at *
  generalize (S : Rat) = s at *
  generalize ((sqN a : Nat) : Rat) = N at *
  generalize a.q = y at *
  grind
theorem mid_v (x n d p q : Nat) (hd : 0 < d) : ((((x * d + n) * 2 ^ p : Nat) : Int) : Rat) / ((S : Rat) * ((d * 2 ^ q : Nat) : Rat)) = ((x : Rat) + (n : Rat) / (d : Rat)) * un p q := by
  have hS := S_ne
  have hq := pow_q q
  have hd' := natq_pos hd
  unfold un
  rw [Rat.intCast_natCast, Rat.natCast_mul, Rat.natCast_add, Rat.natCast_mul, Rat.natCast_mul]
  generalize ((2 ^ p : Nat) : Rat) = u at *
  generalize ((2 ^ q : Nat) : Rat) = v at *
  generalize (S : Rat) = s at *
  generalize (x : Rat) = a at *
  generalize (n : Rat) = b at *
  generalize (d : Rat) = c at *
  grind
theorem eq_v (x p q : Nat) : (((x * 2 ^ p : Nat) : Int) : Rat) / ((S : Rat) * ((2 ^ q : Nat) : Rat)) = (x : Rat) * un p q := by
  unfold un
  rw [Rat.intCast_natCast, Rat.natCast_mul, Rat.div_def, Rat.div_def, Rat.mul_assoc]
theorem arch {δ : Rat} (h : 0 < δ) : ∃ d : Nat, 2 ≤ d ∧ 1 ≤ (d : Rat) * δ := by
  have h1 := Rat.lt_floor_add_one (1 / δ)
  have e : 1 / δ * δ = 1 := Rat.div_mul_cancel (by grind)
  have h0 : 0 ≤ 1 / δ := by rw [Rat.div_def]; exact Rat.mul_nonneg (by grind) (Rat.le_of_lt (Rat.inv_pos.2 h))
  have hf : (0 : Int) ≤ (1 / δ).floor := Rat.le_floor_iff.2 (by simpa using h0)
  obtain ⟨k, hk⟩ := Int.eq_ofNat_of_zero_le hf
  refine ⟨k + 2, by omega, ?_⟩
  rw [hk] at h1
  have e2 : (((k : Int) + 1 : Int) : Rat) = (k : Rat) + 1 := by rw [Rat.intCast_add, Rat.intCast_natCast]; rfl
  rw [e2] at h1
  rw [Rat.natCast_add, show ((2 : Nat) : Rat) = 2 from rfl]
  have k1 := Rat.mul_nonneg (Rat.le_of_lt h) (show 0 ≤ (k : Rat) + 1 - 1 / δ by grind)
  grind
theorem sq_lt {x y : Rat} (hx : 0 ≤ x) (hy : 0 ≤ y) (h : x * x < y * y) : x < y := by
  apply Rat.not_le.1
  intro g
  have := Rat.mul_nonneg (show 0 ≤ x - y by grind) (show 0 ≤ x + y by grind)
  grind
theorem sq_le' {x y : Rat} (hx : 0 ≤ x) (hy : 0 ≤ y) (h : x * x ≤ y * y) : x ≤ y := by
  apply Rat.not_lt.1
  intro g
  have := Rat.mul_pos (show 0 < x - y by grind) (show 0 < x + y by grind)
  grind
/-- the root, down, and up -/
structure SqD (r a : F) : Prop where
  nn : 0 ≤ r.q
  le : r.q * r.q ≤ a.q
  top : ∀ c : F, 0 ≤ c.q → c.q * c.q ≤ a.q → c.q ≤ r.q
structure SqU (r a : F) : Prop where
  nn : 0 ≤ r.q
  ge : a.q ≤ r.q * r.q
  bot : ∀ c : F, 0 ≤ c.q → a.q ≤ c.q * c.q → r.q ≤ c.q
/-- the root of all numbers' bound -/
def E512 : Nat := 2 ^ 512
def E1024 : Nat := 2 ^ 1024
def MB : Rat := (E512 : Rat)
theorem E_sq : decide (E1024 = E512 * E512 ∧ 0 < E512) = true := by decide +kernel
set_option maxRecDepth 100000 in
theorem max_zB : decide (F.max.z ≤ ((E1024 * S : Nat) : Int)) = true := by decide +kernel
def hugeF : F := F.of ((1536 * 4503599627370496 : Nat) : Int)
set_option maxRecDepth 100000 in
theorem huge_z : decide (hugeF.z = ((2 * E512 * S : Nat) : Int)) = true := by decide +kernel
attribute [irreducible] E512 E1024
theorem F_le (a : F) : a.q ≤ MB * MB := by
  have hT := T_num
  have h1 : a.q ≤ F.max.q := q_le.2 (by have := a.hk; rw [F.max_k]; omega)
  refine Rat.le_trans h1 ?_
  refine Rat.le_of_mul_le_mul_right (c := (S : Rat)) ?_ S_gt
  rw [F.q_mul]
  have h2 := Rat.intCast_le_intCast.2 (of_decide_eq_true max_zB)
  have h3 : (E1024 : Rat) = MB * MB := by unfold MB; rw [← Rat.natCast_mul, ← (of_decide_eq_true E_sq).1]
  rw [← h3, ← Rat.natCast_mul]
  exact h2
theorem huge_q : hugeF.q = 2 * MB := by
  have h := F.q_mul hugeF
  rw [of_decide_eq_true huge_z] at h
  have h2 : (((2 * E512 * S : Nat) : Int) : Rat) = 2 * MB * (S : Rat) := by
    unfold MB
    rw [Rat.intCast_natCast, Rat.natCast_mul, Rat.natCast_mul]; rfl
  rw [h2] at h
  have hs := S_gt
  generalize (S : Rat) = s at *
  generalize MB = m at *
  have e : (hugeF.q - 2 * m) * s = 0 := by grind
  rcases Rat.mul_eq_zero.1 e with e | e
  · grind
  · grind
theorem MB_pos : 0 < MB := by
  have h := Rat.natCast_lt_natCast.2 (of_decide_eq_true E_sq).2
  exact h
theorem sqrt_gen {a : F} (ha : 0 < a.k) : (∃ r, dSqrt false a = (r, 0) ∧ SqD r a) ∧ ∃ r, dSqrt true a = (r, 0) ∧ SqU r a := by
  obtain ⟨x, p, q, h, hx⟩ := sqP ha
  have hw := un_pos p q
  have hv := un_val h ha
  have eN : ∀ n m : Nat, n ≤ m → (n : Rat) ≤ (m : Rat) := fun n m g => Rat.natCast_le_natCast.2 g
  have r1 := eN _ _ h.root.le
  have r2 : ((sqN a : Nat) : Rat) < ((((x + 1) * (x + 1) : Nat)) : Rat) := Rat.natCast_lt_natCast.2 h.root.lt
  rw [Rat.natCast_mul] at r1
  rw [Rat.natCast_mul, Rat.natCast_add, show ((1 : Nat) : Rat) = 1 from rfl] at r2
  have x1 : (1 : Rat) ≤ (x : Rat) := by have := eN 1 x (by have := h.big; omega); simpa using this
  obtain ⟨big, hbig⟩ : ∃ c : F, c.q = 2 * MB := ⟨hugeF, huge_q⟩
  have hs := F_le a
  have hMB := MB_pos
  generalize MB = mb at *
  have hwv := Rat.mul_pos hw hw
  have xw : (x : Rat) * un p q ≤ mb := by
    refine sq_le' (Rat.mul_nonneg (by grind) (Rat.le_of_lt hw)) (by grind) ?_
    have := Rat.mul_nonneg (show 0 ≤ ((sqN a : Nat) : Rat) - (x : Rat) * (x : Rat) by grind) (Rat.le_of_lt hwv)
    grind
  have wx := Rat.mul_nonneg (show 0 ≤ (x : Rat) - 1 by grind) (Rat.le_of_lt hw)
  by_cases he : x * x = sqN a
  · -- a square
    have f1 := dSqrt_eq h hx false he
    have f2 := dSqrt_eq h hx true he
    have hn : ((sqN a : Nat) : Rat) = (x : Rat) * (x : Rat) := by rw [← he, Rat.natCast_mul]
    have v0 : 0 ≤ (x : Rat) * un p q := Rat.mul_nonneg (by grind) (Rat.le_of_lt hw)
    obtain ⟨r, g1, g2⟩ := rndR_dn (A := ((x * 2 ^ p : Nat) : Int)) (B := 2 ^ q) (pow_pos' q) (eq_v x p q) F.zero (by rw [q_zero]; exact v0)
    obtain ⟨s, g3, g4⟩ := rndR_up (A := ((x * 2 ^ p : Nat) : Int)) (B := 2 ^ q) (pow_pos' q) (eq_v x p q) big (by rw [hbig]; grind)
    have av : a.q = ((x : Rat) * un p q) * ((x : Rat) * un p q) := by rw [hv, hn]; grind
    generalize (x : Rat) * un p q = v at *
    refine ⟨⟨r, by rw [f1, g1], ?_, ?_, ?_⟩, ⟨s, by rw [f2, g3], ?_, ?_, ?_⟩⟩
    · rw [← q_zero]; exact g2.top F.zero (by rw [q_zero]; exact v0)
    · have r0 : 0 ≤ r.q := by rw [← q_zero]; exact g2.top F.zero (by rw [q_zero]; exact v0)
      have := g2.le
      rw [av]; exact sq_bd (by grind) this
    · intro c c0 hc
      exact g2.top c (sq_le' c0 v0 (by rw [← av]; exact hc))
    · have := g4.ge; grind
    · have := g4.ge
      rw [av]; exact sq_bd (by grind) this
    · intro c c0 hc
      exact g4.bot c (sq_le' v0 c0 (by rw [← av]; exact hc))
  · -- between
    have mid : ∀ (up : Bool) (n d : Nat), 0 < n → n < d → dSqrt up a = rndR up (((x * d + n) * 2 ^ p : Nat) : Int) (d * 2 ^ q) := fun up n d => dSqrt_mid h hx up he n d
    have dn : ∀ n d : Nat, 0 < n → n < d → ∃ r, dSqrt false a = (r, 0) ∧ Dn r (((x : Rat) + (n : Rat) / (d : Rat)) * un p q) := by
      intro n d h0 h1
      have hd := natq_pos (show 0 < d by omega)
      have hnd : 0 ≤ (n : Rat) / (d : Rat) := by rw [Rat.div_def]; exact Rat.mul_nonneg (natq_nn n) (Rat.le_of_lt (Rat.inv_pos.2 hd))
      obtain ⟨r, g1, g2⟩ := rndR_dn (A := (((x * d + n) * 2 ^ p : Nat) : Int)) (B := d * 2 ^ q) (Nat.mul_pos (by omega) (pow_pos' q)) (mid_v x n d p q (by omega)) F.zero (by rw [q_zero]; exact Rat.mul_nonneg (by grind) (Rat.le_of_lt hw))
      exact ⟨r, by rw [mid false n d h0 h1, g1], g2⟩
    have up : ∀ n d : Nat, 0 < n → n < d → ∃ r, dSqrt true a = (r, 0) ∧ Up r (((x : Rat) + (n : Rat) / (d : Rat)) * un p q) := by
      intro n d h0 h1
      have hd := natq_pos (show 0 < d by omega)
      have hnd : (n : Rat) / (d : Rat) ≤ 1 := by
        have e : (n : Rat) / (d : Rat) * (d : Rat) = (n : Rat) := Rat.div_mul_cancel (by grind)
        have := eN n d (by omega)
        refine Rat.le_of_mul_le_mul_right (c := (d : Rat)) ?_ hd
        rw [e]; grind
      have k := Rat.mul_nonneg (show 0 ≤ 1 - (n : Rat) / (d : Rat) by grind) (Rat.le_of_lt hw)
      obtain ⟨r, g1, g2⟩ := rndR_up (A := (((x * d + n) * 2 ^ p : Nat) : Int)) (B := d * 2 ^ q) (Nat.mul_pos (by omega) (pow_pos' q)) (mid_v x n d p q (by omega)) big (by rw [hbig]; grind)
      exact ⟨r, by rw [mid true n d h0 h1, g1], g2⟩
    obtain ⟨r, e1, _⟩ := dn 1 2 (by omega) (by omega)
    obtain ⟨s, e2, s2⟩ := up 1 2 (by omega) (by omega)
    have dn' : ∀ n d : Nat, 0 < n → n < d → Dn r (((x : Rat) + (n : Rat) / (d : Rat)) * un p q) := by
      intro n d h0 h1
      obtain ⟨r', g1, g2⟩ := dn n d h0 h1
      rw [e1] at g1
      rw [(Prod.mk.inj g1).1]; exact g2
    have up' : ∀ n d : Nat, 0 < n → n < d → Up s (((x : Rat) + (n : Rat) / (d : Rat)) * un p q) := by
      intro n d h0 h1
      obtain ⟨r', g1, g2⟩ := up n d h0 h1
      rw [e2] at g1
      rw [(Prod.mk.inj g1).1]; exact g2
    have divd : ∀ d : Nat, 2 ≤ d → ((d - 1 : Nat) : Rat) / (d : Rat) = 1 - 1 / (d : Rat) ∧ 0 < (d : Rat) := by
      intro d hd
      have h0 := natq_pos (show 0 < d by omega)
      have e : ((d - 1 : Nat) : Rat) + 1 = (d : Rat) := by rw [show (1 : Rat) = ((1 : Nat) : Rat) from rfl, ← Rat.natCast_add, show d - 1 + 1 = d from by omega]
      refine ⟨?_, h0⟩
      generalize ((d - 1 : Nat) : Rat) = y at *
      generalize (d : Rat) = z at *
      grind
    have one_d : ((1 : Nat) : Rat) = 1 := rfl
    have hlt : (x : Rat) * (x : Rat) < ((sqN a : Nat) : Rat) := by
      have : x * x < sqN a := Nat.lt_of_le_of_ne h.root.le he
      have := Rat.natCast_lt_natCast.2 this
      rwa [Rat.natCast_mul] at this
    have a_lo : (x : Rat) * un p q * ((x : Rat) * un p q) < a.q := by
      rw [hv]
      have := Rat.mul_pos (show 0 < ((sqN a : Nat) : Rat) - (x : Rat) * (x : Rat) by grind) hwv
      grind
    have a_hi : a.q < ((x : Rat) + 1) * un p q * (((x : Rat) + 1) * un p q) := by
      rw [hv]
      have := Rat.mul_pos (show 0 < ((x : Rat) + 1) * ((x : Rat) + 1) - ((sqN a : Nat) : Rat) by grind) hwv
      grind
    have x0 : 0 ≤ (x : Rat) * un p q := Rat.mul_nonneg (by grind) (Rat.le_of_lt hw)
    have x2 : 0 ≤ ((x : Rat) + 1) * un p q := Rat.mul_nonneg (by grind) (Rat.le_of_lt hw)
    have r0 : 0 ≤ r.q := by
      rw [← q_zero]; exact (dn' 1 2 (by omega) (by omega)).top F.zero (by rw [q_zero]; exact Rat.mul_nonneg (by rw [one_d]; grind) (Rat.le_of_lt hw))
    -- near to below
    have near1 : ∀ y : Rat, (x : Rat) * un p q < y → ∃ d : Nat, 2 ≤ d ∧ ((x : Rat) + ((1 : Nat) : Rat) / (d : Rat)) * un p q ≤ y := by
      intro y hy
      have hδ : 0 < (y - (x : Rat) * un p q) / un p q := by rw [Rat.div_def]; exact Rat.mul_pos (by grind) (Rat.inv_pos.2 hw)
      obtain ⟨d, d1, d2⟩ := arch hδ
      have d0 := (divd d d1).2
      refine ⟨d, d1, ?_⟩
      have e : (y - (x : Rat) * un p q) / un p q * un p q = y - (x : Rat) * un p q := Rat.div_mul_cancel (by grind)
      generalize (y - (x : Rat) * un p q) / un p q = δ at *
      have e3 : (1 : Rat) / (d : Rat) * (d : Rat) = 1 := Rat.div_mul_cancel (by grind)
      have k1 : (1 : Rat) / (d : Rat) ≤ δ := by
        refine Rat.le_of_mul_le_mul_right (c := (d : Rat)) ?_ d0
        rw [e3]; grind
      rw [one_d]
      have := Rat.mul_nonneg (show 0 ≤ δ - 1 / (d : Rat) by grind) (Rat.le_of_lt hw)
      grind
    have near2 : ∀ y : Rat, y < ((x : Rat) + 1) * un p q → ∃ d : Nat, 2 ≤ d ∧ y ≤ ((x : Rat) + ((d - 1 : Nat) : Rat) / (d : Rat)) * un p q := by
      intro y hy
      have hδ : 0 < (((x : Rat) + 1) * un p q - y) / un p q := by rw [Rat.div_def]; exact Rat.mul_pos (by grind) (Rat.inv_pos.2 hw)
      obtain ⟨d, d1, d2⟩ := arch hδ
      obtain ⟨dd, d0⟩ := divd d d1
      refine ⟨d, d1, ?_⟩
      have e : (((x : Rat) + 1) * un p q - y) / un p q * un p q = ((x : Rat) + 1) * un p q - y := Rat.div_mul_cancel (by grind)
      generalize (((x : Rat) + 1) * un p q - y) / un p q = δ at *
      have e3 : (1 : Rat) / (d : Rat) * (d : Rat) = 1 := Rat.div_mul_cancel (by grind)
      have k1 : (1 : Rat) / (d : Rat) ≤ δ := by
        refine Rat.le_of_mul_le_mul_right (c := (d : Rat)) ?_ d0
        rw [e3]; grind
      rw [dd]
      have := Rat.mul_nonneg (show 0 ≤ δ - 1 / (d : Rat) by grind) (Rat.le_of_lt hw)
      grind
    have r3 : r.q ≤ (x : Rat) * un p q := by
      apply Rat.not_lt.1
      intro g
      obtain ⟨d, d1, d2⟩ := near1 ((r.q + (x : Rat) * un p q) / 2) (by grind)
      have := (dn' 1 d (by omega) (by omega)).le
      grind
    have s3 : ((x : Rat) + 1) * un p q ≤ s.q := by
      apply Rat.not_lt.1
      intro g
      obtain ⟨d, d1, d2⟩ := near2 ((s.q + ((x : Rat) + 1) * un p q) / 2) (by grind)
      have := (up' (d - 1) d (by omega) (by omega)).ge
      grind
    refine ⟨⟨r, e1, r0, ?_, ?_⟩, ⟨s, e2, by grind, ?_, ?_⟩⟩
    · have := sq_bd (x := r.q) (m := (x : Rat) * un p q) (by grind) r3
      grind
    · intro c c0 hc
      have hlt := sq_lt c0 x2 (by grind)
      obtain ⟨d, d1, d2⟩ := near2 c.q hlt
      exact (dn' (d - 1) d (by omega) (by omega)).top c d2
    · have := sq_bd (x := ((x : Rat) + 1) * un p q) (m := s.q) (by grind) s3
      grind
    · intro c c0 hc
      have hlt := sq_lt x0 c0 (by grind)
      obtain ⟨d, d1, d2⟩ := near1 c.q hlt
      exact (up' 1 d (by omega) (by omega)).bot c d2
end Bu
namespace Bu
set_option linter.all false
open Rx Go

def unI (n : Int) : I := ⟨(unitOf n.toNat).lo, (unitOf n.toNat).hi⟩
def kOf (g : Int → I) (u : Int → Bool) : List SV → Dec → Option (SV × Dec × Obs)
  | [x], ds => match intS x with
    | some (.u64, n) => some (.agg [.fl (g n).lo, .fl (g n).hi], ds, [(u n, true)])
    | _ => none
  | _, _ => none
/-- names for what a draw asks -/
structure Kq where
  ib : I → Bool
  si : I → I
  co : I → I
  uo : Int → I
  u : Int → Bool
  sqrt : Int → I → I × Int
  mul : Int → I → I → I × Int
  sub : Int → I → I → I × Int
  max : Int → I → I → I × Int
  num : Int → F → I × Int
def dR (N : Kq) (a : Int) : I × Int := N.sqrt 0 (N.uo a)
def dX (N : Kq) (a b : Int) : I × Int := N.mul (dR N a).2 (dR N a).1 (N.co (N.uo b))
def dY (N : Kq) (a b : Int) : I × Int := N.mul (dX N a b).2 (dR N a).1 (N.si (N.uo b))
def dO (N : Kq) (a b : Int) : I × Int := N.num (dY N a b).2 one64
def dD (N : Kq) (a b : Int) : I × Int := N.sub (dO N a b).2 (dO N a b).1 (N.uo a)
def dN (N : Kq) (a b : Int) : I × Int := N.num (dD N a b).2 (toF 0)
def keptI (a : I) (l h : F) : I := ⟨mnF (mxF a.lo l) h, mnF (mxF a.hi l) h⟩
def KqR (f : F → I × I) : Kq := ⟨fun u => inB u.lo u.hi, fun u => sinM f u.lo u.hi, fun u => cosM f u.lo u.hi, unI, fun n => decide (0 ≤ n ∧ n ≤ 18446744073709551615), cSqrt qSqrt, KTR.mul, KTR.sub, cMax, KTR.num⟩

theorem qSqrt_gen {a : F} (h0 : 0 ≤ a.q) : (∃ r, qSqrt false a = (r, 0) ∧ SqD r a) ∧ ∃ r, qSqrt true a = (r, 0) ∧ SqU r a := by
  have hk : 0 ≤ a.k := by have := q_le.1 (show F.zero.q ≤ a.q by rw [q_zero]; exact h0); exact this
  unfold qSqrt
  have hk' : ¬ a.k < 0 := by omega
  simp only [if_neg hk']
  by_cases hz : a.k = 0
  · simp only [if_pos hz]
    have ha : a = F.zero := F.ext' hz
    subst ha
    refine ⟨⟨F.zero, rfl, ?_, ?_, ?_⟩, ⟨F.zero, rfl, ?_, ?_, ?_⟩⟩
    · rw [q_zero]; exact Rat.le_refl
    · rw [q_zero]; grind
    · intro c c0 hc
      rw [q_zero] at hc ⊢
      exact sq_le' c0 Rat.le_refl (by grind)
    · rw [q_zero]; exact Rat.le_refl
    · rw [q_zero]; grind
    · intro c c0 _
      rw [q_zero]; exact c0
  · simp only [if_neg hz]
    exact sqrt_gen (by omega)
theorem one_k2 : one64.k = 4607182418800017408 := one64_k
theorem unI_U (n : Int) (h0 : 0 ≤ n) (h1 : n ≤ 18446744073709551615) : U01 (unI n) := by
  have hn : n.toNat < 18446744073709551616 := by omega
  have a1 := unitLo_nonneg n.toNat hn
  have a2 := unitHi_le n.toNat hn
  have a3 := unitLo_k n.toNat hn
  have a4 := unitHi_k n.toNat hn
  refine ⟨?_, ?_, ?_⟩
  · rw [← q_zero]; exact q_le.2 a1
  · refine q_le.2 ?_
    show (unitLo n.toNat).k ≤ (unitOf n.toNat).hi.k
    rw [a3, a4]
    have e1 := (le_flI (k := flI ((n.toNat * Q64 : Nat) : Int) 1) (A := ((n.toNat * Q64 : Nat) : Int)) (B := 1) (by omega)).1 (Int.le_refl _)
    have e2 := (ceI_le (k := ceI ((n.toNat * Q64 : Nat) : Int) 1) (A := ((n.toNat * Q64 : Nat) : Int)) (B := 1) (by omega)).1 (Int.le_refl _)
    exact nvZ_le_iff.1 (by omega)
  · rw [← one_q]; exact q_le.2 (by rw [one_k2]; exact a2)
theorem unI_in (n : Int) (h0 : 0 ≤ n) (h1 : n ≤ 18446744073709551615) : inB (unI n).lo (unI n).hi = true := by
  obtain ⟨u1, u2, u3⟩ := unI_U n h0 h1
  unfold inB
  have z : (toF 0).q = 0 := consts.2.2.2.2.2.2.2
  rw [rt_q (a := ⟨(unI n).lo, (unI n).hi⟩) u2, decide_eq_true (q_le.1 (by rw [z]; exact u1)), decide_eq_true (q_le.1 (by rw [one_q]; exact u3))]; rfl
theorem zero0_q : (toF 0).q = 0 := consts.2.2.2.2.2.2.2
end Bu
namespace Bu
set_option linter.all false
open Rx Go

def tw (n : Nat) : F := toF ((Ieee.double.add (toF n).b (toF 0).b).getD 0)
end Bu
namespace Bu
set_option linter.all false
open Rx Go

set_option maxRecDepth 100000 in
theorem one64_nv : nv 4607182418800017408 = S := of_decide_eq_true (by decide +kernel)
theorem near_int {n : Nat} (h : n ≤ 9007199254740992) : FloatKind.f64.nearest (n : Int) = (F.dy n 0).b := by
  have := nat_conv (m := n) (by have : P = 4503599627370496 := rfl; omega)
  rw [← this]; rfl
structure Ko where
  dv : Int → Int → I × I × I
  uo : Int → I
  u : Int → Bool
  fr : Int → F
  w : Int → Bool
  rt : I → Bool
  sub : Int → I → I → I × Int
  mul : Int → I → I → I × Int
  sqr : Int → I → I × Int
  num : Int → F → I × Int
def oOne (N : Ko) : I × Int := N.num 0 one64
def oSq (N : Ko) (t : F) : I × Int := N.sqr (oOne N).2 ⟨t, t⟩
def oSb (N : Ko) (t : F) : I × Int := N.sub (oSq N t).2 (oOne N).1 (oSq N t).1
def oPart (N : Ko) (t : F) : I × Int := N.mul (oSb N t).2 ⟨one64, one64⟩ (oSb N t).1
end Bu
