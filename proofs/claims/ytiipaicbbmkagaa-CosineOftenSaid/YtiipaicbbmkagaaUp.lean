/- Draws: the plain part. -/
import Derived.Test.YtiipaicbbmkagaaFq
namespace Bu
set_option linter.all false

structure Iv where
  lo : F
  hi : F
theorem Iv.ext' {a b : Iv} (h1 : a.lo = b.lo) (h2 : a.hi = b.hi) : a = b := by cases a; cases b; simp only at h1 h2; subst h1 h2; rfl
instance : DecidableEq Iv := fun a b => if h : a.lo = b.lo ∧ a.hi = b.hi then isTrue (Iv.ext' h.1 h.2) else isFalse (fun e => h (by rw [e]; exact ⟨rfl, rfl⟩))

/-- 2^1010: S by 2^64 -/
def Q64 : Nat := 2 ^ 1010
theorem Q64_eq : Q64 = 2 ^ 1010 := by unfold Q64; rfl
theorem S_Q64 : S = 18446744073709551616 * Q64 := by
  obtain ⟨s, hs, e⟩ := S_pow
  have h : ∃ t : Nat, t = 1010 ∧ Q64 = 2 ^ t := ⟨1010, rfl, Q64_eq⟩
  obtain ⟨t, ht, e2⟩ := h
  rw [e, e2, show s = 64 + t from by omega, Nat.pow_add]
theorem Q64_pow : ∃ t : Nat, t = 1010 ∧ Q64 = 2 ^ t := ⟨1010, rfl, Q64_eq⟩
theorem Q64_pos : 0 < Q64 := by obtain ⟨t, _, e⟩ := Q64_pow; rw [e]; exact Nat.two_pow_pos t
attribute [irreducible] Q64

def unitCut (u : Nat) : Nat := blen u - 53
def unitLo (u : Nat) : F := F.dy (u / 2 ^ unitCut u) ((unitCut u : Int) - 64)
/-- a draw's interval -/
def unitOf (u : Nat) : Iv := ⟨unitLo u, if u % 2 ^ unitCut u = 0 then unitLo u else (nextF (unitLo u) true).1⟩

theorem unit_m (u : Nat) (hu : u < 18446744073709551616) : unitCut u ≤ 11 ∧ u / 2 ^ unitCut u < 2 * P ∧ (unitCut u = 0 ∨ P ≤ u / 2 ^ unitCut u) := by
  have h1 : blen u ≤ 64 := blen_le hu
  have h2 := lt_blen u
  have hP : P = 2 ^ 52 := P_eq
  refine ⟨by unfold unitCut; omega, ?_, ?_⟩
  · rw [Nat.div_lt_iff_lt_mul (Nat.two_pow_pos _), show 2 * P = 2 ^ 53 from rfl, ← Nat.pow_add]
    exact Nat.lt_of_lt_of_le h2 (Nat.pow_le_pow_right (by omega) (by unfold unitCut; omega))
  · by_cases c : unitCut u = 0
    · exact Or.inl c
    · right
      have h0 : u ≠ 0 := by intro e; subst e; exact c (by decide)
      have e1 : blen u = u.log2 + 1 := by unfold blen; rw [if_neg h0]
      rw [hP, Nat.le_div_iff_mul_le (Nat.two_pow_pos _), ← Nat.pow_add]
      exact Nat.le_trans (Nat.pow_le_pow_right (by omega) (by unfold unitCut at *; omega)) (Nat.log2_self_le h0)

theorem blen_m {m : Nat} (h : m < 2 * P) : blen m ≤ 53 := blen_le (by rw [show (2 : Nat) ^ 53 = 2 * P from rfl]; exact h)

theorem unitLo_z (u : Nat) (hu : u < 18446744073709551616) : (unitLo u).z = ((u / 2 ^ unitCut u * 2 ^ unitCut u * Q64 : Nat) : Int) := by
  obtain ⟨h1, h2, h3⟩ := unit_m u hu
  have h4 := blen_m h2
  unfold unitLo
  rw [dy_z (by omega) (by omega) (by omega)]
  obtain ⟨t, ht, e⟩ := Q64_pow
  rw [e, Nat.mul_assoc, ← Nat.pow_add, show ((unitCut u : Int) - 64 + 1074).toNat = unitCut u + t from by omega]

theorem unitLo_k (u : Nat) (hu : u < 18446744073709551616) : (unitLo u).k = flI ((u * Q64 : Nat) : Int) 1 := by
  obtain ⟨h1, h2, h3⟩ := unit_m u hu
  have h4 := blen_m h2
  have hd := Nat.div_add_mod u (2 ^ unitCut u)
  have hm := Nat.mod_lt u (Nat.two_pow_pos (unitCut u))
  unfold unitLo
  rw [dy_k (by omega) (by omega)]
  unfold flI
  rw [if_pos (by omega), Int.toNat_natCast]
  obtain ⟨t, ht, e⟩ := Q64_pow
  rw [e, show ((unitCut u : Int) - 64 + 1074).toNat = unitCut u + t from by omega]
  refine congrArg (Nat.cast : Nat → Int) ?_
  generalize unitCut u = c at *
  generalize u / 2 ^ c = m at *
  generalize u % 2 ^ c = r at *
  symm
  have ht0 := Nat.two_pow_pos t
  by_cases hc : c = 0
  · subst hc
    unfold flQ
    rw [Nat.pow_zero] at hm hd
    rw [Nat.div_one, Nat.zero_add, show u = m from by omega]
  · have hn : P ≤ m := by omega
    have n1 := nv_mk (c + t) m (by omega) (Or.inr hn)
    have n2 := nv_mk (c + t) (m + 1) (by omega) (by omega)
    have f1 : fl (m * 2 ^ (c + t)) = (c + t) * P + m := by rw [← n1, fl_nv]
    rw [f1]
    refine flQ_eq (by omega) ?_ ?_
    · rw [n1, Nat.pow_add, ← hd, Nat.mul_one, ← Nat.mul_assoc, Nat.mul_comm m]
      exact Nat.mul_le_mul_right _ (by omega)
    · rw [Nat.add_assoc, n2, Nat.pow_add, ← hd, Nat.mul_one, ← Nat.mul_assoc]
      exact Nat.mul_lt_mul_of_pos_right (by rw [Nat.add_mul, Nat.mul_comm]; omega) ht0

theorem unit_exact (u : Nat) (hu : u < 18446744073709551616) : u % 2 ^ unitCut u = 0 ↔ nvZ (unitLo u).k = ((u * Q64 : Nat) : Int) := by
  have h := unitLo_z u hu
  unfold F.z at h
  rw [h]
  have hd := Nat.div_add_mod u (2 ^ unitCut u)
  have hQ := Q64_pos
  rw [Nat.mul_comm] at hd
  generalize u / 2 ^ unitCut u * 2 ^ unitCut u = a at *
  generalize u % 2 ^ unitCut u = r at *
  constructor
  · intro e; rw [e, Nat.add_zero] at hd; rw [hd]
  · intro e
    have e2 : a * Q64 = u * Q64 := by omega
    have := Nat.eq_of_mul_eq_mul_right hQ e2
    omega

theorem one_k : ∃ one : F, one.z = S ∧ one.k = 4607182418800017408 := ⟨F.of 4607182418800017408, by decide +kernel, by decide +kernel⟩

theorem unitLo_lt (u : Nat) (hu : u < 18446744073709551616) : (unitLo u).k < 4607182418800017408 := by
  obtain ⟨one, h1, h2⟩ := one_k
  have h := unitLo_z u hu
  rw [← h2, ← F.z_lt, h, h1, S_Q64]
  have hd := Nat.div_mul_le_self u (2 ^ unitCut u)
  have := Nat.mul_lt_mul_of_pos_right (show u / 2 ^ unitCut u * 2 ^ unitCut u < 18446744073709551616 by omega) Q64_pos
  omega

theorem nextF_up (x : F) (h : x.k < 4607182418800017408) : (nextF x true).1.k = x.k + 1 ∧ (nextF x true).2 = 0 := by
  have hT := T_num
  have hx := x.hk
  unfold nextF outUp
  rw [if_pos rfl, if_neg (by omega)]
  simp only
  rw [F.of_k (by omega)]
  exact ⟨by omega, trivial⟩

theorem unitHi_k (u : Nat) (hu : u < 18446744073709551616) : (unitOf u).hi.k = ceI ((u * Q64 : Nat) : Int) 1 := by
  have h1 := unitLo_k u hu
  have h2 := unit_exact u hu
  have h3 := unitLo_lt u hu
  unfold unitOf
  simp only
  by_cases c : u % 2 ^ unitCut u = 0
  · rw [if_pos c, ← h2.1 c, ceI_nvZ]
  · rw [if_neg c, (nextF_up _ h3).1]
    have a := (le_flI (k := (unitLo u).k + 1) (A := ((u * Q64 : Nat) : Int)) (B := 1) (by omega))
    have b := (le_flI (k := (unitLo u).k) (A := ((u * Q64 : Nat) : Int)) (B := 1) (by omega)).1 (by omega)
    have c1 := (ceI_le (k := (unitLo u).k + 1) (A := ((u * Q64 : Nat) : Int)) (B := 1) (by omega))
    have c2 := (ceI_le (k := (unitLo u).k) (A := ((u * Q64 : Nat) : Int)) (B := 1) (by omega))
    have h4 : nvZ (unitLo u).k ≠ ((u * Q64 : Nat) : Int) := fun e => c (h2.2 e)
    omega

theorem flI_mono {A A' : Int} {B : Nat} (hB : 0 < B) (h : A ≤ A') : flI A B ≤ flI A' B :=
  (le_flI hB).2 (Int.le_trans ((le_flI hB).1 (Int.le_refl _)) h)
theorem ceI_mono {A A' : Int} {B : Nat} (hB : 0 < B) (h : A ≤ A') : ceI A B ≤ ceI A' B :=
  (ceI_le hB).2 (Int.le_trans h ((ceI_le hB).1 (Int.le_refl _)))

theorem unitHi_le (u : Nat) (hu : u < 18446744073709551616) : (unitOf u).hi.k ≤ 4607182418800017408 := by
  obtain ⟨one, h1, h2⟩ := one_k
  rw [unitHi_k u hu, ceI_le (by omega), ← h2]
  show _ ≤ one.z * _
  rw [h1, S_Q64]
  have := Nat.mul_le_mul_right Q64 (show u ≤ 18446744073709551616 by omega)
  omega
theorem unitLo_nonneg (u : Nat) (hu : u < 18446744073709551616) : 0 ≤ (unitLo u).k := by
  rw [unitLo_k u hu, le_flI (by omega), nvZ_zero]; omega

theorem unit_mono {u v : Nat} (h : u ≤ v) (hv : v < 18446744073709551616) : (unitLo u).k ≤ (unitLo v).k ∧ (unitOf u).hi.k ≤ (unitOf v).hi.k := by
  have h1 : ((u * Q64 : Nat) : Int) ≤ ((v * Q64 : Nat) : Int) := by have := Nat.mul_le_mul_right Q64 h; omega
  rw [unitLo_k u (by omega), unitLo_k v hv, unitHi_k u (by omega), unitHi_k v hv]
  exact ⟨flI_mono (by omega) h1, ceI_mono (by omega) h1⟩

/-- a number, cut to a whole one -/
theorem trunc_F (x : F) (h : 0 ≤ x.k) : (Ieee.double.read x.b).toInt .zero = some (x.z / S) := by
  rw [read_F]
  have hs : decide (x.k < 0) = false := by simp; omega
  rw [hs]
  simp only [Ieee.Datum.toInt, Ieee.Datum.integral, Ieee.Toward.cut, Option.some.injEq, Bool.toNat_false, Nat.add_zero]
  rw [signed_eq]
  simp only [Bool.false_eq_true, if_false, Int.one_mul, Nat.pow_zero, Nat.mul_one, Nat.shiftLeft_eq, Nat.one_mul]
  have hz : x.z = ((man x.k.natAbs * 2 ^ pl x.k.natAbs : Nat) : Int) := by
    unfold F.z
    rw [nvZ_sign, hs]
    simp only [Bool.false_eq_true, if_false, Int.one_mul]
  rw [hz, ← Int.natCast_ediv]
  congr 1
  generalize man x.k.natAbs = m
  generalize pl x.k.natAbs = p
  obtain ⟨s, hs, e⟩ := S_pow
  rw [e]
  by_cases c : s ≤ p
  · have e1 : (-1074 + (p : Int)).toNat = p - s := by omega
    have e2 : (-(-1074 + (p : Int))).toNat = 0 := by omega
    rw [e1, e2, Nat.zero_min, Nat.pow_zero, Nat.div_one]
    rw [show p = (p - s) + s from by omega, Nat.pow_add, ← Nat.mul_assoc, Nat.mul_div_cancel _ (Nat.two_pow_pos s)]
    simp
  · have e1 : (-1074 + (p : Int)).toNat = 0 := by omega
    have e2 : (-(-1074 + (p : Int))).toNat = s - p := by omega
    rw [e1, e2, Nat.pow_zero, Nat.mul_one]
    have e3 : m * 2 ^ p / 2 ^ s = m / 2 ^ (s - p) := by
      rw [show s = p + (s - p) from by omega, Nat.pow_add, ← Nat.div_div_eq_div_mul, Nat.mul_div_cancel _ (Nat.two_pow_pos p)]
      simp
    rw [e3]
    by_cases c2 : s - p ≤ m.log2 + 2
    · rw [Nat.min_eq_left c2]
    · rw [Nat.min_eq_right (by omega)]
      have h1 := Nat.lt_log2_self (n := m)
      have h2 : 2 ^ (m.log2 + 1) ≤ 2 ^ (m.log2 + 2) := Nat.pow_le_pow_right (by omega) (by omega)
      have h3 : 2 ^ (m.log2 + 1) ≤ 2 ^ (s - p) := Nat.pow_le_pow_right (by omega) (by omega)
      rw [Nat.div_eq_of_lt (by omega), Nat.div_eq_of_lt (by omega)]

theorem one_one : ∀ one : F, one.k = 4607182418800017408 → one.z = S := by
  intro one h
  obtain ⟨o, h1, h2⟩ := one_k
  have : one = o := F.ext' (by rw [h, h2])
  rw [this, h1]

theorem scaleC (w : F) (c : Nat) (hc : c ≤ 64) (h0 : 0 ≤ w.k) (h1 : w.k ≤ 4607182418800017408) : ∃ y : F, 0 ≤ y.k ∧ y.z = w.z * ((2 ^ c : Nat) : Int) := by
  obtain ⟨one, o1, o2⟩ := one_k
  obtain ⟨r, hr⟩ := Int.eq_ofNat_of_zero_le h0
  have hz : w.z = (nv r : Int) := by unfold F.z; rw [hr, nvZ_natCast]
  have hm := man_pl r
  have hex : nv (fl (nv r * 2 ^ c)) = nv r * 2 ^ c := by
    have e : nv r * 2 ^ c = man r * 2 ^ (pl r + c) := by unfold nv; rw [Nat.pow_add, ← Nat.mul_assoc]
    rw [e]; exact nv_fl_exact (by omega)
  have hlt : fl (nv r * 2 ^ c) < T := by
    rw [← nv_lt_iff, hex, nv_T]
    have hle : w.z ≤ one.z := F.z_le.2 (by omega)
    rw [o1, hz] at hle
    obtain ⟨s, hs, e⟩ := S_pow
    obtain ⟨t, ht⟩ : ∃ t : Nat, t = 2046 := ⟨_, rfl⟩
    rw [← ht, show P * 2 ^ t = 2 ^ (52 + t) from by rw [Nat.pow_add]; rfl]
    have h3 : nv r ≤ 2 ^ s := by rw [← e]; omega
    refine Nat.lt_of_le_of_lt (Nat.mul_le_mul_right _ h3) ?_
    rw [← Nat.pow_add]
    exact Nat.pow_lt_pow_right (by omega) (by omega)
  have hyk : (F.of (fl (nv r * 2 ^ c) : Nat)).k = (fl (nv r * 2 ^ c) : Nat) := F.of_k (by omega)
  have hyz : (F.of (fl (nv r * 2 ^ c) : Nat)).z = ((nv r * 2 ^ c : Nat) : Int) := by
    unfold F.z; rw [hyk, nvZ_natCast, hex]
  refine ⟨F.of (fl (nv r * 2 ^ c) : Nat), ?_, ?_⟩
  · rw [hyk]; exact Int.natCast_nonneg _
  · rw [hyz, hz, Int.natCast_mul]

theorem Sc_of {x y : F} (c : Nat) (h : y.z = x.z * ((2 ^ c : Nat) : Int)) : Sc x y c := by
  unfold Sc
  rw [h, Int.toNat_natCast, show (-(c : Int)).toNat = 0 from by omega]
  simp

/-- a number below 1, times 2^64 -/
theorem scale64 (w : F) (h0 : 0 ≤ w.k) (h1 : w.k ≤ 4607182418800017408) : ∃ y : F, Sc w y 64 ∧ 0 ≤ y.k ∧ y.z = w.z * 18446744073709551616 := by
  obtain ⟨y, a, b⟩ := scaleC w 64 (by omega) h0 h1
  refine ⟨y, Sc_of 64 b, a, ?_⟩
  rw [b]
  rfl

/-- a weight's bound -/
def splitB (w : F) : Nat := if w.k < 4607182418800017408 then (w.z / (Q64 : Int)).toNat else 0
/-- what Split tells -/
def splitF (u : Nat) (w : F) : Bool × Nat :=
  if w.k = 4607182418800017408 ∨ u < splitB w then (true, if 0 < splitB w then u * 18446744073709551616 / splitB w else u)
  else (false, if 0 < splitB w then (u - splitB w) * 18446744073709551616 / (18446744073709551616 - splitB w) else u)

theorem splitB_lt (w : F) (h0 : 0 ≤ w.k) : splitB w < 18446744073709551616 ∧ ∀ y : F, w.k < 4607182418800017408 → y.z = w.z * 18446744073709551616 → y.z / S = splitB w := by
  obtain ⟨one, o1, o2⟩ := one_k
  have hz0 : 0 ≤ w.z := nvZ_nonneg h0
  have hQ : (0 : Int) < Q64 := by have := Q64_pos; omega
  have hS := S_Q64
  unfold splitB
  by_cases c : w.k < 4607182418800017408
  · rw [if_pos c]
    have hl : w.z < one.z := F.z_lt.2 (by omega)
    rw [o1, hS] at hl
    have hd : w.z / (Q64 : Int) < 18446744073709551616 := by
      rw [Int.ediv_lt_iff_lt_mul hQ]; rw [Int.natCast_mul] at hl; exact hl
    have hd0 : 0 ≤ w.z / (Q64 : Int) := Int.ediv_nonneg hz0 (by omega)
    refine ⟨by omega, ?_⟩
    intro y _ hy
    rw [hy, hS, Int.natCast_mul, Int.mul_comm w.z]
    have := Int.mul_ediv_mul_of_pos w.z (Q64 : Int) (show (0 : Int) < 18446744073709551616 by omega)
    rw [show ((18446744073709551616 : Nat) : Int) = 18446744073709551616 from rfl, this]
    omega
  · rw [if_neg c]
    exact ⟨by omega, fun y hc => absurd hc c⟩

theorem unitHi_z (u : Nat) (hu : u < 18446744073709551616) (hc : u % 2 ^ unitCut u ≠ 0) : (nextF (unitLo u) true).1.z = (((u / 2 ^ unitCut u + 1) * 2 ^ unitCut u * Q64 : Nat) : Int) := by
  obtain ⟨h1, h2, h3⟩ := unit_m u hu
  have h4 := blen_m h2
  have hlt := unitLo_lt u hu
  have hk := (nextF_up _ hlt).1
  have hc0 : unitCut u ≠ 0 := by
    intro e; rw [e, Nat.pow_zero] at hc; omega
  have hl : (unitLo u).k = (fl (u / 2 ^ unitCut u * 2 ^ ((unitCut u : Int) - 64 + 1074).toNat) : Nat) := by
    unfold unitLo; rw [dy_k (by omega) (by omega)]
  unfold F.z
  rw [hk, hl]
  obtain ⟨t, ht, e⟩ := Q64_pow
  rw [e, show ((unitCut u : Int) - 64 + 1074).toNat = unitCut u + t from by omega]
  generalize unitCut u = c at *
  generalize u / 2 ^ c = m at *
  have hn : P ≤ m := by omega
  have n1 := nv_mk (c + t) m (by omega) (Or.inr hn)
  have n2 := nv_mk (c + t) (m + 1) (by omega) (by omega)
  have f1 : fl (m * 2 ^ (c + t)) = (c + t) * P + m := by rw [← n1, fl_nv]
  rw [f1, show (((c + t) * P + m : Nat) : Int) + 1 = (((c + t) * P + (m + 1) : Nat) : Int) from by omega, nvZ_natCast, n2, Nat.pow_add, Nat.mul_assoc (m + 1)]

theorem scale_trunc {x X : F} {N : Nat} (hx : x.z = ((N * Q64 : Nat) : Int)) (hX : X.z = x.z * 18446744073709551616) : X.z / (S : Int) = N := by
  have hS := S_Q64
  have hQ := Q64_pos
  have hSp := S_pos
  rw [hX, hx]
  have e : ((N * Q64 : Nat) : Int) * 18446744073709551616 = (N : Int) * (S : Int) := by
    rw [hS, Int.natCast_mul, Int.natCast_mul]; grind
  rw [e]
  exact Int.mul_ediv_cancel _ (by omega)

/-- what UnitOf asks of a draw -/
structure UFacts (p : Nat) (x y n X : F) (N : Nat) : Prop where
  of : unitOf p = ⟨x, y⟩
  nx : (nextF x true).1 = n
  nx2 : (nextF x true).2 = 0
  nk : n.k = x.k + 1
  lo : 0 ≤ x.k
  lt : x.k < 4607182418800017408
  hi : y.k ≤ 4607182418800017408
  sc : Sc x X 64
  X0 : 0 ≤ X.k
  XN : X.z / S = N
  NL : N < 18446744073709551616
  cs : (y = x ∧ N = p) ∨ (y = n ∧ N < p ∧ (n.k < 4607182418800017408 → ∃ (Y : F) (M : Nat), Sc n Y 64 ∧ 0 ≤ Y.k ∧ Y.z / S = M ∧ M < 18446744073709551616 ∧ p < M))

theorem unit_facts (p : Nat) (hp : p < 18446744073709551616) : ∃ (x y n X : F) (N : Nat), UFacts p x y n X N := by
  have h1 := unitLo_nonneg p hp
  have h2 := unitLo_lt p hp
  have h3 := unitHi_le p hp
  have h4 := unitLo_z p hp
  have h5 := nextF_up _ h2
  obtain ⟨X, a1, a2, a3⟩ := scale64 (unitLo p) h1 (by omega)
  have hd := Nat.div_add_mod p (2 ^ unitCut p)
  have hm := Nat.mod_lt p (Nat.two_pow_pos (unitCut p))
  rw [Nat.mul_comm] at hd
  refine ⟨unitLo p, (unitOf p).hi, (nextF (unitLo p) true).1, X, p / 2 ^ unitCut p * 2 ^ unitCut p, ?_⟩
  refine ⟨rfl, rfl, h5.2, h5.1, h1, h2, h3, a1, a2, scale_trunc h4 a3, by omega, ?_⟩
  by_cases c : p % 2 ^ unitCut p = 0
  · left
    refine ⟨by unfold unitOf; simp only; rw [if_pos c], by omega⟩
  · right
    have hz := unitHi_z p hp c
    have hh : (unitOf p).hi = (nextF (unitLo p) true).1 := by unfold unitOf; simp only; rw [if_neg c]
    refine ⟨hh, by omega, ?_⟩
    intro hn
    have hn0 : 0 ≤ (nextF (unitLo p) true).1.k := by rw [h5.1]; omega
    obtain ⟨Y, b1, b2, b3⟩ := scale64 (nextF (unitLo p) true).1 hn0 (by omega)
    have e2 : (p / 2 ^ unitCut p + 1) * 2 ^ unitCut p = p / 2 ^ unitCut p * 2 ^ unitCut p + 2 ^ unitCut p := by rw [Nat.add_mul, Nat.one_mul]
    refine ⟨Y, (p / 2 ^ unitCut p + 1) * 2 ^ unitCut p, b1, b2, scale_trunc hz b3, ?_, by omega⟩
    obtain ⟨one, o1, o2⟩ := one_k
    have hl : (nextF (unitLo p) true).1.z < one.z := F.z_lt.2 (by omega)
    rw [hz, o1, S_Q64] at hl
    have hl2 : (p / 2 ^ unitCut p + 1) * 2 ^ unitCut p * Q64 < 18446744073709551616 * Q64 := by omega
    exact Nat.lt_of_mul_lt_mul_right hl2
end Bu
