/- Draws: the plain part. Roots, rounded: by squares. Draws by the cosine, plain. Draws by the cosine: what the laws ask. CosineOften, plain. -/
import Derived.Test.YtmhhopfffeijnaaGreatGd
import Derived.Test.YtmhhopfffeijnaaGreatIg
import Derived.Test.YtmhhopfffeijnaaGreatGk
import Derived.Test.YtmhhopfffeijnaaGreatFs
namespace Bu
set_option linter.all false

structure Iv where
  lo : F
  hi : F
theorem Iv.ext' {a b : Iv} (h1 : a.lo = b.lo) (h2 : a.hi = b.hi) : a = b := by cases a; cases b; simp only at h1 h2; subst h1 h2; rfl
instance : DecidableEq Iv := fun a b => if h : a.lo = b.lo ∧ a.hi = b.hi then isTrue (Iv.ext' h.1 h.2) else isFalse (fun e => h (by rw [e]; exact ⟨rfl, rfl⟩))

/-- 2^1010: S by 2^64 -/
def Q64 : Nat := 2 ^ 1010
theorem Q64_eq : Q64 = 2 ^ 1010 := by unfold Q64; rfl
theorem S_Q64 : S = 18446744073709551616 * Q64 := by
  obtain ⟨s, hs, e⟩ := S_pow
  have h : ∃ t : Nat, t = 1010 ∧ Q64 = 2 ^ t := ⟨1010, rfl, Q64_eq⟩
  obtain ⟨t, ht, e2⟩ := h
  rw [e, e2, show s = 64 + t from by omega, Nat.pow_add]
theorem Q64_pow : ∃ t : Nat, t = 1010 ∧ Q64 = 2 ^ t := ⟨1010, rfl, Q64_eq⟩
theorem Q64_pos : 0 < Q64 := by obtain ⟨t, _, e⟩ := Q64_pow; rw [e]; exact Nat.two_pow_pos t
attribute [irreducible] Q64

def unitCut (u : Nat) : Nat := blen u - 53
def unitLo (u : Nat) : F := F.dy (u / 2 ^ unitCut u) ((unitCut u : Int) - 64)
/-- a draw's interval -/
def unitOf (u : Nat) : Iv := ⟨unitLo u, if u % 2 ^ unitCut u = 0 then unitLo u else (nextF (unitLo u) true).1⟩

theorem unit_m (u : Nat) (hu : u < 18446744073709551616) : unitCut u ≤ 11 ∧ u / 2 ^ unitCut u < 2 * P ∧ (unitCut u = 0 ∨ P ≤ u / 2 ^ unitCut u) := by
  have h1 : blen u ≤ 64 := blen_le hu
  have h2 := lt_blen u
  have hP : P = 2 ^ 52 := P_eq
  refine ⟨by unfold unitCut; omega, ?_, ?_⟩
  · rw [Nat.div_lt_iff_lt_mul (Nat.two_pow_pos _), show 2 * P = 2 ^ 53 from rfl, ← Nat.pow_add]
    exact Nat.lt_of_lt_of_le h2 (Nat.pow_le_pow_right (by omega) (by unfold unitCut; omega))
  · by_cases c : unitCut u = 0
    · exact Or.inl c
    · right
      have h0 : u ≠ 0 := by intro e; subst e; exact c (by decide)
      have e1 : blen u = u.log2 + 1 := by unfold blen; rw [if_neg h0]
      rw [hP, Nat.le_div_iff_mul_le (Nat.two_pow_pos _), ← Nat.pow_add]
      exact Nat.le_trans (Nat.pow_le_pow_right (by omega) (by unfold unitCut at *; omega)) (Nat.log2_self_le h0)

theorem blen_m {m : Nat} (h : m < 2 * P) : blen m ≤ 53 := blen_le (by rw [show (2 : Nat) ^ 53 = 2 * P from rfl]; exact h)

theorem unitLo_z (u : Nat) (hu : u < 18446744073709551616) : (unitLo u).z = ((u / 2 ^ unitCut u * 2 ^ unitCut u * Q64 : Nat) : Int) := by
  obtain ⟨h1, h2, h3⟩ := unit_m u hu
  have h4 := blen_m h2
  unfold unitLo
  rw [dy_z (by omega) (by omega) (by omega)]
  obtain ⟨t, ht, e⟩ := Q64_pow
  rw [e, Nat.mul_assoc, ← Nat.pow_add, show ((unitCut u : Int) - 64 + 1074).toNat = unitCut u + t from by omega]

theorem unitLo_k (u : Nat) (hu : u < 18446744073709551616) : (unitLo u).k = flI ((u * Q64 : Nat) : Int) 1 := by
  obtain ⟨h1, h2, h3⟩ := unit_m u hu
  have h4 := blen_m h2
  have hd := Nat.div_add_mod u (2 ^ unitCut u)
  have hm := Nat.mod_lt u (Nat.two_pow_pos (unitCut u))
  unfold unitLo
  rw [dy_k (by omega) (by omega)]
  unfold flI
  rw [if_pos (by omega), Int.toNat_natCast]
  obtain ⟨t, ht, e⟩ := Q64_pow
  rw [e, show ((unitCut u : Int) - 64 + 1074).toNat = unitCut u + t from by omega]
  refine congrArg (Nat.cast : Nat → Int) ?_
  generalize unitCut u = c at *
  generalize u / 2 ^ c = m at *
  generalize u % 2 ^ c = r at *
  symm
  have ht0 := Nat.two_pow_pos t
  by_cases hc : c = 0
  · subst hc
    unfold flQ
    rw [Nat.pow_zero] at hm hd
    rw [Nat.div_one, Nat.zero_add, show u = m from by omega]
  · have hn : P ≤ m := by omega
    have n1 := nv_mk (c + t) m (by omega) (Or.inr hn)
    have n2 := nv_mk (c + t) (m + 1) (by omega) (by omega)
    have f1 : fl (m * 2 ^ (c + t)) = (c + t) * P + m := by rw [← n1, fl_nv]
    rw [f1]
    refine flQ_eq (by omega) ?_ ?_
    · rw [n1, Nat.pow_add, ← hd, Nat.mul_one, ← Nat.mul_assoc, Nat.mul_comm m]
      exact Nat.mul_le_mul_right _ (by omega)
    · rw [Nat.add_assoc, n2, Nat.pow_add, ← hd, Nat.mul_one, ← Nat.mul_assoc]
      exact Nat.mul_lt_mul_of_pos_right (by rw [Nat.add_mul, Nat.mul_comm]; omega) ht0

theorem unit_exact (u : Nat) (hu : u < 18446744073709551616) : u % 2 ^ unitCut u = 0 ↔ nvZ (unitLo u).k = ((u * Q64 : Nat) : Int) := by
  have h := unitLo_z u hu
  unfold F.z at h
  rw [h]
  have hd := Nat.div_add_mod u (2 ^ unitCut u)
  have hQ := Q64_pos
  rw [Nat.mul_comm] at hd
  generalize u / 2 ^ unitCut u * 2 ^ unitCut u = a at *
  generalize u % 2 ^ unitCut u = r at *
  constructor
  · intro e; rw [e, Nat.add_zero] at hd; rw [hd]
  · intro e
    have e2 : a * Q64 = u * Q64 := by omega
    have := Nat.eq_of_mul_eq_mul_right hQ e2
    omega

theorem one_k : ∃ one : F, one.z = S ∧ one.k = 4607182418800017408 := ⟨F.of 4607182418800017408, by decide +kernel, by decide +kernel⟩

theorem unitLo_lt (u : Nat) (hu : u < 18446744073709551616) : (unitLo u).k < 4607182418800017408 := by
  obtain ⟨one, h1, h2⟩ := one_k
  have h := unitLo_z u hu
  rw [← h2, ← F.z_lt, h, h1, S_Q64]
  have hd := Nat.div_mul_le_self u (2 ^ unitCut u)
  have := Nat.mul_lt_mul_of_pos_right (show u / 2 ^ unitCut u * 2 ^ unitCut u < 18446744073709551616 by omega) Q64_pos
  omega

theorem nextF_up (x : F) (h : x.k < 4607182418800017408) : (nextF x true).1.k = x.k + 1 ∧ (nextF x true).2 = 0 := by
  have hT := T_num
  have hx := x.hk
  unfold nextF outUp
  rw [if_pos rfl, if_neg (by omega)]
  simp only
  rw [F.of_k (by omega)]
  exact ⟨by omega, trivial⟩

theorem unitHi_k (u : Nat) (hu : u < 18446744073709551616) : (unitOf u).hi.k = ceI ((u * Q64 : Nat) : Int) 1 := by
  have h1 := unitLo_k u hu
  have h2 := unit_exact u hu
  have h3 := unitLo_lt u hu
  unfold unitOf
  simp only
  by_cases c : u % 2 ^ unitCut u = 0
  · rw [if_pos c, ← h2.1 c, ceI_nvZ]
  · rw [if_neg c, (nextF_up _ h3).1]
    have a := (le_flI (k := (unitLo u).k + 1) (A := ((u * Q64 : Nat) : Int)) (B := 1) (by omega))
    have b := (le_flI (k := (unitLo u).k) (A := ((u * Q64 : Nat) : Int)) (B := 1) (by omega)).1 (by omega)
    have c1 := (ceI_le (k := (unitLo u).k + 1) (A := ((u * Q64 : Nat) : Int)) (B := 1) (by omega))
    have c2 := (ceI_le (k := (unitLo u).k) (A := ((u * Q64 : Nat) : Int)) (B := 1) (by omega))
    have h4 : nvZ (unitLo u).k ≠ ((u * Q64 : Nat) : Int) := fun e => c (h2.2 e)
    omega

theorem flI_mono {A A' : Int} {B : Nat} (hB : 0 < B) (h : A ≤ A') : flI A B ≤ flI A' B :=
  (le_flI hB).2 (Int.le_trans ((le_flI hB).1 (Int.le_refl _)) h)
theorem ceI_mono {A A' : Int} {B : Nat} (hB : 0 < B) (h : A ≤ A') : ceI A B ≤ ceI A' B :=
  (ceI_le hB).2 (Int.le_trans h ((ceI_le hB).1 (Int.le_refl _)))

theorem unitHi_le (u : Nat) (hu : u < 18446744073709551616) : (unitOf u).hi.k ≤ 4607182418800017408 := by
  obtain ⟨one, h1, h2⟩ := one_k
  rw [unitHi_k u hu, ceI_le (by omega), ← h2]
  show _ ≤ one.z * _
  rw [h1, S_Q64]
  have := Nat.mul_le_mul_right Q64 (show u ≤ 18446744073709551616 by omega)
  omega
theorem unitLo_nonneg (u : Nat) (hu : u < 18446744073709551616) : 0 ≤ (unitLo u).k := by
  rw [unitLo_k u hu, le_flI (by omega), nvZ_zero]; omega

theorem unit_mono {u v : Nat} (h : u ≤ v) (hv : v < 18446744073709551616) : (unitLo u).k ≤ (unitLo v).k ∧ (unitOf u).hi.k ≤ (unitOf v).hi.k := by
  have h1 : ((u * Q64 : Nat) : Int) ≤ ((v * Q64 : Nat) : Int) := by have := Nat.mul_le_mul_right Q64 h; omega
  rw [unitLo_k u (by omega), unitLo_k v hv, unitHi_k u (by omega), unitHi_k v hv]
  exact ⟨flI_mono (by omega) h1, ceI_mono (by omega) h1⟩

/-- a number, cut to a whole one -/
theorem trunc_F (x : F) (h : 0 ≤ x.k) : (Ieee.double.read x.b).toInt .zero = some (x.z / S) := by
  rw [read_F]
  have hs : decide (x.k < 0) = false := by simp; omega
  rw [hs]
  simp only [Ieee.Datum.toInt, Ieee.Datum.integral, Ieee.Toward.cut, Option.some.injEq, Bool.toNat_false, Nat.add_zero]
  rw [signed_eq]
  simp only [Bool.false_eq_true, if_false, Int.one_mul, Nat.pow_zero, Nat.mul_one, Nat.shiftLeft_eq, Nat.one_mul]
  have hz : x.z = ((man x.k.natAbs * 2 ^ pl x.k.natAbs : Nat) : Int) := by
    unfold F.z
    rw [nvZ_sign, hs]
    simp only [Bool.false_eq_true, if_false, Int.one_mul]
  rw [hz, ← Int.natCast_ediv]
  congr 1
  generalize man x.k.natAbs = m
  generalize pl x.k.natAbs = p
  obtain ⟨s, hs, e⟩ := S_pow
  rw [e]
  by_cases c : s ≤ p
  · have e1 : (-1074 + (p : Int)).toNat = p - s := by omega
    have e2 : (-(-1074 + (p : Int))).toNat = 0 := by omega
    rw [e1, e2, Nat.zero_min, Nat.pow_zero, Nat.div_one]
    rw [show p = (p - s) + s from by omega, Nat.pow_add, ← Nat.mul_assoc, Nat.mul_div_cancel _ (Nat.two_pow_pos s)]
    simp
  · have e1 : (-1074 + (p : Int)).toNat = 0 := by omega
    have e2 : (-(-1074 + (p : Int))).toNat = s - p := by omega
    rw [e1, e2, Nat.pow_zero, Nat.mul_one]
    have e3 : m * 2 ^ p / 2 ^ s = m / 2 ^ (s - p) := by
      rw [show s = p + (s - p) from by omega, Nat.pow_add, ← Nat.div_div_eq_div_mul, Nat.mul_div_cancel _ (Nat.two_pow_pos p)]
      simp
    rw [e3]
    by_cases c2 : s - p ≤ m.log2 + 2
    · rw [Nat.min_eq_left c2]
    · rw [Nat.min_eq_right (by omega)]
      have h1 := Nat.lt_log2_self (n := m)
      have h2 : 2 ^ (m.log2 + 1) ≤ 2 ^ (m.log2 + 2) := Nat.pow_le_pow_right (by omega) (by omega)
      have h3 : 2 ^ (m.log2 + 1) ≤ 2 ^ (s - p) := Nat.pow_le_pow_right (by omega) (by omega)
      rw [Nat.div_eq_of_lt (by omega), Nat.div_eq_of_lt (by omega)]

theorem one_one : ∀ one : F, one.k = 4607182418800017408 → one.z = S := by
  intro one h
  obtain ⟨o, h1, h2⟩ := one_k
  have : one = o := F.ext' (by rw [h, h2])
  rw [this, h1]

theorem scaleC (w : F) (c : Nat) (hc : c ≤ 64) (h0 : 0 ≤ w.k) (h1 : w.k ≤ 4607182418800017408) : ∃ y : F, 0 ≤ y.k ∧ y.z = w.z * ((2 ^ c : Nat) : Int) := by
  obtain ⟨one, o1, o2⟩ := one_k
  obtain ⟨r, hr⟩ := Int.eq_ofNat_of_zero_le h0
  have hz : w.z = (nv r : Int) := by unfold F.z; rw [hr, nvZ_natCast]
  have hm := man_pl r
  have hex : nv (fl (nv r * 2 ^ c)) = nv r * 2 ^ c := by
    have e : nv r * 2 ^ c = man r * 2 ^ (pl r + c) := by unfold nv; rw [Nat.pow_add, ← Nat.mul_assoc]
    rw [e]; exact nv_fl_exact (by omega)
  have hlt : fl (nv r * 2 ^ c) < T := by
    rw [← nv_lt_iff, hex, nv_T]
    have hle : w.z ≤ one.z := F.z_le.2 (by omega)
    rw [o1, hz] at hle
    obtain ⟨s, hs, e⟩ := S_pow
    obtain ⟨t, ht⟩ : ∃ t : Nat, t = 2046 := ⟨_, rfl⟩
    rw [← ht, show P * 2 ^ t = 2 ^ (52 + t) from by rw [Nat.pow_add]; rfl]
    have h3 : nv r ≤ 2 ^ s := by rw [← e]; omega
    refine Nat.lt_of_le_of_lt (Nat.mul_le_mul_right _ h3) ?_
    rw [← Nat.pow_add]
    exact Nat.pow_lt_pow_right (by omega) (by omega)
  have hyk : (F.of (fl (nv r * 2 ^ c) : Nat)).k = (fl (nv r * 2 ^ c) : Nat) := F.of_k (by omega)
  have hyz : (F.of (fl (nv r * 2 ^ c) : Nat)).z = ((nv r * 2 ^ c : Nat) : Int) := by
    unfold F.z; rw [hyk, nvZ_natCast, hex]
  refine ⟨F.of (fl (nv r * 2 ^ c) : Nat), ?_, ?_⟩
  · rw [hyk]; exact Int.natCast_nonneg _
  · rw [hyz, hz, Int.natCast_mul]

theorem Sc_of {x y : F} (c : Nat) (h : y.z = x.z * ((2 ^ c : Nat) : Int)) : Sc x y c := by
  unfold Sc
  rw [h, Int.toNat_natCast, show (-(c : Int)).toNat = 0 from by omega]
  simp

/-- a number below 1, times 2^64 -/
theorem scale64 (w : F) (h0 : 0 ≤ w.k) (h1 : w.k ≤ 4607182418800017408) : ∃ y : F, Sc w y 64 ∧ 0 ≤ y.k ∧ y.z = w.z * 18446744073709551616 := by
  obtain ⟨y, a, b⟩ := scaleC w 64 (by omega) h0 h1
  refine ⟨y, Sc_of 64 b, a, ?_⟩
  rw [b]
  rfl

/-- a weight's bound -/
def splitB (w : F) : Nat := if w.k < 4607182418800017408 then (w.z / (Q64 : Int)).toNat else 0
/-- what Split tells -/
def splitF (u : Nat) (w : F) : Bool × Nat :=
  if w.k = 4607182418800017408 ∨ u < splitB w then (true, if 0 < splitB w then u * 18446744073709551616 / splitB w else u)
  else (false, if 0 < splitB w then (u - splitB w) * 18446744073709551616 / (18446744073709551616 - splitB w) else u)

theorem splitB_lt (w : F) (h0 : 0 ≤ w.k) : splitB w < 18446744073709551616 ∧ ∀ y : F, w.k < 4607182418800017408 → y.z = w.z * 18446744073709551616 → y.z / S = splitB w := by
  obtain ⟨one, o1, o2⟩ := one_k
  have hz0 : 0 ≤ w.z := nvZ_nonneg h0
  have hQ : (0 : Int) < Q64 := by have := Q64_pos; omega
  have hS := S_Q64
  unfold splitB
  by_cases c : w.k < 4607182418800017408
  · rw [if_pos c]
    have hl : w.z < one.z := F.z_lt.2 (by omega)
    rw [o1, hS] at hl
    have hd : w.z / (Q64 : Int) < 18446744073709551616 := by
      rw [Int.ediv_lt_iff_lt_mul hQ]; rw [Int.natCast_mul] at hl; exact hl
    have hd0 : 0 ≤ w.z / (Q64 : Int) := Int.ediv_nonneg hz0 (by omega)
    refine ⟨by omega, ?_⟩
    intro y _ hy
    rw [hy, hS, Int.natCast_mul, Int.mul_comm w.z]
    have := Int.mul_ediv_mul_of_pos w.z (Q64 : Int) (show (0 : Int) < 18446744073709551616 by omega)
    rw [show ((18446744073709551616 : Nat) : Int) = 18446744073709551616 from rfl, this]
    omega
  · rw [if_neg c]
    exact ⟨by omega, fun y hc => absurd hc c⟩

theorem unitHi_z (u : Nat) (hu : u < 18446744073709551616) (hc : u % 2 ^ unitCut u ≠ 0) : (nextF (unitLo u) true).1.z = (((u / 2 ^ unitCut u + 1) * 2 ^ unitCut u * Q64 : Nat) : Int) := by
  obtain ⟨h1, h2, h3⟩ := unit_m u hu
  have h4 := blen_m h2
  have hlt := unitLo_lt u hu
  have hk := (nextF_up _ hlt).1
  have hc0 : unitCut u ≠ 0 := by
    intro e; rw [e, Nat.pow_zero] at hc; omega
  have hl : (unitLo u).k = (fl (u / 2 ^ unitCut u * 2 ^ ((unitCut u : Int) - 64 + 1074).toNat) : Nat) := by
    unfold unitLo; rw [dy_k (by omega) (by omega)]
  unfold F.z
  rw [hk, hl]
  obtain ⟨t, ht, e⟩ := Q64_pow
  rw [e, show ((unitCut u : Int) - 64 + 1074).toNat = unitCut u + t from by omega]
  generalize unitCut u = c at *
  generalize u / 2 ^ c = m at *
  have hn : P ≤ m := by omega
  have n1 := nv_mk (c + t) m (by omega) (Or.inr hn)
  have n2 := nv_mk (c + t) (m + 1) (by omega) (by omega)
  have f1 : fl (m * 2 ^ (c + t)) = (c + t) * P + m := by rw [← n1, fl_nv]
  rw [f1, show (((c + t) * P + m : Nat) : Int) + 1 = (((c + t) * P + (m + 1) : Nat) : Int) from by omega, nvZ_natCast, n2, Nat.pow_add, Nat.mul_assoc (m + 1)]

theorem scale_trunc {x X : F} {N : Nat} (hx : x.z = ((N * Q64 : Nat) : Int)) (hX : X.z = x.z * 18446744073709551616) : X.z / (S : Int) = N := by
  have hS := S_Q64
  have hQ := Q64_pos
  have hSp := S_pos
  rw [hX, hx]
  have e : ((N * Q64 : Nat) : Int) * 18446744073709551616 = (N : Int) * (S : Int) := by
    rw [hS, Int.natCast_mul, Int.natCast_mul]; grind
  rw [e]
  exact Int.mul_ediv_cancel _ (by omega)

/-- what UnitOf asks of a draw -/
structure UFacts (p : Nat) (x y n X : F) (N : Nat) : Prop where
  of : unitOf p = ⟨x, y⟩
  nx : (nextF x true).1 = n
  nx2 : (nextF x true).2 = 0
  nk : n.k = x.k + 1
  lo : 0 ≤ x.k
  lt : x.k < 4607182418800017408
  hi : y.k ≤ 4607182418800017408
  sc : Sc x X 64
  X0 : 0 ≤ X.k
  XN : X.z / S = N
  NL : N < 18446744073709551616
  cs : (y = x ∧ N = p) ∨ (y = n ∧ N < p ∧ (n.k < 4607182418800017408 → ∃ (Y : F) (M : Nat), Sc n Y 64 ∧ 0 ≤ Y.k ∧ Y.z / S = M ∧ M < 18446744073709551616 ∧ p < M))

theorem unit_facts (p : Nat) (hp : p < 18446744073709551616) : ∃ (x y n X : F) (N : Nat), UFacts p x y n X N := by
  have h1 := unitLo_nonneg p hp
  have h2 := unitLo_lt p hp
  have h3 := unitHi_le p hp
  have h4 := unitLo_z p hp
  have h5 := nextF_up _ h2
  obtain ⟨X, a1, a2, a3⟩ := scale64 (unitLo p) h1 (by omega)
  have hd := Nat.div_add_mod p (2 ^ unitCut p)
  have hm := Nat.mod_lt p (Nat.two_pow_pos (unitCut p))
  rw [Nat.mul_comm] at hd
  refine ⟨unitLo p, (unitOf p).hi, (nextF (unitLo p) true).1, X, p / 2 ^ unitCut p * 2 ^ unitCut p, ?_⟩
  refine ⟨rfl, rfl, h5.2, h5.1, h1, h2, h3, a1, a2, scale_trunc h4 a3, by omega, ?_⟩
  by_cases c : p % 2 ^ unitCut p = 0
  · left
    refine ⟨by unfold unitOf; simp only; rw [if_pos c], by omega⟩
  · right
    have hz := unitHi_z p hp c
    have hh : (unitOf p).hi = (nextF (unitLo p) true).1 := by unfold unitOf; simp only; rw [if_neg c]
    refine ⟨hh, by omega, ?_⟩
    intro hn
    have hn0 : 0 ≤ (nextF (unitLo p) true).1.k := by rw [h5.1]; omega
    obtain ⟨Y, b1, b2, b3⟩ := scale64 (nextF (unitLo p) true).1 hn0 (by omega)
    have e2 : (p / 2 ^ unitCut p + 1) * 2 ^ unitCut p = p / 2 ^ unitCut p * 2 ^ unitCut p + 2 ^ unitCut p := by rw [Nat.add_mul, Nat.one_mul]
    refine ⟨Y, (p / 2 ^ unitCut p + 1) * 2 ^ unitCut p, b1, b2, scale_trunc hz b3, ?_, by omega⟩
    obtain ⟨one, o1, o2⟩ := one_k
    have hl : (nextF (unitLo p) true).1.z < one.z := F.z_lt.2 (by omega)
    rw [hz, o1, S_Q64] at hl
    have hl2 : (p / 2 ^ unitCut p + 1) * 2 ^ unitCut p * Q64 < 18446744073709551616 * Q64 := by omega
    exact Nat.lt_of_mul_lt_mul_right hl2
end Bu
namespace Bu
set_option linter.all false
open Rx

def qSqrt (up : Bool) (a : F) : F × Int := if a.k < 0 then (F.zero, 12) else if a.k = 0 then (F.zero, 0) else dSqrt up a

theorem natq_pos {n : Nat} (h : 0 < n) : (0 : Rat) < (n : Rat) := by have := Rat.natCast_lt_natCast.2 h; simpa using this
theorem natq_nn (n : Nat) : (0 : Rat) ≤ (n : Rat) := by have := Rat.natCast_le_natCast.2 (Nat.zero_le n); simpa using this
/-- what stands behind a root: the number is N by the square of a unit -/
structure SqP (a : F) (x : Nat) (p q : Nat) : Prop where
  root : IsRoot (sqN a) x
  big : 9223372036854775808 ≤ x
  hp : (sqE a / 2 + 1074).toNat = p
  hq : (-(sqE a / 2 + 1074)).toNat = q
  val : sqN a * 2 ^ (2 * p) = mn a * 2 ^ ex a * 2 ^ (2 * q) * 2 ^ 1074
theorem mn_pos' {a : F} (h : 0 < a.k) : mn a ≠ 0 := by
  intro h0
  have := z_parts a
  rw [h0, Nat.zero_mul, show sg a = false from decide_eq_false (by omega)] at this
  have h1 : a.z = 0 := by simpa using this
  have := (z_zero a).1 h1
  omega
theorem sqP {a : F} (h : 0 < a.k) : ∃ x p q, SqP a x p q ∧ root64 (sqN a) = x := by
  have hm := mn_pos' h
  have nb := norm_bounds hm (by have := mn_lt a; omega)
  have hN : 85070591730234615865843651857942052864 ≤ sqN a ∧ sqN a < W128 := by
    have : W128 = 340282366920938463463374607431768211456 := rfl
    unfold sqN divM
    generalize mn a * 2 ^ nlz (mn a) = M at *
    split <;> omega
  have hr := root64_ok hN.2
  refine ⟨_, _, _, ⟨hr, ?_, rfl, rfl, ?_⟩, rfl⟩
  · rcases Nat.lt_or_ge (root64 (sqN a)) 9223372036854775808 with c | c
    · exfalso
      have h1 := hr.lt
      have h2 := Nat.mul_le_mul (show root64 (sqN a) + 1 ≤ 9223372036854775808 from c) (show root64 (sqN a) + 1 ≤ 9223372036854775808 from c)
      omega
    · exact c
  · have he := sqE_even a
    unfold sqN divM
    unfold sqE at he ⊢
    split
    · rename_i ho
      rw [if_pos ho] at he
      rw [show (9223372036854775808 : Nat) = 2 ^ 63 from rfl]
      simp only [Nat.mul_assoc, ← Nat.pow_add]
      congr 2
      omega
    · rename_i ho
      rw [if_neg ho] at he
      rw [show (18446744073709551616 : Nat) = 2 ^ 64 from rfl]
      simp only [Nat.mul_assoc, ← Nat.pow_add]
      congr 2
      omega
theorem blen_63 {x : Nat} (h : 9223372036854775808 ≤ x) : 53 ≤ blen x := by
  have := blen_ge (n := x) (k := 63) (by have e : (2:Nat) ^ 63 = 9223372036854775808 := rfl; omega)
  omega
/-- it is what lies between, wherever there -/
theorem dSqrt_mid {a : F} {x p q : Nat} (h : SqP a x p q) (hx : root64 (sqN a) = x) (up : Bool) (hne : x * x ≠ sqN a) (n d : Nat) (h0 : 0 < n) (h1 : n < d) : dSqrt up a = rndR up (((x * d + n) * 2 ^ p : Nat) : Int) (d * 2 ^ q) := by
  have hq := pow_pos' q
  have hp := pow_pos' p
  unfold dSqrt
  rw [hx, decide_eq_true hne]
  have e1 : x * 2 ^ p * (d * 2 ^ q) = x * d * (2 ^ p * 2 ^ q) := by ac_rfl
  have e2 : (x * d + n) * 2 ^ p * 2 ^ q = (x * d + n) * (2 ^ p * 2 ^ q) := by ac_rfl
  have e3 : (x + 1) * 2 ^ p * (d * 2 ^ q) = (x + 1) * d * (2 ^ p * 2 ^ q) := by ac_rfl
  have hpq : 0 < 2 ^ p * 2 ^ q := Nat.mul_pos hp hq
  have lt1 : x * d < x * d + n := by omega
  have lt2 : x * d + n < (x + 1) * d := by rw [Nat.add_mul]; omega
  refine rndG_eq_rndR (Nat.mul_pos (by omega) hq) ?_ ?_ ?_ (fun _ => blen_63 h.big)
  · rw [h.hp, h.hq, e1, e2]; exact Nat.mul_le_mul_right _ (Nat.le_of_lt lt1)
  · rw [h.hp, h.hq, e2, e3]; exact Nat.mul_lt_mul_of_pos_right lt2 hpq
  · rw [h.hp, h.hq, e1, e2]
    constructor
    · intro _ e
      have := Nat.eq_of_mul_eq_mul_right hpq e
      omega
    · intro _; rfl
theorem dSqrt_eq {a : F} {x p q : Nat} (h : SqP a x p q) (hx : root64 (sqN a) = x) (up : Bool) (he : x * x = sqN a) : dSqrt up a = rndR up ((x * 2 ^ p : Nat) : Int) (2 ^ q) := by
  have hq := pow_pos' q
  have hp := pow_pos' p
  unfold dSqrt
  rw [hx, show decide (x * x ≠ sqN a) = false from decide_eq_false (fun k => k he)]
  refine rndG_eq_rndR hq ?_ ?_ ?_ (fun k => by cases k)
  · rw [h.hp, h.hq]; exact Nat.le_refl _
  · rw [h.hp, h.hq, Nat.add_mul, Nat.add_mul]
    have := Nat.mul_pos (show 0 < 1 * 2 ^ p by omega) hq
    omega
  · rw [h.hp, h.hq]
    exact ⟨fun k => (by cases k), fun k => absurd rfl k⟩
/-- the unit -/
def un (p q : Nat) : Rat := ((2 ^ p : Nat) : Rat) / ((S : Rat) * ((2 ^ q : Nat) : Rat))
theorem un_pos (p q : Nat) : 0 < un p q := by
  have h1 := pow_q p
  have h2 := Rat.mul_pos S_gt (pow_q q)
  unfold un
  rw [Rat.div_def]
  exact Rat.mul_pos h1 (Rat.inv_pos.2 h2)
theorem un_val {a : F} {x p q : Nat} (h : SqP a x p q) (ha : 0 < a.k) : a.q = ((sqN a : Nat) : Rat) * (un p q * un p q) := by
  have hz : a.z = ((mn a * 2 ^ ex a : Nat) : Int) := by rw [z_parts, show sg a = false from decide_eq_false (by omega)]; rfl
  have e : ((sqN a * 2 ^ (2 * p) : Nat) : Rat) = ((mn a * 2 ^ ex a * 2 ^ (2 * q) * 2 ^ 1074 : Nat) : Rat) := by rw [h.val]
  have e2 : (2 ^ 1074 : Nat) = S := S_eq.symm
  rw [e2, Nat.mul_comm 2 p, Nat.mul_comm 2 q, Nat.pow_mul, Nat.pow_mul, Nat.pow_two, Nat.pow_two] at e
  have e3 : (2 ^ p) * (2 ^ p) = (2 ^ p * 2 ^ p : Nat) := rfl
  have hm := F.q_mul a
  rw [hz, Rat.intCast_natCast, Rat.natCast_mul] at hm
  rw [Rat.natCast_mul, Rat.natCast_mul, Rat.natCast_mul, Rat.natCast_mul, Rat.natCast_mul, ← hm, Rat.natCast_mul] at e
  have hS := S_ne
  have hq := pow_q q
  unfold un
  generalize ((2 ^ p : Nat) : Rat) = u at *
  generalize ((2 ^ q : Nat) : Rat) = v at *
  generalize (S : Rat) = s at *
  generalize ((sqN a : Nat) : Rat) = N at *
  generalize a.q = y at *
  grind
theorem mid_v (x n d p q : Nat) (hd : 0 < d) : ((((x * d + n) * 2 ^ p : Nat) : Int) : Rat) / ((S : Rat) * ((d * 2 ^ q : Nat) : Rat)) = ((x : Rat) + (n : Rat) / (d : Rat)) * un p q := by
  have hS := S_ne
  have hq := pow_q q
  have hd' := natq_pos hd
  unfold un
  rw [Rat.intCast_natCast, Rat.natCast_mul, Rat.natCast_add, Rat.natCast_mul, Rat.natCast_mul]
  generalize ((2 ^ p : Nat) : Rat) = u at *
  generalize ((2 ^ q : Nat) : Rat) = v at *
  generalize (S : Rat) = s at *
  generalize (x : Rat) = a at *
  generalize (n : Rat) = b at *
  generalize (d : Rat) = c at *
  grind
theorem eq_v (x p q : Nat) : (((x * 2 ^ p : Nat) : Int) : Rat) / ((S : Rat) * ((2 ^ q : Nat) : Rat)) = (x : Rat) * un p q := by
  unfold un
  rw [Rat.intCast_natCast, Rat.natCast_mul, Rat.div_def, Rat.div_def, Rat.mul_assoc]
theorem arch {δ : Rat} (h : 0 < δ) : ∃ d : Nat, 2 ≤ d ∧ 1 ≤ (d : Rat) * δ := by
  have h1 := Rat.lt_floor_add_one (1 / δ)
  have e : 1 / δ * δ = 1 := Rat.div_mul_cancel (by grind)
  have h0 : 0 ≤ 1 / δ := by rw [Rat.div_def]; exact Rat.mul_nonneg (by grind) (Rat.le_of_lt (Rat.inv_pos.2 h))
  have hf : (0 : Int) ≤ (1 / δ).floor := Rat.le_floor_iff.2 (by simpa using h0)
  obtain ⟨k, hk⟩ := Int.eq_ofNat_of_zero_le hf
  refine ⟨k + 2, by omega, ?_⟩
  rw [hk] at h1
  have e2 : (((k : Int) + 1 : Int) : Rat) = (k : Rat) + 1 := by rw [Rat.intCast_add, Rat.intCast_natCast]; rfl
  rw [e2] at h1
  rw [Rat.natCast_add, show ((2 : Nat) : Rat) = 2 from rfl]
  have k1 := Rat.mul_nonneg (Rat.le_of_lt h) (show 0 ≤ (k : Rat) + 1 - 1 / δ by grind)
  grind
theorem sq_lt {x y : Rat} (hx : 0 ≤ x) (hy : 0 ≤ y) (h : x * x < y * y) : x < y := by
  apply Rat.not_le.1
  intro g
  have := Rat.mul_nonneg (show 0 ≤ x - y by grind) (show 0 ≤ x + y by grind)
  grind
theorem sq_le' {x y : Rat} (hx : 0 ≤ x) (hy : 0 ≤ y) (h : x * x ≤ y * y) : x ≤ y := by
  apply Rat.not_lt.1
  intro g
  have := Rat.mul_pos (show 0 < x - y by grind) (show 0 < x + y by grind)
  grind
/-- the root, down, and up -/
structure SqD (r a : F) : Prop where
  nn : 0 ≤ r.q
  le : r.q * r.q ≤ a.q
  top : ∀ c : F, 0 ≤ c.q → c.q * c.q ≤ a.q → c.q ≤ r.q
structure SqU (r a : F) : Prop where
  nn : 0 ≤ r.q
  ge : a.q ≤ r.q * r.q
  bot : ∀ c : F, 0 ≤ c.q → a.q ≤ c.q * c.q → r.q ≤ c.q
/-- the root of all numbers' bound -/
def E512 : Nat := 2 ^ 512
def E1024 : Nat := 2 ^ 1024
def MB : Rat := (E512 : Rat)
theorem E_sq : decide (E1024 = E512 * E512 ∧ 0 < E512) = true := by decide +kernel
set_option maxRecDepth 100000 in
theorem max_zB : decide (F.max.z ≤ ((E1024 * S : Nat) : Int)) = true := by decide +kernel
def hugeF : F := F.of ((1536 * 4503599627370496 : Nat) : Int)
set_option maxRecDepth 100000 in
theorem huge_z : decide (hugeF.z = ((2 * E512 * S : Nat) : Int)) = true := by decide +kernel
attribute [irreducible] E512 E1024
theorem F_le (a : F) : a.q ≤ MB * MB := by
  have hT := T_num
  have h1 : a.q ≤ F.max.q := q_le.2 (by have := a.hk; rw [F.max_k]; omega)
  refine Rat.le_trans h1 ?_
  refine Rat.le_of_mul_le_mul_right (c := (S : Rat)) ?_ S_gt
  rw [F.q_mul]
  have h2 := Rat.intCast_le_intCast.2 (of_decide_eq_true max_zB)
  have h3 : (E1024 : Rat) = MB * MB := by unfold MB; rw [← Rat.natCast_mul, ← (of_decide_eq_true E_sq).1]
  rw [← h3, ← Rat.natCast_mul]
  exact h2
theorem huge_q : hugeF.q = 2 * MB := by
  have h := F.q_mul hugeF
  rw [of_decide_eq_true huge_z] at h
  have h2 : (((2 * E512 * S : Nat) : Int) : Rat) = 2 * MB * (S : Rat) := by
    unfold MB
    rw [Rat.intCast_natCast, Rat.natCast_mul, Rat.natCast_mul]; rfl
  rw [h2] at h
  have hs := S_gt
  generalize (S : Rat) = s at *
  generalize MB = m at *
  have e : (hugeF.q - 2 * m) * s = 0 := by grind
  rcases Rat.mul_eq_zero.1 e with e | e
  · grind
  · grind
theorem MB_pos : 0 < MB := by
  have h := Rat.natCast_lt_natCast.2 (of_decide_eq_true E_sq).2
  exact h
theorem sqrt_gen {a : F} (ha : 0 < a.k) : (∃ r, dSqrt false a = (r, 0) ∧ SqD r a) ∧ ∃ r, dSqrt true a = (r, 0) ∧ SqU r a := by
  obtain ⟨x, p, q, h, hx⟩ := sqP ha
  have hw := un_pos p q
  have hv := un_val h ha
  have eN : ∀ n m : Nat, n ≤ m → (n : Rat) ≤ (m : Rat) := fun n m g => Rat.natCast_le_natCast.2 g
  have r1 := eN _ _ h.root.le
  have r2 : ((sqN a : Nat) : Rat) < ((((x + 1) * (x + 1) : Nat)) : Rat) := Rat.natCast_lt_natCast.2 h.root.lt
  rw [Rat.natCast_mul] at r1
  rw [Rat.natCast_mul, Rat.natCast_add, show ((1 : Nat) : Rat) = 1 from rfl] at r2
  have x1 : (1 : Rat) ≤ (x : Rat) := by have := eN 1 x (by have := h.big; omega); simpa using this
  obtain ⟨big, hbig⟩ : ∃ c : F, c.q = 2 * MB := ⟨hugeF, huge_q⟩
  have hs := F_le a
  have hMB := MB_pos
  generalize MB = mb at *
  have hwv := Rat.mul_pos hw hw
  have xw : (x : Rat) * un p q ≤ mb := by
    refine sq_le' (Rat.mul_nonneg (by grind) (Rat.le_of_lt hw)) (by grind) ?_
    have := Rat.mul_nonneg (show 0 ≤ ((sqN a : Nat) : Rat) - (x : Rat) * (x : Rat) by grind) (Rat.le_of_lt hwv)
    grind
  have wx := Rat.mul_nonneg (show 0 ≤ (x : Rat) - 1 by grind) (Rat.le_of_lt hw)
  by_cases he : x * x = sqN a
  · -- a square
    have f1 := dSqrt_eq h hx false he
    have f2 := dSqrt_eq h hx true he
    have hn : ((sqN a : Nat) : Rat) = (x : Rat) * (x : Rat) := by rw [← he, Rat.natCast_mul]
    have v0 : 0 ≤ (x : Rat) * un p q := Rat.mul_nonneg (by grind) (Rat.le_of_lt hw)
    obtain ⟨r, g1, g2⟩ := rndR_dn (A := ((x * 2 ^ p : Nat) : Int)) (B := 2 ^ q) (pow_pos' q) (eq_v x p q) F.zero (by rw [q_zero]; exact v0)
    obtain ⟨s, g3, g4⟩ := rndR_up (A := ((x * 2 ^ p : Nat) : Int)) (B := 2 ^ q) (pow_pos' q) (eq_v x p q) big (by rw [hbig]; grind)
    have av : a.q = ((x : Rat) * un p q) * ((x : Rat) * un p q) := by rw [hv, hn]; grind
    generalize (x : Rat) * un p q = v at *
    refine ⟨⟨r, by rw [f1, g1], ?_, ?_, ?_⟩, ⟨s, by rw [f2, g3], ?_, ?_, ?_⟩⟩
    · rw [← q_zero]; exact g2.top F.zero (by rw [q_zero]; exact v0)
    · have r0 : 0 ≤ r.q := by rw [← q_zero]; exact g2.top F.zero (by rw [q_zero]; exact v0)
      have := g2.le
      rw [av]; exact sq_bd (by grind) this
    · intro c c0 hc
      exact g2.top c (sq_le' c0 v0 (by rw [← av]; exact hc))
    · have := g4.ge; grind
    · have := g4.ge
      rw [av]; exact sq_bd (by grind) this
    · intro c c0 hc
      exact g4.bot c (sq_le' v0 c0 (by rw [← av]; exact hc))
  · -- between
    have mid : ∀ (up : Bool) (n d : Nat), 0 < n → n < d → dSqrt up a = rndR up (((x * d + n) * 2 ^ p : Nat) : Int) (d * 2 ^ q) := fun up n d => dSqrt_mid h hx up he n d
    have dn : ∀ n d : Nat, 0 < n → n < d → ∃ r, dSqrt false a = (r, 0) ∧ Dn r (((x : Rat) + (n : Rat) / (d : Rat)) * un p q) := by
      intro n d h0 h1
      have hd := natq_pos (show 0 < d by omega)
      have hnd : 0 ≤ (n : Rat) / (d : Rat) := by rw [Rat.div_def]; exact Rat.mul_nonneg (natq_nn n) (Rat.le_of_lt (Rat.inv_pos.2 hd))
      obtain ⟨r, g1, g2⟩ := rndR_dn (A := (((x * d + n) * 2 ^ p : Nat) : Int)) (B := d * 2 ^ q) (Nat.mul_pos (by omega) (pow_pos' q)) (mid_v x n d p q (by omega)) F.zero (by rw [q_zero]; exact Rat.mul_nonneg (by grind) (Rat.le_of_lt hw))
      exact ⟨r, by rw [mid false n d h0 h1, g1], g2⟩
    have up : ∀ n d : Nat, 0 < n → n < d → ∃ r, dSqrt true a = (r, 0) ∧ Up r (((x : Rat) + (n : Rat) / (d : Rat)) * un p q) := by
      intro n d h0 h1
      have hd := natq_pos (show 0 < d by omega)
      have hnd : (n : Rat) / (d : Rat) ≤ 1 := by
        have e : (n : Rat) / (d : Rat) * (d : Rat) = (n : Rat) := Rat.div_mul_cancel (by grind)
        have := eN n d (by omega)
        refine Rat.le_of_mul_le_mul_right (c := (d : Rat)) ?_ hd
        rw [e]; grind
      have k := Rat.mul_nonneg (show 0 ≤ 1 - (n : Rat) / (d : Rat) by grind) (Rat.le_of_lt hw)
      obtain ⟨r, g1, g2⟩ := rndR_up (A := (((x * d + n) * 2 ^ p : Nat) : Int)) (B := d * 2 ^ q) (Nat.mul_pos (by omega) (pow_pos' q)) (mid_v x n d p q (by omega)) big (by rw [hbig]; grind)
      exact ⟨r, by rw [mid true n d h0 h1, g1], g2⟩
    obtain ⟨r, e1, _⟩ := dn 1 2 (by omega) (by omega)
    obtain ⟨s, e2, s2⟩ := up 1 2 (by omega) (by omega)
    have dn' : ∀ n d : Nat, 0 < n → n < d → Dn r (((x : Rat) + (n : Rat) / (d : Rat)) * un p q) := by
      intro n d h0 h1
      obtain ⟨r', g1, g2⟩ := dn n d h0 h1
      rw [e1] at g1
      rw [(Prod.mk.inj g1).1]; exact g2
    have up' : ∀ n d : Nat, 0 < n → n < d → Up s (((x : Rat) + (n : Rat) / (d : Rat)) * un p q) := by
      intro n d h0 h1
      obtain ⟨r', g1, g2⟩ := up n d h0 h1
      rw [e2] at g1
      rw [(Prod.mk.inj g1).1]; exact g2
    have divd : ∀ d : Nat, 2 ≤ d → ((d - 1 : Nat) : Rat) / (d : Rat) = 1 - 1 / (d : Rat) ∧ 0 < (d : Rat) := by
      intro d hd
      have h0 := natq_pos (show 0 < d by omega)
      have e : ((d - 1 : Nat) : Rat) + 1 = (d : Rat) := by rw [show (1 : Rat) = ((1 : Nat) : Rat) from rfl, ← Rat.natCast_add, show d - 1 + 1 = d from by omega]
      refine ⟨?_, h0⟩
      generalize ((d - 1 : Nat) : Rat) = y at *
      generalize (d : Rat) = z at *
      grind
    have one_d : ((1 : Nat) : Rat) = 1 := rfl
    have hlt : (x : Rat) * (x : Rat) < ((sqN a : Nat) : Rat) := by
      have : x * x < sqN a := Nat.lt_of_le_of_ne h.root.le he
      have := Rat.natCast_lt_natCast.2 this
      rwa [Rat.natCast_mul] at this
    have a_lo : (x : Rat) * un p q * ((x : Rat) * un p q) < a.q := by
      rw [hv]
      have := Rat.mul_pos (show 0 < ((sqN a : Nat) : Rat) - (x : Rat) * (x : Rat) by grind) hwv
      grind
    have a_hi : a.q < ((x : Rat) + 1) * un p q * (((x : Rat) + 1) * un p q) := by
      rw [hv]
      have := Rat.mul_pos (show 0 < ((x : Rat) + 1) * ((x : Rat) + 1) - ((sqN a : Nat) : Rat) by grind) hwv
      grind
    have x0 : 0 ≤ (x : Rat) * un p q := Rat.mul_nonneg (by grind) (Rat.le_of_lt hw)
    have x2 : 0 ≤ ((x : Rat) + 1) * un p q := Rat.mul_nonneg (by grind) (Rat.le_of_lt hw)
    have r0 : 0 ≤ r.q := by
      rw [← q_zero]; exact (dn' 1 2 (by omega) (by omega)).top F.zero (by rw [q_zero]; exact Rat.mul_nonneg (by rw [one_d]; grind) (Rat.le_of_lt hw))
    -- near to below
    have near1 : ∀ y : Rat, (x : Rat) * un p q < y → ∃ d : Nat, 2 ≤ d ∧ ((x : Rat) + ((1 : Nat) : Rat) / (d : Rat)) * un p q ≤ y := by
      intro y hy
      have hδ : 0 < (y - (x : Rat) * un p q) / un p q := by rw [Rat.div_def]; exact Rat.mul_pos (by grind) (Rat.inv_pos.2 hw)
      obtain ⟨d, d1, d2⟩ := arch hδ
      have d0 := (divd d d1).2
      refine ⟨d, d1, ?_⟩
      have e : (y - (x : Rat) * un p q) / un p q * un p q = y - (x : Rat) * un p q := Rat.div_mul_cancel (by grind)
      generalize (y - (x : Rat) * un p q) / un p q = δ at *
      have e3 : (1 : Rat) / (d : Rat) * (d : Rat) = 1 := Rat.div_mul_cancel (by grind)
      have k1 : (1 : Rat) / (d : Rat) ≤ δ := by
        refine Rat.le_of_mul_le_mul_right (c := (d : Rat)) ?_ d0
        rw [e3]; grind
      rw [one_d]
      have := Rat.mul_nonneg (show 0 ≤ δ - 1 / (d : Rat) by grind) (Rat.le_of_lt hw)
      grind
    have near2 : ∀ y : Rat, y < ((x : Rat) + 1) * un p q → ∃ d : Nat, 2 ≤ d ∧ y ≤ ((x : Rat) + ((d - 1 : Nat) : Rat) / (d : Rat)) * un p q := by
      intro y hy
      have hδ : 0 < (((x : Rat) + 1) * un p q - y) / un p q := by rw [Rat.div_def]; exact Rat.mul_pos (by grind) (Rat.inv_pos.2 hw)
      obtain ⟨d, d1, d2⟩ := arch hδ
      obtain ⟨dd, d0⟩ := divd d d1
      refine ⟨d, d1, ?_⟩
      have e : (((x : Rat) + 1) * un p q - y) / un p q * un p q = ((x : Rat) + 1) * un p q - y := Rat.div_mul_cancel (by grind)
      generalize (((x : Rat) + 1) * un p q - y) / un p q = δ at *
      have e3 : (1 : Rat) / (d : Rat) * (d : Rat) = 1 := Rat.div_mul_cancel (by grind)
      have k1 : (1 : Rat) / (d : Rat) ≤ δ := by
        refine Rat.le_of_mul_le_mul_right (c := (d : Rat)) ?_ d0
        rw [e3]; grind
      rw [dd]
      have := Rat.mul_nonneg (show 0 ≤ δ - 1 / (d : Rat) by grind) (Rat.le_of_lt hw)
      grind
    have r3 : r.q ≤ (x : Rat) * un p q := by
      apply Rat.not_lt.1
      intro g
      obtain ⟨d, d1, d2⟩ := near1 ((r.q + (x : Rat) * un p q) / 2) (by grind)
      have := (dn' 1 d (by omega) (by omega)).le
      grind
    have s3 : ((x : Rat) + 1) * un p q ≤ s.q := by
      apply Rat.not_lt.1
      intro g
      obtain ⟨d, d1, d2⟩ := near2 ((s.q + ((x : Rat) + 1) * un p q) / 2) (by grind)
      have := (up' (d - 1) d (by omega) (by omega)).ge
      grind
    refine ⟨⟨r, e1, r0, ?_, ?_⟩, ⟨s, e2, by grind, ?_, ?_⟩⟩
    · have := sq_bd (x := r.q) (m := (x : Rat) * un p q) (by grind) r3
      grind
    · intro c c0 hc
      have hlt := sq_lt c0 x2 (by grind)
      obtain ⟨d, d1, d2⟩ := near2 c.q hlt
      exact (dn' (d - 1) d (by omega) (by omega)).top c d2
    · have := sq_bd (x := ((x : Rat) + 1) * un p q) (m := s.q) (by grind) s3
      grind
    · intro c c0 hc
      have hlt := sq_lt x0 c0 (by grind)
      obtain ⟨d, d1, d2⟩ := near1 c.q hlt
      exact (up' 1 d (by omega) (by omega)).bot c d2
end Bu
namespace Bu
set_option linter.all false
open Rx Go

def unI (n : Int) : I := ⟨(unitOf n.toNat).lo, (unitOf n.toNat).hi⟩
def kOf (g : Int → I) (u : Int → Bool) : List SV → Dec → Option (SV × Dec × Obs)
  | [x], ds => match intS x with
    | some (.u64, n) => some (.agg [.fl (g n).lo, .fl (g n).hi], ds, [(u n, true)])
    | _ => none
  | _, _ => none
/-- names for what a draw asks -/
structure Kq where
  ib : I → Bool
  si : I → I
  co : I → I
  uo : Int → I
  u : Int → Bool
  sqrt : Int → I → I × Int
  mul : Int → I → I → I × Int
  sub : Int → I → I → I × Int
  max : Int → I → I → I × Int
  num : Int → F → I × Int
def dR (N : Kq) (a : Int) : I × Int := N.sqrt 0 (N.uo a)
def dX (N : Kq) (a b : Int) : I × Int := N.mul (dR N a).2 (dR N a).1 (N.co (N.uo b))
def dY (N : Kq) (a b : Int) : I × Int := N.mul (dX N a b).2 (dR N a).1 (N.si (N.uo b))
def dO (N : Kq) (a b : Int) : I × Int := N.num (dY N a b).2 one64
def dD (N : Kq) (a b : Int) : I × Int := N.sub (dO N a b).2 (dO N a b).1 (N.uo a)
def dN (N : Kq) (a b : Int) : I × Int := N.num (dD N a b).2 (toF 0)
def dM (N : Kq) (a b : Int) : I × Int := N.max (dN N a b).2 (dD N a b).1 (dN N a b).1
def dZ (N : Kq) (a b : Int) : I × Int := N.sqrt (dM N a b).2 (dM N a b).1
def keptI (a : I) (l h : F) : I := ⟨mnF (mxF a.lo l) h, mnF (mxF a.hi l) h⟩
def dV (N : Kq) (a b : Int) : I × I × I := (keptI (dX N a b).1 mone64 one64, keptI (dY N a b).1 mone64 one64, keptI (dZ N a b).1 (toF 0) one64)
def KqR (f : F → I × I) : Kq := ⟨fun u => inB u.lo u.hi, fun u => sinM f u.lo u.hi, fun u => cosM f u.lo u.hi, unI, fun n => decide (0 ≤ n ∧ n ≤ 18446744073709551615), cSqrt qSqrt, KTR.mul, KTR.sub, cMax, KTR.num⟩

theorem qSqrt_gen {a : F} (h0 : 0 ≤ a.q) : (∃ r, qSqrt false a = (r, 0) ∧ SqD r a) ∧ ∃ r, qSqrt true a = (r, 0) ∧ SqU r a := by
  have hk : 0 ≤ a.k := by have := q_le.1 (show F.zero.q ≤ a.q by rw [q_zero]; exact h0); exact this
  unfold qSqrt
  have hk' : ¬ a.k < 0 := by omega
  simp only [if_neg hk']
  by_cases hz : a.k = 0
  · simp only [if_pos hz]
    have ha : a = F.zero := F.ext' hz
    subst ha
    refine ⟨⟨F.zero, rfl, ?_, ?_, ?_⟩, ⟨F.zero, rfl, ?_, ?_, ?_⟩⟩
    · rw [q_zero]; exact Rat.le_refl
    · rw [q_zero]; grind
    · intro c c0 hc
      rw [q_zero] at hc ⊢
      exact sq_le' c0 Rat.le_refl (by grind)
    · rw [q_zero]; exact Rat.le_refl
    · rw [q_zero]; grind
    · intro c c0 _
      rw [q_zero]; exact c0
  · simp only [if_neg hz]
    exact sqrt_gen (by omega)
theorem qSqrt_ok {a : F} (h0 : 0 ≤ a.q) (_ : a.q ≤ 67108864) : (∃ r, qSqrt false a = (r, 0) ∧ SqD r a) ∧ ∃ r, qSqrt true a = (r, 0) ∧ SqU r a := qSqrt_gen h0
/-- roots of what is within 0 and 1 -/
theorem csqrt_ok {a : I} (ha : U01 a) : ∃ r, cSqrt qSqrt 0 a = (r, 0) ∧ U01 r ∧ SqD r.lo a.lo ∧ SqU r.hi a.hi := by
  have h1 := ha.lo; have h2 := ha.rt; have h3 := ha.hi
  obtain ⟨l, e1, l1⟩ := (qSqrt_ok h1 (by grind)).1
  obtain ⟨h, e2, l2⟩ := (qSqrt_ok (a := a.hi) (by grind) (by grind)).2
  refine ⟨⟨l, h⟩, ?_, ⟨l1.nn, ?_, ?_⟩, l1, l2⟩
  · unfold cSqrt
    rw [e1, e2, ends_ok, ask_ok (rt_q h2) rfl]
  · have := l1.le; have := l2.ge
    exact sq_le' l1.nn l2.nn (by grind)
  · rw [← one_q]; exact l2.bot one64 (by rw [one_q]; grind) (by rw [one_q]; grind)
theorem one_k2 : one64.k = 4607182418800017408 := one64_k
theorem unI_U (n : Int) (h0 : 0 ≤ n) (h1 : n ≤ 18446744073709551615) : U01 (unI n) := by
  have hn : n.toNat < 18446744073709551616 := by omega
  have a1 := unitLo_nonneg n.toNat hn
  have a2 := unitHi_le n.toNat hn
  have a3 := unitLo_k n.toNat hn
  have a4 := unitHi_k n.toNat hn
  refine ⟨?_, ?_, ?_⟩
  · rw [← q_zero]; exact q_le.2 a1
  · refine q_le.2 ?_
    show (unitLo n.toNat).k ≤ (unitOf n.toNat).hi.k
    rw [a3, a4]
    have e1 := (le_flI (k := flI ((n.toNat * Q64 : Nat) : Int) 1) (A := ((n.toNat * Q64 : Nat) : Int)) (B := 1) (by omega)).1 (Int.le_refl _)
    have e2 := (ceI_le (k := ceI ((n.toNat * Q64 : Nat) : Int) 1) (A := ((n.toNat * Q64 : Nat) : Int)) (B := 1) (by omega)).1 (Int.le_refl _)
    exact nvZ_le_iff.1 (by omega)
  · rw [← one_q]; exact q_le.2 (by rw [one_k2]; exact a2)
theorem unI_in (n : Int) (h0 : 0 ≤ n) (h1 : n ≤ 18446744073709551615) : inB (unI n).lo (unI n).hi = true := by
  obtain ⟨u1, u2, u3⟩ := unI_U n h0 h1
  unfold inB
  have z : (toF 0).q = 0 := consts.2.2.2.2.2.2.2
  rw [rt_q (a := ⟨(unI n).lo, (unI n).hi⟩) u2, decide_eq_true (q_le.1 (by rw [z]; exact u1)), decide_eq_true (q_le.1 (by rw [one_q]; exact u3))]; rfl
theorem unI_mono {a b : Int} (h0 : 0 ≤ a) (h : a ≤ b) (h1 : b ≤ 18446744073709551615) : (unI a).lo.q ≤ (unI b).lo.q ∧ (unI a).hi.q ≤ (unI b).hi.q := by
  have := unit_mono (u := a.toNat) (v := b.toNat) (by omega) (by omega)
  exact ⟨q_le.2 this.1, q_le.2 this.2⟩

/-- what a draw comes to -/
structure DrawF (a b : Int) where
  r : I
  x : I
  y : I
  d : I
  z : I
structure DrawP (a b : Int) (D : DrawF a b) : Prop where
  er : dR (KqR atR) a = (D.r, 0)
  ex : dX (KqR atR) a b = (D.x, 0)
  ey : dY (KqR atR) a b = (D.y, 0)
  ed : dD (KqR atR) a b = (D.d, 0)
  ez : dZ (KqR atR) a b = (D.z, 0)
  ru : U01 D.r
  du : U01 D.d
  zu : U01 D.z
  r1 : SqD D.r.lo (unI a).lo
  r2 : SqU D.r.hi (unI a).hi
  d1 : Dn D.d.lo (1 - (unI a).hi.q)
  d2 : Up D.d.hi (1 - (unI a).lo.q)
  z1 : SqD D.z.lo D.d.lo
  z2 : SqU D.z.hi D.d.hi
  mx : AllR D.x (D.r.lo.q * (cosM atR (unI b).lo (unI b).hi).lo.q) (D.r.lo.q * (cosM atR (unI b).lo (unI b).hi).hi.q) (D.r.hi.q * (cosM atR (unI b).lo (unI b).hi).lo.q) (D.r.hi.q * (cosM atR (unI b).lo (unI b).hi).hi.q)
  my : AllR D.y (D.r.lo.q * (sinM atR (unI b).lo (unI b).hi).lo.q) (D.r.lo.q * (sinM atR (unI b).lo (unI b).hi).hi.q) (D.r.hi.q * (sinM atR (unI b).lo (unI b).hi).lo.q) (D.r.hi.q * (sinM atR (unI b).lo (unI b).hi).hi.q)
theorem zero0_q : (toF 0).q = 0 := consts.2.2.2.2.2.2.2
theorem draw_ok {a b : Int} (h0 : 0 ≤ a) (h1 : a ≤ 18446744073709551615) : ∃ D : DrawF a b, DrawP a b D := by
  have hu := unI_U a h0 h1
  have u1 := hu.lo; have u2 := hu.rt; have u3 := hu.hi
  obtain ⟨r, e1, ru, r1, r2⟩ := csqrt_ok hu
  obtain ⟨x, e2, hx⟩ := cMul_ok ru.sm (cosM_in (unI b).lo (unI b).hi).sm
  obtain ⟨y, e3, hy⟩ := cMul_ok ru.sm (sinM_in (unI b).lo (unI b).hi).sm
  have oU : U01 ⟨one64, one64⟩ := ⟨by show 0 ≤ one64.q; rw [one_q]; grind, Rat.le_refl, by show one64.q ≤ 1; rw [one_q]; exact Rat.le_refl⟩
  obtain ⟨d, e4, d1, d2⟩ := cSub_ok oU.sm hu.sm
  simp only [one_q] at d1 d2
  have dU : U01 d := by
    refine ⟨?_, ?_, ?_⟩
    · rw [← q_zero]; exact d1.top F.zero (by rw [q_zero]; grind)
    · have := d1.le; have := d2.ge; grind
    · rw [← one_q]; exact d2.bot one64 (by rw [one_q]; grind)
  have d3 := dU.lo; have d4 := dU.rt
  have hz : ∀ x : F, 0 ≤ x.q → mxF x (toF 0) = x := by
    intro x hx
    have := q_le.1 (show (toF 0).q ≤ x.q by rw [zero0_q]; exact hx)
    unfold mxF; rw [if_neg (by omega)]
  have e5 : cMax 0 d ⟨toF 0, toF 0⟩ = (d, 0) := by
    unfold cMax
    rw [ask_ok (by rw [rt_q d4, show Bu.rt ⟨toF 0, toF 0⟩ = true from decide_eq_true (Int.le_refl _)]; rfl) rfl]
    unfold maxI
    simp only [hz _ d3, hz d.hi (by grind)]
  obtain ⟨z, e6, zu, z1, z2⟩ := csqrt_ok dU
  have f1 : dR (KqR atR) a = (r, 0) := e1
  have f2 : dX (KqR atR) a b = (x, 0) := by unfold dX; simp only [f1]; exact e2
  have f3 : dY (KqR atR) a b = (y, 0) := by unfold dY; simp only [f1, f2]; exact e3
  have f4 : dO (KqR atR) a b = (⟨one64, one64⟩, 0) := by unfold dO; simp only [f3]; exact cNum_ok one64
  have f5 : dD (KqR atR) a b = (d, 0) := by unfold dD; simp only [f4]; exact e4
  have f6 : dN (KqR atR) a b = (⟨toF 0, toF 0⟩, 0) := by unfold dN; simp only [f5]; exact cNum_ok (toF 0)
  have f7 : dM (KqR atR) a b = (d, 0) := by unfold dM; simp only [f5, f6]; exact e5
  have f8 : dZ (KqR atR) a b = (z, 0) := by unfold dZ; simp only [f7]; exact e6
  exact ⟨⟨r, x, y, d, z⟩, ⟨f1, f2, f3, f5, f8, ru, dU, zu, r1, r2, d1, d2, z1, z2, hx, hy⟩⟩
end Bu
namespace Bu
set_option linter.all false
open Rx Go

def midI (a b : F) : F := (dAdd false a (dMul false q2 (dSub false b a).1).1).1
def midM (a b c d e f : F) : F × F × F := (midI a b, midI c d, midI e f)
def tw (n : Nat) : F := toF ((Ieee.double.add (toF n).b (toF 0).b).getD 0)
def rt3 (a b c d e f : F) : Bool := rt ⟨a, b⟩ && (rt ⟨c, d⟩ && rt ⟨e, f⟩)
def kMid (p : F → F → F → F → F → F → Bool) (md : F → F → F → F → F → F → F × F × F) : List SV → Dec → Option (SV × Dec × Obs)
  | [.agg [.fl a, .fl b, .fl c, .fl d, .fl e, .fl f]], ds => (takeB ds (p a b c d e f)).map fun r => (bif r.1 then .tup [.agg [.fl (md a b c d e f).1, .fl (md a b c d e f).2.1, .fl (md a b c d e f).2.2], .i .i64 0] else .tup [.agg [.fl F.zero, .fl F.zero, .fl F.zero], .i .i64 20], r.2.1, r.2.2)
  | _, _ => none
def aw12 (p : F → F → F → F → F → F → Bool) (md : F → F → F → F → F → F → F × F × F) (dv : Int → Int → I × I × I) (u : Int → Bool) : Obs :=
  [(decide ((md (toF 0) one64 (tw 4611686018427387904) (tw 4611686018427387904) mone64 (toF 0)).1.k = q2.k) && (decide ((md (toF 0) one64 (tw 4611686018427387904) (tw 4611686018427387904) mone64 (toF 0)).2.1.k = (toF 4611686018427387904).k) && (decide ((md (toF 0) one64 (tw 4611686018427387904) (tw 4611686018427387904) mone64 (toF 0)).2.2.k = (toF 13826050856027422720).k) && true)), true),
   (decide ((toF 0).k ≤ (dv 9223372036854775808 0).2.1.hi.k), true), (decide ((dv 9223372036854775808 0).2.1.lo.k ≤ (toF 0).k), true),
   (decide ((dv 9223372036854775808 0).2.2.hi.k ≤ (toF 4604544271225129117).k), true), (decide ((toF 4604544271216121918).k ≤ (dv 9223372036854775808 0).2.2.lo.k), true),
   (decide ((dv 9223372036854775808 0).1.hi.k ≤ (toF 4604544271225129117).k), true), (decide ((toF 4604544271216121918).k ≤ (dv 9223372036854775808 0).1.lo.k), true),
   (decide ((dv 0 0).1.hi.k < (toF 4427038433705197568).k), true), (decide ((toF 0).k ≤ (dv 0 0).1.hi.k), true), (decide ((dv 0 0).1.lo.k ≤ (toF 0).k), true),
   (decide ((dv 0 0).2.2.lo.k = (tw 4607182418800017408).k) && (decide ((dv 0 0).2.2.hi.k = (tw 4607182418800017408).k) && true), true),
   (true, true), (true, true), (true, true), (true, true), (p (toF 0) one64 (tw 4611686018427387904) (tw 4611686018427387904) mone64 (toF 0), true), (true, true), (true, true), (true, true), (true, true), (u 9223372036854775808, true), (u 0, true), (u 0, true), (u 0, true)]
def uB (n : Int) : Bool := decide (0 ≤ n ∧ n ≤ 18446744073709551615)
set_option maxRecDepth 100000 in
theorem aw12_a : (decide ((midM (toF 0) one64 (tw 4611686018427387904) (tw 4611686018427387904) mone64 (toF 0)).1.k = q2.k) && (decide ((midM (toF 0) one64 (tw 4611686018427387904) (tw 4611686018427387904) mone64 (toF 0)).2.1.k = (toF 4611686018427387904).k) && (decide ((midM (toF 0) one64 (tw 4611686018427387904) (tw 4611686018427387904) mone64 (toF 0)).2.2.k = (toF 13826050856027422720).k) && true))) = true := by decide +kernel
set_option maxRecDepth 100000 in
theorem aw12_b : (decide ((toF 0).k ≤ (dV (KqR atR) 9223372036854775808 0).2.1.hi.k) && decide ((dV (KqR atR) 9223372036854775808 0).2.1.lo.k ≤ (toF 0).k) && decide ((dV (KqR atR) 9223372036854775808 0).2.2.hi.k ≤ (toF 4604544271225129117).k) && decide ((toF 4604544271216121918).k ≤ (dV (KqR atR) 9223372036854775808 0).2.2.lo.k) && decide ((dV (KqR atR) 9223372036854775808 0).1.hi.k ≤ (toF 4604544271225129117).k) && decide ((toF 4604544271216121918).k ≤ (dV (KqR atR) 9223372036854775808 0).1.lo.k)) = true := by decide +kernel
set_option maxRecDepth 100000 in
theorem aw12_c : (decide ((dV (KqR atR) 0 0).1.hi.k < (toF 4427038433705197568).k) && decide ((toF 0).k ≤ (dV (KqR atR) 0 0).1.hi.k) && decide ((dV (KqR atR) 0 0).1.lo.k ≤ (toF 0).k) && (decide ((dV (KqR atR) 0 0).2.2.lo.k = (tw 4607182418800017408).k) && (decide ((dV (KqR atR) 0 0).2.2.hi.k = (tw 4607182418800017408).k) && true))) = true := by decide +kernel

set_option maxRecDepth 100000 in
theorem aw12_d : rt3 (toF 0) one64 (tw 4611686018427387904) (tw 4611686018427387904) mone64 (toF 0) = true := by decide +kernel
theorem aw12_ok : obsB (aw12 rt3 midM (dV (KqR atR)) uB) = true := by
  have hb := aw12_b
  have hc := aw12_c
  simp only [Bool.and_eq_true (a := _) (b := _)] at hb
  obtain ⟨⟨⟨⟨⟨b1, b2⟩, b3⟩, b4⟩, b5⟩, b6⟩ := hb
  rw [Bool.and_eq_true, Bool.and_eq_true, Bool.and_eq_true] at hc
  obtain ⟨⟨⟨c1, c2⟩, c3⟩, c4⟩ := hc
  have y : ∀ {c : Bool} {r : Obs}, c = true → obsB r = true → obsB ((c, true) :: r) = true := fun h k => by unfold obsB at *; rw [List.all_cons, h, k]; rfl
  exact y aw12_a (y b1 (y b2 (y b3 (y b4 (y b5 (y b6 (y c1 (y c2 (y c3 (y c4 (y rfl (y rfl (y rfl (y rfl (y aw12_d (y rfl (y rfl (y rfl (y rfl (y rfl (y rfl (y rfl (y rfl rfl)))))))))))))))))))))))

/-! ## falls -/
theorem keptI_q (a : I) : (keptI a mone64 one64).lo.q ≤ 1 ∧ -1 ≤ (keptI a mone64 one64).lo.q ∧ (keptI a mone64 one64).hi.q ≤ 1 ∧ -1 ≤ (keptI a mone64 one64).hi.q ∧ (a.lo.q ≤ a.hi.q → (keptI a mone64 one64).lo.q ≤ (keptI a mone64 one64).hi.q) ∧ ∀ v, Mem a v → -1 ≤ v → v ≤ 1 → Mem (keptI a mone64 one64) v := by
  have key : ∀ x : F, ((mnF (mxF x mone64) one64).q = x.q ∧ -1 ≤ x.q ∧ x.q ≤ 1) ∨ ((mnF (mxF x mone64) one64).q = -1 ∧ x.q ≤ -1) ∨ ((mnF (mxF x mone64) one64).q = 1 ∧ 1 ≤ x.q) := by
    intro x
    have m1 := mxF_q x mone64
    have m2 := mnF_q (mxF x mone64) one64
    rw [mone_q] at m1
    rw [one_q] at m2
    rcases mnF_or (mxF x mone64) one64 with h | h
    · rcases mxF_or x mone64 with g | g
      · left; rw [h, g] at m2 ⊢; rw [g] at m1; exact ⟨rfl, m1.2, m2.2⟩
      · right; left; rw [h, g] at m2 ⊢; rw [g, mone_q] at m1; rw [mone_q]; exact ⟨rfl, m1.1⟩
    · rw [h, one_q] at m2 ⊢
      rcases mxF_or x mone64 with g | g
      · right; right; rw [g] at m2; exact ⟨rfl, m2.1⟩
      · exfalso; rw [g, mone_q] at m2; have := m2.1; grind
  have h1 := key a.lo
  have h2 := key a.hi
  unfold keptI
  simp only
  refine ⟨by grind, by grind, by grind, by grind, fun h => by grind, fun v hv g1 g2 => ⟨?_, ?_⟩⟩
  · have := hv.lo
    show (mnF (mxF a.lo mone64) one64).q ≤ v
    grind
  · have := hv.hi
    show v ≤ (mnF (mxF a.hi mone64) one64).q
    grind
theorem kept_in {a : I} (h : a.lo.q ≤ a.hi.q) : In1 (keptI a mone64 one64) := by
  obtain ⟨h1, h2, h3, h4, h5, _⟩ := keptI_q a
  exact ⟨q_le.1 (by rw [mone_q]; exact h2), q_le.1 (by rw [one_q]; exact h3), q_le.1 (h5 h)⟩
theorem keptZ {z : I} (h : U01 z) : keptI z (toF 0) one64 = z := by
  have h1 := h.lo; have h2 := h.rt; have h3 := h.hi
  have key : ∀ x : F, 0 ≤ x.q → x.q ≤ 1 → mnF (mxF x (toF 0)) one64 = x := by
    intro x g1 g2
    have k1 := q_le.1 (show (toF 0).q ≤ x.q by rw [zero0_q]; exact g1)
    have k2 := q_le.1 (show x.q ≤ one64.q by rw [one_q]; exact g2)
    have e : mxF x (toF 0) = x := by unfold mxF; rw [if_neg (by omega)]
    rw [e]; unfold mnF; rw [if_neg (by omega)]
  exact I.ext' (key z.lo h1 (by grind)) (key z.hi (by grind) h3)
/-- both squares together -/
def flatM (N : Kq) (sqr : Int → I → I × Int) (add : Int → I → I → I × Int) (e : Int) (a b : Int) : I × Int :=
  add (sqr (sqr e (dV N a b).1).2 (dV N a b).2.1).2 (sqr e (dV N a b).1).1 (sqr (sqr e (dV N a b).1).2 (dV N a b).2.1).1
theorem prod1 {r c : Rat} (h0 : 0 ≤ r) (h1 : r ≤ 1) (h2 : -1 ≤ c) (h3 : c ≤ 1) : -1 ≤ r * c ∧ r * c ≤ 1 := by
  have a := Rat.mul_nonneg h0 (show 0 ≤ 1 - c by grind)
  have b := Rat.mul_nonneg h0 (show 0 ≤ 1 + c by grind)
  constructor <;> grind
theorem flat_ok {a b : Int} (h0 : 0 ≤ a) (h1 : a ≤ 18446744073709551615) (g0 : 0 ≤ b) (g1 : b ≤ 18446744073709551615) : ∃ r, flatM (KqR atR) KTR.sqr KTR.add 0 a b = (r, 0) ∧ r.lo.q ≤ (unI a).lo.q ∧ (unI a).hi.q ≤ r.hi.q := by
  obtain ⟨D, hD⟩ := draw_ok (a := a) (b := b) h0 h1
  have ib := unI_in b g0 g1
  obtain ⟨⟨s, c, m1, m2, e1⟩, ⟨s2, c2, m3, m4, e2⟩⟩ := circ_M ib
  have xr := Rat.le_trans hD.mx.lo.1 hD.mx.hi.1
  have yr := Rat.le_trans hD.my.lo.1 hD.my.hi.1
  have ex : (dV (KqR atR) a b).1 = keptI D.x mone64 one64 := by unfold dV; rw [hD.ex]
  have ey : (dV (KqR atR) a b).2.1 = keptI D.y mone64 one64 := by unfold dV; rw [hD.ey]
  obtain ⟨p, f1, pu, pm⟩ := sqr_in (kept_in xr)
  obtain ⟨q, f2, qu, qm⟩ := sqr_in (kept_in yr)
  obtain ⟨r, f3, k1, k2⟩ := cAdd_ok pu.sm qu.sm
  have ru := hD.ru
  have r1 := ru.lo; have r2 := ru.rt; have r3 := ru.hi
  obtain ⟨⟨a1, a2⟩, a3, a4⟩ := abs_of_sq e1
  have in1 : ∀ {i : I} {v : Rat}, In1 i → Mem i v → -1 ≤ v ∧ v ≤ 1 := by
    intro i v hi hv
    have g1 := q_le.2 hi.lo; have g2 := q_le.2 hi.hi
    rw [mone_q] at g1; rw [one_q] at g2
    exact ⟨Rat.le_trans g1 hv.lo, Rat.le_trans hv.hi g2⟩
  have i3 := in1 (sinM_in _ _) m3
  have i4 := in1 (cosM_in _ _) m4
  have ml : Mem D.r D.r.lo.q := ⟨Rat.le_refl, r2⟩
  have mh : Mem D.r D.r.hi.q := ⟨r2, Rat.le_refl⟩
  have kx := (keptI_q D.x).2.2.2.2.2
  have ky := (keptI_q D.y).2.2.2.2.2
  have b1 := prod1 r1 (by grind) a3 a4
  have b2 := prod1 r1 (by grind) a1 a2
  have b3 := prod1 (show 0 ≤ D.r.hi.q by grind) r3 i4.1 i4.2
  have b4 := prod1 (show 0 ≤ D.r.hi.q by grind) r3 i3.1 i3.2
  have w1 := add_mem k1 k2 (pm _ (kx _ (mul_mem hD.mx ml m2) b1.1 b1.2)) (qm _ (ky _ (mul_mem hD.my ml m1) b2.1 b2.2))
  have w2 := add_mem k1 k2 (pm _ (kx _ (mul_mem hD.mx mh m4) b3.1 b3.2)) (qm _ (ky _ (mul_mem hD.my mh m3) b4.1 b4.2))
  refine ⟨r, ?_, ?_, ?_⟩
  · unfold flatM
    rw [ex, ey]
    have g1 : KTR.sqr 0 (keptI D.x mone64 one64) = (p, 0) := f1
    have g2 : KTR.sqr 0 (keptI D.y mone64 one64) = (q, 0) := f2
    simp only [g1, g2]
    exact f3
  · have := w1.lo
    have k := Rat.mul_nonneg (sq_nn D.r.lo.q) (show 0 ≤ 1 - (s * s + c * c) by grind)
    have l := hD.r1.le
    grind
  · have := w2.hi
    have k := Rat.mul_nonneg (sq_nn D.r.hi.q) (show 0 ≤ (s2 * s2 + c2 * c2) - 1 by grind)
    have l := hD.r2.ge
    grind
theorem fall_z {a a2 b : Int} (h0 : 0 ≤ a) (h : a ≤ a2) (h1 : a2 ≤ 18446744073709551615) : (dV (KqR atR) a2 b).2.2.lo.k ≤ (dV (KqR atR) a b).2.2.lo.k ∧ (dV (KqR atR) a2 b).2.2.hi.k ≤ (dV (KqR atR) a b).2.2.hi.k := by
  obtain ⟨D, hD⟩ := draw_ok (a := a) (b := b) h0 (by omega)
  obtain ⟨G, hG⟩ := draw_ok (a := a2) (b := b) (by omega) h1
  have ez : (dV (KqR atR) a b).2.2 = D.z := by unfold dV; rw [hD.ez]; exact keptZ hD.zu
  have ez2 : (dV (KqR atR) a2 b).2.2 = G.z := by unfold dV; rw [hG.ez]; exact keptZ hG.zu
  rw [ez, ez2]
  obtain ⟨m1, m2⟩ := unI_mono h0 h h1
  have d1 : G.d.lo.q ≤ D.d.lo.q := hD.d1.top G.d.lo (by have := hG.d1.le; grind)
  have d2 : G.d.hi.q ≤ D.d.hi.q := hG.d2.bot D.d.hi (by have := hD.d2.ge; grind)
  refine ⟨q_le.1 (hD.z1.top _ hG.z1.nn (by have := hG.z1.le; grind)), q_le.1 (hG.z2.bot _ hD.z2.nn (by have := hD.z2.ge; grind))⟩
end Bu
namespace Bu
set_option linter.all false
open Rx Go

def c32 : F := toF 4751297606873776128
def fracW (n : Int) : Nat := (Ieee.double.div (FloatKind.f64.nearest n) c32.b).getD 0
def fracF (n : Int) : F := toF (fracW n)
set_option maxRecDepth 100000 in
theorem c32_z : c32.z = 4294967295 * (S : Int) ∧ 0 < c32.k := ⟨of_decide_eq_true (by decide +kernel), of_decide_eq_true (by decide +kernel)⟩
set_option maxRecDepth 100000 in
theorem one64_nv : nv 4607182418800017408 = S := of_decide_eq_true (by decide +kernel)
theorem near_int {n : Nat} (h : n ≤ 9007199254740992) : FloatKind.f64.nearest (n : Int) = (F.dy n 0).b := by
  have := nat_conv (m := n) (by have : P = 4503599627370496 := rfl; omega)
  rw [← this]; rfl
theorem frac_ok {n : Int} (h0 : 0 ≤ n) (h1 : n ≤ 4294967295) : (Ieee.double.div (FloatKind.f64.nearest n) c32.b).isSome = true ∧ (fracF n).b = fracW n ∧ 0 ≤ (fracF n).q ∧ (fracF n).q ≤ 1 := by
  obtain ⟨m, rfl⟩ := Int.eq_ofNat_of_zero_le h0
  by_cases hm : m = 0
  · subst hm
    have e1 : Ieee.double.div (FloatKind.f64.nearest ((0 : Nat) : Int)) c32.b = some 0 := by decide +kernel
    have e2 : fracW ((0 : Nat) : Int) = 0 := by unfold fracW; rw [e1]; rfl
    have e3 : fracF ((0 : Nat) : Int) = toF 0 := by unfold fracF; rw [e2]
    rw [e1, e2, e3, zero0_q]
    exact ⟨rfl, by decide +kernel, Rat.le_refl, by grind⟩
  · have hP : P = 4503599627370496 := rfl
    have hz := nat_z (m := m) (by omega)
    have hk : 0 < (F.dy m 0).k := by
      have hS := S_pos
      have h2 : 0 < (F.dy m 0).z := by rw [hz]; exact Int.mul_pos (by omega) (by omega)
      have a := z_sign (F.dy m 0)
      have b := z_zero (F.dy m 0)
      omega
    have hle : (F.dy m 0).z ≤ c32.z := by rw [hz, c32_z.1]; exact Int.mul_le_mul_of_nonneg_right (by omega) (by have := S_pos; omega)
    obtain ⟨t, e, t0, t1⟩ := div_le1 hk c32_z.2 hle one64_nv (by rw [T_num]; omega)
    have e1 : Ieee.double.div (FloatKind.f64.nearest (m : Int)) c32.b = some t.b := by rw [near_int (by omega)]; exact e
    have e2 : fracW (m : Int) = t.b := by unfold fracW; rw [e1]; rfl
    have e3 : fracF (m : Int) = t := by unfold fracF; rw [e2, toF_F]
    rw [e1, e2, e3]
    refine ⟨rfl, rfl, ?_, ?_⟩
    · rw [← q_zero]; exact q_le.2 t0
    · rw [← one_q]; exact q_le.2 (by rw [one_k2]; exact t1)
/-- a number and 0 -/
theorem add_zero_F (b : F) : Ieee.double.add b.b (toF 0).b = some b.b := by
  have ez : (toF 0).z = 0 := by rw [show toF 0 = F.zero from F.ext' (by decide +kernel)]; exact F.zero_z
  rw [add_F, ez, Int.add_zero]
  by_cases h : b.k = 0
  · have e : b = F.zero := F.ext' h
    subst e
    rw [if_pos F.zero_z]; rfl
  · rw [if_neg (fun k => h ((z_zero _).1 k))]
    congr 1
    rw [z_natAbs', near_exact (r := b.k.natAbs) (by decide) (by omega)]
    have := b.hk
    rw [show min b.k.natAbs T = b.k.natAbs from by omega, ← word_sign _ h]
    congr 1
    exact decide_eq_decide.2 (z_sign _)
structure Ko where
  dv : Int → Int → I × I × I
  uo : Int → I
  u : Int → Bool
  fr : Int → F
  w : Int → Bool
  rt : I → Bool
  sub : Int → I → I → I × Int
  mul : Int → I → I → I × Int
  sqr : Int → I → I × Int
  num : Int → F → I × Int
def oOne (N : Ko) : I × Int := N.num 0 one64
def oSq (N : Ko) (t : F) : I × Int := N.sqr (oOne N).2 ⟨t, t⟩
def oSb (N : Ko) (t : F) : I × Int := N.sub (oSq N t).2 (oOne N).1 (oSq N t).1
def oPart (N : Ko) (t : F) : I × Int := N.mul (oSb N t).2 ⟨one64, one64⟩ (oSb N t).1
def coOb (N : Ko) (a b c : Int) (p1 p2 : Bool) : Obs :=
  (bif p2 then [] else [(decide ((N.dv a b).2.2.lo.k ≤ (N.fr c).k), true)]) ++ [(decide ((N.uo a).lo.k ≤ (oPart N (N.fr c)).1.hi.k), p2)] ++
  (bif p1 then [] else [(decide ((N.fr c).k ≤ (N.dv a b).2.2.hi.k), true)]) ++ [(decide ((oPart N (N.fr c)).1.lo.k ≤ (N.uo a).hi.k), p1)] ++
  [(decide ((N.uo a).hi.k < (N.uo a).lo.k), false), (N.u a, true), (!((oPart N (N.fr c)).2 == 0), false), (decide (one64.k < (N.fr c).k), false), (decide ((N.fr c).k < (toF 0).k), false), (false, false), (false, false),
   (N.rt ⟨N.fr c, N.fr c⟩, true), (N.rt ⟨one64, one64⟩, true), (N.w c, true), (N.u a, true), (N.u b, true)]
def w32 (n : Int) : Bool := decide (0 ≤ n ∧ n ≤ 4294967295)
def KoR : Ko := ⟨dV (KqR atR), unI, uB, fracF, w32, rt, KTR.sub, KTR.mul, KTR.sqr, KTR.num⟩
theorem part_ok {t : F} (h0 : 0 ≤ t.q) (h1 : t.q ≤ 1) : ∃ r, oPart KoR t = (r, 0) ∧ Mem r (1 - t.q * t.q) := by
  have tU : U01 ⟨t, t⟩ := ⟨h0, Rat.le_refl, h1⟩
  have oU : U01 ⟨one64, one64⟩ := ⟨by show 0 ≤ one64.q; rw [one_q]; grind, Rat.le_refl, by show one64.q ≤ 1; rw [one_q]; exact Rat.le_refl⟩
  have tI : In1 ⟨t, t⟩ := ⟨q_le.1 (by rw [mone_q]; show -1 ≤ t.q; grind), q_le.1 (by rw [one_q]; exact h1), Int.le_refl _⟩
  obtain ⟨s, e1, su, sm⟩ := sqr_in tI
  obtain ⟨d, e2, d1, d2⟩ := cSub_ok oU.sm su.sm
  have md := sub_mem (x := 1) (y := t.q * t.q) d1 d2 ⟨by show one64.q ≤ 1; rw [one_q]; exact Rat.le_refl, by show 1 ≤ one64.q; rw [one_q]; exact Rat.le_refl⟩ (sm _ ⟨Rat.le_refl, Rat.le_refl⟩)
  simp only [one_q] at d1 d2
  have s1 := su.lo; have s2 := su.rt; have s3 := su.hi
  have dU : U01 d := by
    refine ⟨?_, Rat.le_trans md.lo md.hi, ?_⟩
    · rw [← q_zero]; exact d1.top F.zero (by rw [q_zero]; grind)
    · rw [← one_q]; exact d2.bot one64 (by rw [one_q]; grind)
  obtain ⟨r, e3, hr⟩ := cMul_ok oU.sm dU.sm
  have mr := mul_mem hr (x := 1) ⟨by show one64.q ≤ 1; rw [one_q]; exact Rat.le_refl, by show 1 ≤ one64.q; rw [one_q]; exact Rat.le_refl⟩ md
  refine ⟨r, ?_, ?_⟩
  · have f0 : oOne KoR = (⟨one64, one64⟩, 0) := cNum_ok one64
    have f1 : oSq KoR t = (s, 0) := by unfold oSq; rw [f0]; exact e1
    have f2 : oSb KoR t = (d, 0) := by unfold oSb; rw [f1, f0]; exact e2
    unfold oPart; rw [f2]; exact e3
  · rwa [Rat.one_mul] at mr
theorem coOb_ok {a b c : Int} (h0 : 0 ≤ a) (h1 : a ≤ 18446744073709551615) (g0 : 0 ≤ b) (g1 : b ≤ 18446744073709551615) (c0 : 0 ≤ c) (c1 : c ≤ 4294967295) :
    obsB (coOb KoR a b c (decide ((oPart KoR (fracF c)).1.lo.k ≤ (unI a).hi.k)) (decide ((unI a).lo.k ≤ (oPart KoR (fracF c)).1.hi.k))) = true := by
  obtain ⟨_, _, t0, t1⟩ := frac_ok c0 c1
  obtain ⟨r, e, hr⟩ := part_ok t0 t1
  obtain ⟨D, hD⟩ := draw_ok (a := a) (b := b) h0 h1
  have ez : (KoR.dv a b).2.2 = D.z := by show (dV (KqR atR) a b).2.2 = _; unfold dV; rw [hD.ez]; exact keptZ hD.zu
  have hU := unI_U a h0 h1
  have u1 := hU.lo; have u2 := hU.rt; have u3 := hU.hi
  have ub : ∀ n : Int, 0 ≤ n → n ≤ 18446744073709551615 → uB n = true := fun n h1 h2 => decide_eq_true ⟨h1, h2⟩
  have y : ∀ {c d : Bool} {r : Obs}, c = d → obsB r = true → obsB ((c, d) :: r) = true := fun h k => by unfold obsB at *; rw [List.all_cons, h, k, beq_self_eq_true]; rfl
  have both : ∀ {a b : Obs}, obsB a = true → obsB b = true → obsB (a ++ b) = true := fun ha hb => by unfold obsB at *; rw [List.all_append, ha, hb]; rfl
  have d1 := hD.d1.le; have d2 := hD.d2.ge; have z1 := hD.z1.le; have z2 := hD.z2.ge
  have z3 := hD.z1.nn; have z4 := hD.z2.nn
  have m1 := hr.lo; have m2 := hr.hi
  unfold coOb
  have ef : KoR.fr c = fracF c := rfl
  have eu : KoR.uo a = unI a := rfl
  rw [ez, ef, eu, e]
  simp only
  generalize fracF c = t at *
  refine both (both (both (both ?_ (y rfl rfl)) ?_) (y rfl rfl)) ?_
  · cases h : decide ((unI a).lo.k ≤ r.hi.k)
    · refine y (decide_eq_true (q_le.1 ?_)) rfl
      have k := of_decide_eq_false h
      have k2 := q_lt.2 (show r.hi.k < (unI a).lo.k by omega)
      exact sq_le' z3 t0 (by grind)
    · rfl
  · cases h : decide (r.lo.k ≤ (unI a).hi.k)
    · refine y (decide_eq_true (q_le.1 ?_)) rfl
      have k := of_decide_eq_false h
      have k2 := q_lt.2 (show (unI a).hi.k < r.lo.k by omega)
      exact sq_le' t0 z4 (by grind)
    · rfl
  · refine y (decide_eq_false (by have := q_le.1 u2; omega)) (y (ub a h0 h1) (y rfl (y (decide_eq_false ?_) (y (decide_eq_false ?_) (y rfl (y rfl (y (decide_eq_true (Int.le_refl _)) (y (decide_eq_true (Int.le_refl _)) (y (decide_eq_true ⟨c0, c1⟩) (y (ub a h0 h1) (y (ub b g0 g1) rfl)))))))))))
    · have := q_le.1 (show t.q ≤ one64.q by rw [one_q]; exact t1); omega
    · have := q_le.1 (show (toF 0).q ≤ t.q by rw [zero0_q]; exact t0); omega
end Bu
