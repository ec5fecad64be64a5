/- Draws: the plain part. Roots, rounded: by squares. Draws by the cosine, plain. Draws by the cosine: what the laws ask. CosineOften, plain. Package dir by the reckoner: what is known. Package dir by the reckoner: sums. Package dir by names: the known functions are these. Package dir by the reckoner: Add, Sub. Package dir by the reckoner: Sub, Mul. Long division: the plain part. Walk of bits.Div64. Package dir by the reckoner: Div. -/
import Derived.Test.YtgjohjgmlleebaaGreatL01
import Derived.Test.YtgjohjgmlleebaaGreatL06
import Derived.Test.YtgjohjgmlleebaaGreatL05
import Derived.Test.YtgjohjgmlleebaaGreatL02
import Derived.Shelf.Spec.BitsCarry
import Derived.WalkKit
import Derived.Test.YtgjohjgmlleebaaGreatShelf
import Derived.Deep.CutBlock
import Derived.Deep.DeepCutAuto
namespace Bu
set_option linter.all false

structure Iv where
  lo : F
  hi : F
theorem Iv.ext' {a b : Iv} (h1 : a.lo = b.lo) (h2 : a.hi = b.hi) : a = b := by cases a; cases b; simp only at h1 h2; subst h1 h2; rfl
instance : DecidableEq Iv := fun a b => if h : a.lo = b.lo ∧ a.hi = b.hi then isTrue (Iv.ext' h.1 h.2) else isFalse (fun e => h (by rw [e]; exact ⟨rfl, rfl⟩))

/-- 2^1010: S by 2^64 -/
def Q64 : Nat := 2 ^ 1010
theorem Q64_eq : Q64 = 2 ^ 1010 := by unfold Q64; rfl
theorem S_Q64 : S = 18446744073709551616 * Q64 := by
  obtain ⟨s, hs, e⟩ := S_pow
  have h : ∃ t : Nat, t = 1010 ∧ Q64 = 2 ^ t := ⟨1010, rfl, Q64_eq⟩
  obtain ⟨t, ht, e2⟩ := h
  rw [e, e2, show s = 64 + t from by omega, Nat.pow_add]
theorem Q64_pow : ∃ t : Nat, t = 1010 ∧ Q64 = 2 ^ t := ⟨1010, rfl, Q64_eq⟩
theorem Q64_pos : 0 < Q64 := by obtain ⟨t, _, e⟩ := Q64_pow; rw [e]; exact Nat.two_pow_pos t
attribute [irreducible] Q64
def unitCut (u : Nat) : Nat := blen u - 53
def unitLo (u : Nat) : F := F.dy (u / 2 ^ unitCut u) ((unitCut u : Int) - 64)
/-- a draw's interval -/
def unitOf (u : Nat) : Iv := ⟨unitLo u, if u % 2 ^ unitCut u = 0 then unitLo u else (nextF (unitLo u) true).1⟩

theorem unit_m (u : Nat) (hu : u < 18446744073709551616) : unitCut u ≤ 11 ∧ u / 2 ^ unitCut u < 2 * P ∧ (unitCut u = 0 ∨ P ≤ u / 2 ^ unitCut u) := by
  have h1 : blen u ≤ 64 := blen_le hu
  have h2 := lt_blen u
  have hP : P = 2 ^ 52 := P_eq
  refine ⟨by unfold unitCut; omega, ?_, ?_⟩
  · rw [Nat.div_lt_iff_lt_mul (Nat.two_pow_pos _), show 2 * P = 2 ^ 53 from rfl, ← Nat.pow_add]
    exact Nat.lt_of_lt_of_le h2 (Nat.pow_le_pow_right (by omega) (by unfold unitCut; omega))
  · by_cases c : unitCut u = 0
    · exact Or.inl c
    · right
      have h0 : u ≠ 0 := by intro e; subst e; exact c (by decide)
      have e1 : blen u = u.log2 + 1 := by unfold blen; rw [if_neg h0]
      rw [hP, Nat.le_div_iff_mul_le (Nat.two_pow_pos _), ← Nat.pow_add]
      exact Nat.le_trans (Nat.pow_le_pow_right (by omega) (by unfold unitCut at *; omega)) (Nat.log2_self_le h0)

theorem blen_m {m : Nat} (h : m < 2 * P) : blen m ≤ 53 := blen_le (by rw [show (2 : Nat) ^ 53 = 2 * P from rfl]; exact h)

theorem unitLo_z (u : Nat) (hu : u < 18446744073709551616) : (unitLo u).z = ((u / 2 ^ unitCut u * 2 ^ unitCut u * Q64 : Nat) : Int) := by
  obtain ⟨h1, h2, h3⟩ := unit_m u hu
  have h4 := blen_m h2
  unfold unitLo
  rw [dy_z (by omega) (by omega) (by omega)]
  obtain ⟨t, ht, e⟩ := Q64_pow
  rw [e, Nat.mul_assoc, ← Nat.pow_add, show ((unitCut u : Int) - 64 + 1074).toNat = unitCut u + t from by omega]

theorem unitLo_k (u : Nat) (hu : u < 18446744073709551616) : (unitLo u).k = flI ((u * Q64 : Nat) : Int) 1 := by
  obtain ⟨h1, h2, h3⟩ := unit_m u hu
  have h4 := blen_m h2
  have hd := Nat.div_add_mod u (2 ^ unitCut u)
  have hm := Nat.mod_lt u (Nat.two_pow_pos (unitCut u))
  unfold unitLo
  rw [dy_k (by omega) (by omega)]
  unfold flI
  rw [if_pos (by omega), Int.toNat_natCast]
  obtain ⟨t, ht, e⟩ := Q64_pow
  rw [e, show ((unitCut u : Int) - 64 + 1074).toNat = unitCut u + t from by omega]
  refine congrArg (Nat.cast : Nat → Int) ?_
  generalize unitCut u = c at *
  generalize u / 2 ^ c = m at *
  generalize u % 2 ^ c = r at *
  symm
  have ht0 := Nat.two_pow_pos t
  by_cases hc : c = 0
  · subst hc
    unfold flQ
    rw [Nat.pow_zero] at hm hd
    rw [Nat.div_one, Nat.zero_add, show u = m from by omega]
  · have hn : P ≤ m := by omega
    have n1 := nv_mk (c + t) m (by omega) (Or.inr hn)
    have n2 := nv_mk (c + t) (m + 1) (by omega) (by omega)
    have f1 : fl (m * 2 ^ (c + t)) = (c + t) * P + m := by rw [← n1, fl_nv]
    rw [f1]
    refine flQ_eq (by omega) ?_ ?_
    · rw [n1, Nat.pow_add, ← hd, Nat.mul_one, ← Nat.mul_assoc, Nat.mul_comm m]
      exact Nat.mul_le_mul_right _ (by omega)
    · rw [Nat.add_assoc, n2, Nat.pow_add, ← hd, Nat.mul_one, ← Nat.mul_assoc]
      exact Nat.mul_lt_mul_of_pos_right (by rw [Nat.add_mul, Nat.mul_comm]; omega) ht0

theorem unit_exact (u : Nat) (hu : u < 18446744073709551616) : u % 2 ^ unitCut u = 0 ↔ nvZ (unitLo u).k = ((u * Q64 : Nat) : Int) := by
  have h := unitLo_z u hu
  unfold F.z at h
  rw [h]
  have hd := Nat.div_add_mod u (2 ^ unitCut u)
  have hQ := Q64_pos
  rw [Nat.mul_comm] at hd
  generalize u / 2 ^ unitCut u * 2 ^ unitCut u = a at *
  generalize u % 2 ^ unitCut u = r at *
  constructor
  · intro e; rw [e, Nat.add_zero] at hd; rw [hd]
  · intro e
    have e2 : a * Q64 = u * Q64 := by omega
    have := Nat.eq_of_mul_eq_mul_right hQ e2
    omega

theorem one_k : ∃ one : F, one.z = S ∧ one.k = 4607182418800017408 := ⟨F.of 4607182418800017408, by decide +kernel, by decide +kernel⟩

theorem unitLo_lt (u : Nat) (hu : u < 18446744073709551616) : (unitLo u).k < 4607182418800017408 := by
  obtain ⟨one, h1, h2⟩ := one_k
  have h := unitLo_z u hu
  rw [← h2, ← F.z_lt, h, h1, S_Q64]
  have hd := Nat.div_mul_le_self u (2 ^ unitCut u)
  have := Nat.mul_lt_mul_of_pos_right (show u / 2 ^ unitCut u * 2 ^ unitCut u < 18446744073709551616 by omega) Q64_pos
  omega

theorem nextF_up (x : F) (h : x.k < 4607182418800017408) : (nextF x true).1.k = x.k + 1 ∧ (nextF x true).2 = 0 := by
  have hT := T_num
  have hx := x.hk
  unfold nextF outUp
  rw [if_pos rfl, if_neg (by omega)]
  simp only
  rw [F.of_k (by omega)]
  exact ⟨by omega, trivial⟩

theorem unitHi_k (u : Nat) (hu : u < 18446744073709551616) : (unitOf u).hi.k = ceI ((u * Q64 : Nat) : Int) 1 := by
  have h1 := unitLo_k u hu
  have h2 := unit_exact u hu
  have h3 := unitLo_lt u hu
  unfold unitOf
  simp only
  by_cases c : u % 2 ^ unitCut u = 0
  · rw [if_pos c, ← h2.1 c, ceI_nvZ]
  · rw [if_neg c, (nextF_up _ h3).1]
    have a := (le_flI (k := (unitLo u).k + 1) (A := ((u * Q64 : Nat) : Int)) (B := 1) (by omega))
    have b := (le_flI (k := (unitLo u).k) (A := ((u * Q64 : Nat) : Int)) (B := 1) (by omega)).1 (by omega)
    have c1 := (ceI_le (k := (unitLo u).k + 1) (A := ((u * Q64 : Nat) : Int)) (B := 1) (by omega))
    have c2 := (ceI_le (k := (unitLo u).k) (A := ((u * Q64 : Nat) : Int)) (B := 1) (by omega))
    have h4 : nvZ (unitLo u).k ≠ ((u * Q64 : Nat) : Int) := fun e => c (h2.2 e)
    omega

theorem unitHi_le (u : Nat) (hu : u < 18446744073709551616) : (unitOf u).hi.k ≤ 4607182418800017408 := by
  obtain ⟨one, h1, h2⟩ := one_k
  rw [unitHi_k u hu, ceI_le (by omega), ← h2]
  show _ ≤ one.z * _
  rw [h1, S_Q64]
  have := Nat.mul_le_mul_right Q64 (show u ≤ 18446744073709551616 by omega)
  omega
theorem unitLo_nonneg (u : Nat) (hu : u < 18446744073709551616) : 0 ≤ (unitLo u).k := by
  rw [unitLo_k u hu, le_flI (by omega), nvZ_zero]; omega

end Bu
namespace Bu
set_option linter.all false
open Rx

def qSqrt (up : Bool) (a : F) : F × Int := if a.k < 0 then (F.zero, 12) else if a.k = 0 then (F.zero, 0) else dSqrt up a

theorem natq_pos {n : Nat} (h : 0 < n) : (0 : Rat) < (n : Rat) := by have := Rat.natCast_lt_natCast.2 h; simpa using this
theorem natq_nn (n : Nat) : (0 : Rat) ≤ (n : Rat) := by have := Rat.natCast_le_natCast.2 (Nat.zero_le n); simpa using this
/-- what stands behind a root: the number is N by the square of a unit -/
structure SqP (a : F) (x : Nat) (p q : Nat) : Prop where
  root : IsRoot (sqN a) x
  big : 9223372036854775808 ≤ x
  hp : (sqE a / 2 + 1074).toNat = p
  hq : (-(sqE a / 2 + 1074)).toNat = q
  val : sqN a * 2 ^ (2 * p) = mn a * 2 ^ ex a * 2 ^ (2 * q) * 2 ^ 1074
theorem mn_pos' {a : F} (h : 0 < a.k) : mn a ≠ 0 := by
  intro h0
  have := z_parts a
  rw [h0, Nat.zero_mul, show sg a = false from decide_eq_false (by omega)] at this
  have h1 : a.z = 0 := by simpa using this
  have := (z_zero a).1 h1
  omega
theorem sqP {a : F} (h : 0 < a.k) : ∃ x p q, SqP a x p q ∧ root64 (sqN a) = x := by
  have hm := mn_pos' h
  have nb := norm_bounds hm (by have := mn_lt a; omega)
  have hN : 85070591730234615865843651857942052864 ≤ sqN a ∧ sqN a < W128 := by
    have : W128 = 340282366920938463463374607431768211456 := rfl
    unfold sqN divM
    generalize mn a * 2 ^ nlz (mn a) = M at *
    split <;> omega
  have hr := root64_ok hN.2
  refine ⟨_, _, _, ⟨hr, ?_, rfl, rfl, ?_⟩, rfl⟩
  · rcases Nat.lt_or_ge (root64 (sqN a)) 9223372036854775808 with c | c
    · exfalso
      have h1 := hr.lt
      have h2 := Nat.mul_le_mul (show root64 (sqN a) + 1 ≤ 9223372036854775808 from c) (show root64 (sqN a) + 1 ≤ 9223372036854775808 from c)
      omega
    · exact c
  · have he := sqE_even a
    unfold sqN divM
    unfold sqE at he ⊢
    split
    · rename_i ho
      rw [if_pos ho] at he
      rw [show (9223372036854775808 : Nat) = 2 ^ 63 from rfl]
      simp only [Nat.mul_assoc, ← Nat.pow_add]
      congr 2
      omega
    · rename_i ho
      rw [if_neg ho] at he
      rw [show (18446744073709551616 : Nat) = 2 ^ 64 from rfl]
      simp only [Nat.mul_assoc, ← Nat.pow_add]
      congr 2
      omega
theorem blen_63 {x : Nat} (h : 9223372036854775808 ≤ x) : 53 ≤ blen x := by
  have := blen_ge (n := x) (k := 63) (by have e : (2:Nat) ^ 63 = 9223372036854775808 := rfl; omega)
  omega
/-- it is what lies between, wherever there -/
theorem dSqrt_mid {a : F} {x p q : Nat} (h : SqP a x p q) (hx : root64 (sqN a) = x) (up : Bool) (hne : x * x ≠ sqN a) (n d : Nat) (h0 : 0 < n) (h1 : n < d) : dSqrt up a = rndR up (((x * d + n) * 2 ^ p : Nat) : Int) (d * 2 ^ q) := by
  have hq := pow_pos' q
  have hp := pow_pos' p
  unfold dSqrt
  rw [hx, decide_eq_true hne]
  have e1 : x * 2 ^ p * (d * 2 ^ q) = x * d * (2 ^ p * 2 ^ q) := by ac_rfl
  have e2 : (x * d + n) * 2 ^ p * 2 ^ q = (x * d + n) * (2 ^ p * 2 ^ q) := by ac_rfl
  have e3 : (x + 1) * 2 ^ p * (d * 2 ^ q) = (x + 1) * d * (2 ^ p * 2 ^ q) := by ac_rfl
  have hpq : 0 < 2 ^ p * 2 ^ q := Nat.mul_pos hp hq
  have lt1 : x * d < x * d + n := by omega
  have lt2 : x * d + n < (x + 1) * d := by rw [Nat.add_mul]; omega
  refine rndG_eq_rndR (Nat.mul_pos (by omega) hq) ?_ ?_ ?_ (fun _ => blen_63 h.big)
  · rw [h.hp, h.hq, e1, e2]; exact Nat.mul_le_mul_right _ (Nat.le_of_lt lt1)
  · rw [h.hp, h.hq, e2, e3]; exact Nat.mul_lt_mul_of_pos_right lt2 hpq
  · rw [h.hp, h.hq, e1, e2]
    constructor
    · intro _ e
      have := Nat.eq_of_mul_eq_mul_right hpq e
      omega
    · intro _; rfl
theorem dSqrt_eq {a : F} {x p q : Nat} (h : SqP a x p q) (hx : root64 (sqN a) = x) (up : Bool) (he : x * x = sqN a) : dSqrt up a = rndR up ((x * 2 ^ p : Nat) : Int) (2 ^ q) := by
  have hq := pow_pos' q
  have hp := pow_pos' p
  unfold dSqrt
  rw [hx, show decide (x * x ≠ sqN a) = false from decide_eq_false (fun k => k he)]
  refine rndG_eq_rndR hq ?_ ?_ ?_ (fun k => by cases k)
  · rw [h.hp, h.hq]; exact Nat.le_refl _
  · rw [h.hp, h.hq, Nat.add_mul, Nat.add_mul]
    have := Nat.mul_pos (show 0 < 1 * 2 ^ p by omega) hq
    omega
  · rw [h.hp, h.hq]
    exact ⟨fun k => (by cases k), fun k => absurd rfl k⟩
/-- the unit -/
def un (p q : Nat) : Rat := ((2 ^ p : Nat) : Rat) / ((S : Rat) * ((2 ^ q : Nat) : Rat))
theorem un_pos (p q : Nat) : 0 < un p q := by
  have h1 := pow_q p
  have h2 := Rat.mul_pos S_gt (pow_q q)
  unfold un
  rw [Rat.div_def]
  exact Rat.mul_pos h1 (Rat.inv_pos.2 h2)
theorem un_val {a : F} {x p q : Nat} (h : SqP a x p q) (ha : 0 < a.k) : a.q = ((sqN a : Nat) : Rat) * (un p q * un p q) := by
  have hz : a.z = ((mn a * 2 ^ ex a : Nat) : Int) := by rw [z_parts, show sg a = false from decide_eq_false (by omega)]; rfl
  have e : ((sqN a * 2 ^ (2 * p) : Nat) : Rat) = ((mn a * 2 ^ ex a * 2 ^ (2 * q) * 2 ^ 1074 : Nat) : Rat) := by rw [h.val]
  have e2 : (2 ^ 1074 : Nat) = S := S_eq.symm
  rw [e2, Nat.mul_comm 2 p, Nat.mul_comm 2 q, Nat.pow_mul, Nat.pow_mul, Nat.pow_two, Nat.pow_two] at e
  have e3 : (2 ^ p) * (2 ^ p) = (2 ^ p * 2 ^ p : Nat) := rfl
  have hm := F.q_mul a
  rw [hz, Rat.intCast_natCast, Rat.natCast_mul] at hm
  rw [Rat.natCast_mul, Rat.natCast_mul, Rat.natCast_mul, Rat.natCast_mul, Rat.natCast_mul, ← hm, Rat.natCast_mul] at e
  have hS := S_ne
  have hq := pow_q q
  unfold un
  generalize ((2 ^ p : Nat) : Rat) = u at *
  generalize ((2 ^ q : Nat) : Rat) = v at *
  generalize (S : Rat) = s at *
  generalize ((sqN a : Nat) : Rat) = N at *
  generalize a.q = y at *
  grind
theorem mid_v (x n d p q : Nat) (hd : 0 < d) : ((((x * d + n) * 2 ^ p : Nat) : Int) : Rat) / ((S : Rat) * ((d * 2 ^ q : Nat) : Rat)) = ((x : Rat) + (n : Rat) / (d : Rat)) * un p q := by
  have hS := S_ne
  have hq := pow_q q
  have hd' := natq_pos hd
  unfold un
  rw [Rat.intCast_natCast, Rat.natCast_mul, Rat.natCast_add, Rat.natCast_mul, Rat.natCast_mul]
  generalize ((2 ^ p : Nat) : Rat) = u at *
  generalize ((2 ^ q : Nat) : Rat) = v at *
  generalize (S : Rat) = s at *
  generalize (x : Rat) = a at *
  generalize (n : Rat) = b at *
  generalize (d : Rat) = c at *
  grind
theorem eq_v (x p q : Nat) : (((x * 2 ^ p : Nat) : Int) : Rat) / ((S : Rat) * ((2 ^ q : Nat) : Rat)) = (x : Rat) * un p q := by
  unfold un
  rw [Rat.intCast_natCast, Rat.natCast_mul, Rat.div_def, Rat.div_def, Rat.mul_assoc]
theorem arch {δ : Rat} (h : 0 < δ) : ∃ d : Nat, 2 ≤ d ∧ 1 ≤ (d : Rat) * δ := by
  have h1 := Rat.lt_floor_add_one (1 / δ)
  have e : 1 / δ * δ = 1 := Rat.div_mul_cancel (by grind)
  have h0 : 0 ≤ 1 / δ := by rw [Rat.div_def]; exact Rat.mul_nonneg (by grind) (Rat.le_of_lt (Rat.inv_pos.2 h))
  have hf : (0 : Int) ≤ (1 / δ).floor := Rat.le_floor_iff.2 (by simpa using h0)
  obtain ⟨k, hk⟩ := Int.eq_ofNat_of_zero_le hf
  refine ⟨k + 2, by omega, ?_⟩
  rw [hk] at h1
  have e2 : (((k : Int) + 1 : Int) : Rat) = (k : Rat) + 1 := by rw [Rat.intCast_add, Rat.intCast_natCast]; rfl
  rw [e2] at h1
  rw [Rat.natCast_add, show ((2 : Nat) : Rat) = 2 from rfl]
  have k1 := Rat.mul_nonneg (Rat.le_of_lt h) (show 0 ≤ (k : Rat) + 1 - 1 / δ by grind)
  grind
theorem sq_lt {x y : Rat} (hx : 0 ≤ x) (hy : 0 ≤ y) (h : x * x < y * y) : x < y := by
  apply Rat.not_le.1
  intro g
  have := Rat.mul_nonneg (show 0 ≤ x - y by grind) (show 0 ≤ x + y by grind)
  grind
theorem sq_le' {x y : Rat} (hx : 0 ≤ x) (hy : 0 ≤ y) (h : x * x ≤ y * y) : x ≤ y := by
  apply Rat.not_lt.1
  intro g
  have := Rat.mul_pos (show 0 < x - y by grind) (show 0 < x + y by grind)
  grind
/-- the root, down, and up -/
structure SqD (r a : F) : Prop where
  nn : 0 ≤ r.q
  le : r.q * r.q ≤ a.q
  top : ∀ c : F, 0 ≤ c.q → c.q * c.q ≤ a.q → c.q ≤ r.q
structure SqU (r a : F) : Prop where
  nn : 0 ≤ r.q
  ge : a.q ≤ r.q * r.q
  bot : ∀ c : F, 0 ≤ c.q → a.q ≤ c.q * c.q → r.q ≤ c.q
/-- the root of all numbers' bound -/
def E512 : Nat := 2 ^ 512
def E1024 : Nat := 2 ^ 1024
def MB : Rat := (E512 : Rat)
theorem E_sq : decide (E1024 = E512 * E512 ∧ 0 < E512) = true := by decide +kernel
set_option maxRecDepth 100000 in
theorem max_zB : decide (F.max.z ≤ ((E1024 * S : Nat) : Int)) = true := by decide +kernel
def hugeF : F := F.of ((1536 * 4503599627370496 : Nat) : Int)
set_option maxRecDepth 100000 in
theorem huge_z : decide (hugeF.z = ((2 * E512 * S : Nat) : Int)) = true := by decide +kernel
attribute [irreducible] E512 E1024
theorem F_le (a : F) : a.q ≤ MB * MB := by
  have hT := T_num
  have h1 : a.q ≤ F.max.q := q_le.2 (by have := a.hk; rw [F.max_k]; omega)
  refine Rat.le_trans h1 ?_
  refine Rat.le_of_mul_le_mul_right (c := (S : Rat)) ?_ S_gt
  rw [F.q_mul]
  have h2 := Rat.intCast_le_intCast.2 (of_decide_eq_true max_zB)
  have h3 : (E1024 : Rat) = MB * MB := by unfold MB; rw [← Rat.natCast_mul, ← (of_decide_eq_true E_sq).1]
  rw [← h3, ← Rat.natCast_mul]
  exact h2
theorem huge_q : hugeF.q = 2 * MB := by
  have h := F.q_mul hugeF
  rw [of_decide_eq_true huge_z] at h
  have h2 : (((2 * E512 * S : Nat) : Int) : Rat) = 2 * MB * (S : Rat) := by
    unfold MB
    rw [Rat.intCast_natCast, Rat.natCast_mul, Rat.natCast_mul]; rfl
  rw [h2] at h
  have hs := S_gt
  generalize (S : Rat) = s at *
  generalize MB = m at *
  have e : (hugeF.q - 2 * m) * s = 0 := by grind
  rcases Rat.mul_eq_zero.1 e with e | e
  · grind
  · grind
theorem MB_pos : 0 < MB := by
  have h := Rat.natCast_lt_natCast.2 (of_decide_eq_true E_sq).2
  exact h
theorem sqrt_gen {a : F} (ha : 0 < a.k) : (∃ r, dSqrt false a = (r, 0) ∧ SqD r a) ∧ ∃ r, dSqrt true a = (r, 0) ∧ SqU r a := by
  obtain ⟨x, p, q, h, hx⟩ := sqP ha
  have hw := un_pos p q
  have hv := un_val h ha
  have eN : ∀ n m : Nat, n ≤ m → (n : Rat) ≤ (m : Rat) := fun n m g => Rat.natCast_le_natCast.2 g
  have r1 := eN _ _ h.root.le
  have r2 : ((sqN a : Nat) : Rat) < ((((x + 1) * (x + 1) : Nat)) : Rat) := Rat.natCast_lt_natCast.2 h.root.lt
  rw [Rat.natCast_mul] at r1
  rw [Rat.natCast_mul, Rat.natCast_add, show ((1 : Nat) : Rat) = 1 from rfl] at r2
  have x1 : (1 : Rat) ≤ (x : Rat) := by have := eN 1 x (by have := h.big; omega); simpa using this
  obtain ⟨big, hbig⟩ : ∃ c : F, c.q = 2 * MB := ⟨hugeF, huge_q⟩
  have hs := F_le a
  have hMB := MB_pos
  generalize MB = mb at *
  have hwv := Rat.mul_pos hw hw
  have xw : (x : Rat) * un p q ≤ mb := by
    refine sq_le' (Rat.mul_nonneg (by grind) (Rat.le_of_lt hw)) (by grind) ?_
    have := Rat.mul_nonneg (show 0 ≤ ((sqN a : Nat) : Rat) - (x : Rat) * (x : Rat) by grind) (Rat.le_of_lt hwv)
    grind
  have wx := Rat.mul_nonneg (show 0 ≤ (x : Rat) - 1 by grind) (Rat.le_of_lt hw)
  by_cases he : x * x = sqN a
  · -- a square
    have f1 := dSqrt_eq h hx false he
    have f2 := dSqrt_eq h hx true he
    have hn : ((sqN a : Nat) : Rat) = (x : Rat) * (x : Rat) := by rw [← he, Rat.natCast_mul]
    have v0 : 0 ≤ (x : Rat) * un p q := Rat.mul_nonneg (by grind) (Rat.le_of_lt hw)
    obtain ⟨r, g1, g2⟩ := rndR_dn (A := ((x * 2 ^ p : Nat) : Int)) (B := 2 ^ q) (pow_pos' q) (eq_v x p q) F.zero (by rw [q_zero]; exact v0)
    obtain ⟨s, g3, g4⟩ := rndR_up (A := ((x * 2 ^ p : Nat) : Int)) (B := 2 ^ q) (pow_pos' q) (eq_v x p q) big (by rw [hbig]; grind)
    have av : a.q = ((x : Rat) * un p q) * ((x : Rat) * un p q) := by rw [hv, hn]; grind
    generalize (x : Rat) * un p q = v at *
    refine ⟨⟨r, by rw [f1, g1], ?_, ?_, ?_⟩, ⟨s, by rw [f2, g3], ?_, ?_, ?_⟩⟩
    · rw [← q_zero]; exact g2.top F.zero (by rw [q_zero]; exact v0)
    · have r0 : 0 ≤ r.q := by rw [← q_zero]; exact g2.top F.zero (by rw [q_zero]; exact v0)
      have := g2.le
      rw [av]; exact sq_bd (by grind) this
    · intro c c0 hc
      exact g2.top c (sq_le' c0 v0 (by rw [← av]; exact hc))
    · have := g4.ge; grind
    · have := g4.ge
      rw [av]; exact sq_bd (by grind) this
    · intro c c0 hc
      exact g4.bot c (sq_le' v0 c0 (by rw [← av]; exact hc))
  · -- between
    have mid : ∀ (up : Bool) (n d : Nat), 0 < n → n < d → dSqrt up a = rndR up (((x * d + n) * 2 ^ p : Nat) : Int) (d * 2 ^ q) := fun up n d => dSqrt_mid h hx up he n d
    have dn : ∀ n d : Nat, 0 < n → n < d → ∃ r, dSqrt false a = (r, 0) ∧ Dn r (((x : Rat) + (n : Rat) / (d : Rat)) * un p q) := by
      intro n d h0 h1
      have hd := natq_pos (show 0 < d by omega)
      have hnd : 0 ≤ (n : Rat) / (d : Rat) := by rw [Rat.div_def]; exact Rat.mul_nonneg (natq_nn n) (Rat.le_of_lt (Rat.inv_pos.2 hd))
      obtain ⟨r, g1, g2⟩ := rndR_dn (A := (((x * d + n) * 2 ^ p : Nat) : Int)) (B := d * 2 ^ q) (Nat.mul_pos (by omega) (pow_pos' q)) (mid_v x n d p q (by omega)) F.zero (by rw [q_zero]; exact Rat.mul_nonneg (by grind) (Rat.le_of_lt hw))
      exact ⟨r, by rw [mid false n d h0 h1, g1], g2⟩
    have up : ∀ n d : Nat, 0 < n → n < d → ∃ r, dSqrt true a = (r, 0) ∧ Up r (((x : Rat) + (n : Rat) / (d : Rat)) * un p q) := by
      intro n d h0 h1
      have hd := natq_pos (show 0 < d by omega)
      have hnd : (n : Rat) / (d : Rat) ≤ 1 := by
        have e : (n : Rat) / (d : Rat) * (d : Rat) = (n : Rat) := Rat.div_mul_cancel (by grind)
        have := eN n d (by omega)
        refine Rat.le_of_mul_le_mul_right (c := (d : Rat)) ?_ hd
        rw [e]; grind
      have k := Rat.mul_nonneg (show 0 ≤ 1 - (n : Rat) / (d : Rat) by grind) (Rat.le_of_lt hw)
      obtain ⟨r, g1, g2⟩ := rndR_up (A := (((x * d + n) * 2 ^ p : Nat) : Int)) (B := d * 2 ^ q) (Nat.mul_pos (by omega) (pow_pos' q)) (mid_v x n d p q (by omega)) big (by rw [hbig]; grind)
      exact ⟨r, by rw [mid true n d h0 h1, g1], g2⟩
    obtain ⟨r, e1, _⟩ := dn 1 2 (by omega) (by omega)
    obtain ⟨s, e2, s2⟩ := up 1 2 (by omega) (by omega)
    have dn' : ∀ n d : Nat, 0 < n → n < d → Dn r (((x : Rat) + (n : Rat) / (d : Rat)) * un p q) := by
      intro n d h0 h1
      obtain ⟨r', g1, g2⟩ := dn n d h0 h1
      rw [e1] at g1
      rw [(Prod.mk.inj g1).1]; exact g2
    have up' : ∀ n d : Nat, 0 < n → n < d → Up s (((x : Rat) + (n : Rat) / (d : Rat)) * un p q) := by
      intro n d h0 h1
      obtain ⟨r', g1, g2⟩ := up n d h0 h1
      rw [e2] at g1
      rw [(Prod.mk.inj g1).1]; exact g2
    have divd : ∀ d : Nat, 2 ≤ d → ((d - 1 : Nat) : Rat) / (d : Rat) = 1 - 1 / (d : Rat) ∧ 0 < (d : Rat) := by
      intro d hd
      have h0 := natq_pos (show 0 < d by omega)
      have e : ((d - 1 : Nat) : Rat) + 1 = (d : Rat) := by rw [show (1 : Rat) = ((1 : Nat) : Rat) from rfl, ← Rat.natCast_add, show d - 1 + 1 = d from by omega]
      refine ⟨?_, h0⟩
      generalize ((d - 1 : Nat) : Rat) = y at *
      generalize (d : Rat) = z at *
      grind
    have one_d : ((1 : Nat) : Rat) = 1 := rfl
    have hlt : (x : Rat) * (x : Rat) < ((sqN a : Nat) : Rat) := by
      have : x * x < sqN a := Nat.lt_of_le_of_ne h.root.le he
      have := Rat.natCast_lt_natCast.2 this
      rwa [Rat.natCast_mul] at this
    have a_lo : (x : Rat) * un p q * ((x : Rat) * un p q) < a.q := by
      rw [hv]
      have := Rat.mul_pos (show 0 < ((sqN a : Nat) : Rat) - (x : Rat) * (x : Rat) by grind) hwv
      grind
    have a_hi : a.q < ((x : Rat) + 1) * un p q * (((x : Rat) + 1) * un p q) := by
      rw [hv]
      have := Rat.mul_pos (show 0 < ((x : Rat) + 1) * ((x : Rat) + 1) - ((sqN a : Nat) : Rat) by grind) hwv
      grind
    have x0 : 0 ≤ (x : Rat) * un p q := Rat.mul_nonneg (by grind) (Rat.le_of_lt hw)
    have x2 : 0 ≤ ((x : Rat) + 1) * un p q := Rat.mul_nonneg (by grind) (Rat.le_of_lt hw)
    have r0 : 0 ≤ r.q := by
      rw [← q_zero]; exact (dn' 1 2 (by omega) (by omega)).top F.zero (by rw [q_zero]; exact Rat.mul_nonneg (by rw [one_d]; grind) (Rat.le_of_lt hw))
    -- near to below
    have near1 : ∀ y : Rat, (x : Rat) * un p q < y → ∃ d : Nat, 2 ≤ d ∧ ((x : Rat) + ((1 : Nat) : Rat) / (d : Rat)) * un p q ≤ y := by
      intro y hy
      have hδ : 0 < (y - (x : Rat) * un p q) / un p q := by rw [Rat.div_def]; exact Rat.mul_pos (by grind) (Rat.inv_pos.2 hw)
      obtain ⟨d, d1, d2⟩ := arch hδ
      have d0 := (divd d d1).2
      refine ⟨d, d1, ?_⟩
      have e : (y - (x : Rat) * un p q) / un p q * un p q = y - (x : Rat) * un p q := Rat.div_mul_cancel (by grind)
      generalize (y - (x : Rat) * un p q) / un p q = δ at *
      have e3 : (1 : Rat) / (d : Rat) * (d : Rat) = 1 := Rat.div_mul_cancel (by grind)
      have k1 : (1 : Rat) / (d : Rat) ≤ δ := by
        refine Rat.le_of_mul_le_mul_right (c := (d : Rat)) ?_ d0
        rw [e3]; grind
      rw [one_d]
      have := Rat.mul_nonneg (show 0 ≤ δ - 1 / (d : Rat) by grind) (Rat.le_of_lt hw)
      grind
    have near2 : ∀ y : Rat, y < ((x : Rat) + 1) * un p q → ∃ d : Nat, 2 ≤ d ∧ y ≤ ((x : Rat) + ((d - 1 : Nat) : Rat) / (d : Rat)) * un p q := by
      intro y hy
      have hδ : 0 < (((x : Rat) + 1) * un p q - y) / un p q := by rw [Rat.div_def]; exact Rat.mul_pos (by grind) (Rat.inv_pos.2 hw)
      obtain ⟨d, d1, d2⟩ := arch hδ
      obtain ⟨dd, d0⟩ := divd d d1
      refine ⟨d, d1, ?_⟩
      have e : (((x : Rat) + 1) * un p q - y) / un p q * un p q = ((x : Rat) + 1) * un p q - y := Rat.div_mul_cancel (by grind)
      generalize (((x : Rat) + 1) * un p q - y) / un p q = δ at *
      have e3 : (1 : Rat) / (d : Rat) * (d : Rat) = 1 := Rat.div_mul_cancel (by grind)
      have k1 : (1 : Rat) / (d : Rat) ≤ δ := by
        refine Rat.le_of_mul_le_mul_right (c := (d : Rat)) ?_ d0
        rw [e3]; grind
      rw [dd]
      have := Rat.mul_nonneg (show 0 ≤ δ - 1 / (d : Rat) by grind) (Rat.le_of_lt hw)
      grind
    have r3 : r.q ≤ (x : Rat) * un p q := by
      apply Rat.not_lt.1
      intro g
      obtain ⟨d, d1, d2⟩ := near1 ((r.q + (x : Rat) * un p q) / 2) (by grind)
      have := (dn' 1 d (by omega) (by omega)).le
      grind
    have s3 : ((x : Rat) + 1) * un p q ≤ s.q := by
      apply Rat.not_lt.1
      intro g
      obtain ⟨d, d1, d2⟩ := near2 ((s.q + ((x : Rat) + 1) * un p q) / 2) (by grind)
      have := (up' (d - 1) d (by omega) (by omega)).ge
      grind
    refine ⟨⟨r, e1, r0, ?_, ?_⟩, ⟨s, e2, by grind, ?_, ?_⟩⟩
    · have := sq_bd (x := r.q) (m := (x : Rat) * un p q) (by grind) r3
      grind
    · intro c c0 hc
      have hlt := sq_lt c0 x2 (by grind)
      obtain ⟨d, d1, d2⟩ := near2 c.q hlt
      exact (dn' (d - 1) d (by omega) (by omega)).top c d2
    · have := sq_bd (x := ((x : Rat) + 1) * un p q) (m := s.q) (by grind) s3
      grind
    · intro c c0 hc
      have hlt := sq_lt x0 c0 (by grind)
      obtain ⟨d, d1, d2⟩ := near1 c.q hlt
      exact (up' 1 d (by omega) (by omega)).bot c d2
end Bu
namespace Bu
set_option linter.all false
open Rx Go

def unI (n : Int) : I := ⟨(unitOf n.toNat).lo, (unitOf n.toNat).hi⟩
def kOf (g : Int → I) (u : Int → Bool) : List SV → Dec → Option (SV × Dec × Obs)
  | [x], ds => match intS x with
    | some (.u64, n) => some (.agg [.fl (g n).lo, .fl (g n).hi], ds, [(u n, true)])
    | _ => none
  | _, _ => none
/-- names for what a draw asks -/
structure Kq where
  ib : I → Bool
  si : I → I
  co : I → I
  uo : Int → I
  u : Int → Bool
  sqrt : Int → I → I × Int
  mul : Int → I → I → I × Int
  sub : Int → I → I → I × Int
  max : Int → I → I → I × Int
  num : Int → F → I × Int
def dR (N : Kq) (a : Int) : I × Int := N.sqrt 0 (N.uo a)
def dX (N : Kq) (a b : Int) : I × Int := N.mul (dR N a).2 (dR N a).1 (N.co (N.uo b))
def dY (N : Kq) (a b : Int) : I × Int := N.mul (dX N a b).2 (dR N a).1 (N.si (N.uo b))
def dO (N : Kq) (a b : Int) : I × Int := N.num (dY N a b).2 one64
def dD (N : Kq) (a b : Int) : I × Int := N.sub (dO N a b).2 (dO N a b).1 (N.uo a)
def dN (N : Kq) (a b : Int) : I × Int := N.num (dD N a b).2 (toF 0)
def dM (N : Kq) (a b : Int) : I × Int := N.max (dN N a b).2 (dD N a b).1 (dN N a b).1
def dZ (N : Kq) (a b : Int) : I × Int := N.sqrt (dM N a b).2 (dM N a b).1
def keptI (a : I) (l h : F) : I := ⟨mnF (mxF a.lo l) h, mnF (mxF a.hi l) h⟩
def dV (N : Kq) (a b : Int) : I × I × I := (keptI (dX N a b).1 mone64 one64, keptI (dY N a b).1 mone64 one64, keptI (dZ N a b).1 (toF 0) one64)
def KqR (f : F → I × I) : Kq := ⟨fun u => inB u.lo u.hi, fun u => sinM f u.lo u.hi, fun u => cosM f u.lo u.hi, unI, fun n => decide (0 ≤ n ∧ n ≤ 18446744073709551615), cSqrt qSqrt, KTR.mul, KTR.sub, cMax, KTR.num⟩

theorem qSqrt_gen {a : F} (h0 : 0 ≤ a.q) : (∃ r, qSqrt false a = (r, 0) ∧ SqD r a) ∧ ∃ r, qSqrt true a = (r, 0) ∧ SqU r a := by
  have hk : 0 ≤ a.k := by have := q_le.1 (show F.zero.q ≤ a.q by rw [q_zero]; exact h0); exact this
  unfold qSqrt
  have hk' : ¬ a.k < 0 := by omega
  simp only [if_neg hk']
  by_cases hz : a.k = 0
  · simp only [if_pos hz]
    have ha : a = F.zero := F.ext' hz
    subst ha
    refine ⟨⟨F.zero, rfl, ?_, ?_, ?_⟩, ⟨F.zero, rfl, ?_, ?_, ?_⟩⟩
    · rw [q_zero]; exact Rat.le_refl
    · rw [q_zero]; grind
    · intro c c0 hc
      rw [q_zero] at hc ⊢
      exact sq_le' c0 Rat.le_refl (by grind)
    · rw [q_zero]; exact Rat.le_refl
    · rw [q_zero]; grind
    · intro c c0 _
      rw [q_zero]; exact c0
  · simp only [if_neg hz]
    exact sqrt_gen (by omega)
theorem qSqrt_ok {a : F} (h0 : 0 ≤ a.q) (_ : a.q ≤ 67108864) : (∃ r, qSqrt false a = (r, 0) ∧ SqD r a) ∧ ∃ r, qSqrt true a = (r, 0) ∧ SqU r a := qSqrt_gen h0
/-- roots of what is within 0 and 1 -/
theorem csqrt_ok {a : I} (ha : U01 a) : ∃ r, cSqrt qSqrt 0 a = (r, 0) ∧ U01 r ∧ SqD r.lo a.lo ∧ SqU r.hi a.hi := by
  have h1 := ha.lo; have h2 := ha.rt; have h3 := ha.hi
  obtain ⟨l, e1, l1⟩ := (qSqrt_ok h1 (by grind)).1
  obtain ⟨h, e2, l2⟩ := (qSqrt_ok (a := a.hi) (by grind) (by grind)).2
  refine ⟨⟨l, h⟩, ?_, ⟨l1.nn, ?_, ?_⟩, l1, l2⟩
  · unfold cSqrt
    rw [e1, e2, ends_ok, ask_ok (rt_q h2) rfl]
  · have := l1.le; have := l2.ge
    exact sq_le' l1.nn l2.nn (by grind)
  · rw [← one_q]; exact l2.bot one64 (by rw [one_q]; grind) (by rw [one_q]; grind)
theorem one_k2 : one64.k = 4607182418800017408 := one64_k
theorem unI_U (n : Int) (h0 : 0 ≤ n) (h1 : n ≤ 18446744073709551615) : U01 (unI n) := by
  have hn : n.toNat < 18446744073709551616 := by omega
  have a1 := unitLo_nonneg n.toNat hn
  have a2 := unitHi_le n.toNat hn
  have a3 := unitLo_k n.toNat hn
  have a4 := unitHi_k n.toNat hn
  refine ⟨?_, ?_, ?_⟩
  · rw [← q_zero]; exact q_le.2 a1
  · refine q_le.2 ?_
    show (unitLo n.toNat).k ≤ (unitOf n.toNat).hi.k
    rw [a3, a4]
    have e1 := (le_flI (k := flI ((n.toNat * Q64 : Nat) : Int) 1) (A := ((n.toNat * Q64 : Nat) : Int)) (B := 1) (by omega)).1 (Int.le_refl _)
    have e2 := (ceI_le (k := ceI ((n.toNat * Q64 : Nat) : Int) 1) (A := ((n.toNat * Q64 : Nat) : Int)) (B := 1) (by omega)).1 (Int.le_refl _)
    exact nvZ_le_iff.1 (by omega)
  · rw [← one_q]; exact q_le.2 (by rw [one_k2]; exact a2)
theorem unI_in (n : Int) (h0 : 0 ≤ n) (h1 : n ≤ 18446744073709551615) : inB (unI n).lo (unI n).hi = true := by
  obtain ⟨u1, u2, u3⟩ := unI_U n h0 h1
  unfold inB
  have z : (toF 0).q = 0 := consts.2.2.2.2.2.2.2
  rw [rt_q (a := ⟨(unI n).lo, (unI n).hi⟩) u2, decide_eq_true (q_le.1 (by rw [z]; exact u1)), decide_eq_true (q_le.1 (by rw [one_q]; exact u3))]; rfl
/-- what a draw comes to -/
structure DrawF (a b : Int) where
  r : I
  x : I
  y : I
  d : I
  z : I
structure DrawP (a b : Int) (D : DrawF a b) : Prop where
  er : dR (KqR atR) a = (D.r, 0)
  ex : dX (KqR atR) a b = (D.x, 0)
  ey : dY (KqR atR) a b = (D.y, 0)
  ed : dD (KqR atR) a b = (D.d, 0)
  ez : dZ (KqR atR) a b = (D.z, 0)
  ru : U01 D.r
  du : U01 D.d
  zu : U01 D.z
  r1 : SqD D.r.lo (unI a).lo
  r2 : SqU D.r.hi (unI a).hi
  d1 : Dn D.d.lo (1 - (unI a).hi.q)
  d2 : Up D.d.hi (1 - (unI a).lo.q)
  z1 : SqD D.z.lo D.d.lo
  z2 : SqU D.z.hi D.d.hi
  mx : AllR D.x (D.r.lo.q * (cosM atR (unI b).lo (unI b).hi).lo.q) (D.r.lo.q * (cosM atR (unI b).lo (unI b).hi).hi.q) (D.r.hi.q * (cosM atR (unI b).lo (unI b).hi).lo.q) (D.r.hi.q * (cosM atR (unI b).lo (unI b).hi).hi.q)
  my : AllR D.y (D.r.lo.q * (sinM atR (unI b).lo (unI b).hi).lo.q) (D.r.lo.q * (sinM atR (unI b).lo (unI b).hi).hi.q) (D.r.hi.q * (sinM atR (unI b).lo (unI b).hi).lo.q) (D.r.hi.q * (sinM atR (unI b).lo (unI b).hi).hi.q)
theorem zero0_q : (toF 0).q = 0 := consts.2.2.2.2.2.2.2
theorem draw_ok {a b : Int} (h0 : 0 ≤ a) (h1 : a ≤ 18446744073709551615) : ∃ D : DrawF a b, DrawP a b D := by
  have hu := unI_U a h0 h1
  have u1 := hu.lo; have u2 := hu.rt; have u3 := hu.hi
  obtain ⟨r, e1, ru, r1, r2⟩ := csqrt_ok hu
  obtain ⟨x, e2, hx⟩ := cMul_ok ru.sm (cosM_in (unI b).lo (unI b).hi).sm
  obtain ⟨y, e3, hy⟩ := cMul_ok ru.sm (sinM_in (unI b).lo (unI b).hi).sm
  have oU : U01 ⟨one64, one64⟩ := ⟨by show 0 ≤ one64.q; rw [one_q]; grind, Rat.le_refl, by show one64.q ≤ 1; rw [one_q]; exact Rat.le_refl⟩
  obtain ⟨d, e4, d1, d2⟩ := cSub_ok oU.sm hu.sm
  simp only [one_q] at d1 d2
  have dU : U01 d := by
    refine ⟨?_, ?_, ?_⟩
    · rw [← q_zero]; exact d1.top F.zero (by rw [q_zero]; grind)
    · have := d1.le; have := d2.ge; grind
    · rw [← one_q]; exact d2.bot one64 (by rw [one_q]; grind)
  have d3 := dU.lo; have d4 := dU.rt
  have hz : ∀ x : F, 0 ≤ x.q → mxF x (toF 0) = x := by
    intro x hx
    have := q_le.1 (show (toF 0).q ≤ x.q by rw [zero0_q]; exact hx)
    unfold mxF; rw [if_neg (by omega)]
  have e5 : cMax 0 d ⟨toF 0, toF 0⟩ = (d, 0) := by
    unfold cMax
    rw [ask_ok (by rw [rt_q d4, show Bu.rt ⟨toF 0, toF 0⟩ = true from decide_eq_true (Int.le_refl _)]; rfl) rfl]
    unfold maxI
    simp only [hz _ d3, hz d.hi (by grind)]
  obtain ⟨z, e6, zu, z1, z2⟩ := csqrt_ok dU
  have f1 : dR (KqR atR) a = (r, 0) := e1
  have f2 : dX (KqR atR) a b = (x, 0) := by unfold dX; simp only [f1]; exact e2
  have f3 : dY (KqR atR) a b = (y, 0) := by unfold dY; simp only [f1, f2]; exact e3
  have f4 : dO (KqR atR) a b = (⟨one64, one64⟩, 0) := by unfold dO; simp only [f3]; exact cNum_ok one64
  have f5 : dD (KqR atR) a b = (d, 0) := by unfold dD; simp only [f4]; exact e4
  have f6 : dN (KqR atR) a b = (⟨toF 0, toF 0⟩, 0) := by unfold dN; simp only [f5]; exact cNum_ok (toF 0)
  have f7 : dM (KqR atR) a b = (d, 0) := by unfold dM; simp only [f5, f6]; exact e5
  have f8 : dZ (KqR atR) a b = (z, 0) := by unfold dZ; simp only [f7]; exact e6
  exact ⟨⟨r, x, y, d, z⟩, ⟨f1, f2, f3, f5, f8, ru, dU, zu, r1, r2, d1, d2, z1, z2, hx, hy⟩⟩
end Bu
namespace Bu
set_option linter.all false
open Rx Go

def midI (a b : F) : F := (dAdd false a (dMul false q2 (dSub false b a).1).1).1
def midM (a b c d e f : F) : F × F × F := (midI a b, midI c d, midI e f)
def rt3 (a b c d e f : F) : Bool := rt ⟨a, b⟩ && (rt ⟨c, d⟩ && rt ⟨e, f⟩)
def kMid (p : F → F → F → F → F → F → Bool) (md : F → F → F → F → F → F → F × F × F) : List SV → Dec → Option (SV × Dec × Obs)
  | [.agg [.fl a, .fl b, .fl c, .fl d, .fl e, .fl f]], ds => (takeB ds (p a b c d e f)).map fun r => (bif r.1 then .tup [.agg [.fl (md a b c d e f).1, .fl (md a b c d e f).2.1, .fl (md a b c d e f).2.2], .i .i64 0] else .tup [.agg [.fl F.zero, .fl F.zero, .fl F.zero], .i .i64 20], r.2.1, r.2.2)
  | _, _ => none
end Bu
namespace Bu
set_option linter.all false
open Rx Go

set_option maxRecDepth 100000 in
theorem one64_nv : nv 4607182418800017408 = S := of_decide_eq_true (by decide +kernel)
theorem near_int {n : Nat} (h : n ≤ 9007199254740992) : FloatKind.f64.nearest (n : Int) = (F.dy n 0).b := by
  have := nat_conv (m := n) (by have : P = 4503599627370496 := rfl; omega)
  rw [← this]; rfl
/-- a number and 0 -/
theorem add_zero_F (b : F) : Ieee.double.add b.b (toF 0).b = some b.b := by
  have ez : (toF 0).z = 0 := by rw [show toF 0 = F.zero from F.ext' (by decide +kernel)]; exact F.zero_z
  rw [add_F, ez, Int.add_zero]
  by_cases h : b.k = 0
  · have e : b = F.zero := F.ext' h
    subst e
    rw [if_pos F.zero_z]; rfl
  · rw [if_neg (fun k => h ((z_zero _).1 k))]
    congr 1
    rw [z_natAbs', near_exact (r := b.k.natAbs) (by decide) (by omega)]
    have := b.hk
    rw [show min b.k.natAbs T = b.k.natAbs from by omega, ← word_sign _ h]
    congr 1
    exact decide_eq_decide.2 (z_sign _)
end Bu
namespace Go.Proofs.YtgjohjgmlleebaaGreat
set_option linter.all false
open Go.RowKit Bu Rx

theorem fbE : ExtOne Tryz.prog 126 oFb := by
  intro args x ob h _ m vs hvs
  unfold oFb at h
  split at h
  · simp only [Option.some.injEq, Prod.mk.injEq] at h; obtain ⟨rfl, _⟩ := h
    simp only [dens, den, Option.bind_some, Option.map_some, Option.some.injEq] at hvs; subst hvs
    exact ⟨_, rfl, fun w => run_fbits _ w⟩
  · simp only [Option.some.injEq, Prod.mk.injEq] at h; obtain ⟨rfl, _⟩ := h
    simp only [dens, den, Option.bind_some, Option.map_some, Option.some.injEq] at hvs; subst hvs
    exact ⟨_, rfl, fun w => run_fbits _ w⟩
  · cases h
theorem ffE : ExtOne Tryz.prog 125 oFf := by
  intro args x ob h _ m vs hvs
  unfold oFf at h
  split at h
  · simp only [Option.some.injEq, Prod.mk.injEq] at h; obtain ⟨rfl, _⟩ := h
    simp only [dens, den, Option.bind_some, Option.map_some, Option.some.injEq] at hvs; subst hvs
    exact ⟨_, rfl, fun w => run_ffrom _ w⟩
  · simp only [Option.some.injEq, Prod.mk.injEq] at h; obtain ⟨rfl, _⟩ := h
    simp only [dens, den, Option.bind_some, Option.map_some, Option.some.injEq] at hvs; subst hvs
    exact ⟨_, rfl, fun w => run_ffrom _ w⟩
  · cases h
theorem add64_f (x y c : Nat) (hc : c ≤ 1) (w : World) : (callFunc 207 #[.int .u64 x, .int .u64 y, .int .u64 c]).run Tryz.prog w =
    .ok (.value (.tuple #[.int .u64 (((x + y + c) % 18446744073709551616 : Nat) : Int), .int .u64 (((x + y + c) / 18446744073709551616 : Nat) : Int)])) w := by
  rw [run_callFunc_extern (e := add64Entry) Tryz.func207 (by kernel_rfl) (by kernel_rfl) (by kernel_rfl) (by kernel_rfl), run_add64 x y c (by omega) (by omega) (by omega) (by omega)]
  simp only [Result.andThen]
  congr 5 <;> omega
theorem sub64_f (x y b : Nat) (hb : b ≤ 1) (w : World) : (callFunc 208 #[.int .u64 x, .int .u64 y, .int .u64 b]).run Tryz.prog w =
    .ok (.value (.tuple #[.int .u64 (((x + 18446744073709551616 - y - b) % 18446744073709551616 : Nat) : Int), .int .u64 ((if x < y + b then 1 else 0 : Nat) : Int)])) w := by
  rw [run_callFunc_extern (e := sub64Entry) Tryz.func208 (by kernel_rfl) (by kernel_rfl) (by kernel_rfl) (by kernel_rfl), run_sub64 x y b hb]
  rfl
theorem plains3 {x y z : SV} {vs : List Value} {a b c : Value} (hx : plain x = some a) (hy : plain y = some b) (hz : plain z = some c) {m : Nms} (h : dens m [x, y, z] = some vs) : vs = [a, b, c] := by
  have := dens_plains (m := m) (plains_cons hx (plains_cons hy (plains_cons hz plains_nil)))
  rw [h] at this
  exact Option.some.inj this
theorem addE : ExtOne Tryz.prog 207 oAdd64 := by
  intro args x ob h ho m vs hvs
  unfold oAdd64 at h
  split at h
  · split at h
    · rename_i a b c ha hb hc
      simp only [Option.some.injEq, Prod.mk.injEq] at h; obtain ⟨rfl, rfl⟩ := h
      have h1 := of_decide_eq_true (obs1 ho)
      obtain rfl := plains3 (intS_plain ha) (intS_plain hb) (intS_plain hc) hvs
      obtain ⟨p, rfl⟩ := Int.eq_ofNat_of_zero_le h1.1
      obtain ⟨q, rfl⟩ := Int.eq_ofNat_of_zero_le h1.2.1
      obtain ⟨r, rfl⟩ := Int.eq_ofNat_of_zero_le h1.2.2.1
      refine ⟨_, rfl, fun w => ?_⟩
      rw [show ([Value.int .u64 (p : Int), .int .u64 (q : Int), .int .u64 (r : Int)] : List Value).toArray = #[.int .u64 (p : Int), .int .u64 (q : Int), .int .u64 (r : Int)] from rfl, add64_f p q r (by omega)]
      have e1 : (((p + q + r) % 18446744073709551616 : Nat) : Int) = ((p : Int) + q + r) % 18446744073709551616 := by omega
      have e2 : (((p + q + r) / 18446744073709551616 : Nat) : Int) = ((p : Int) + q + r) / 18446744073709551616 := by omega
      rw [e1, e2]
    · cases h
  · cases h
theorem subE : ExtOne Tryz.prog 208 oSub64 := by
  intro args x ob h ho m vs hvs
  unfold oSub64 at h
  split at h
  · split at h
    · rename_i a b c ha hb hc
      simp only [Option.some.injEq, Prod.mk.injEq] at h; obtain ⟨rfl, rfl⟩ := h
      have h1 := of_decide_eq_true (obs1 ho)
      obtain rfl := plains3 (intS_plain ha) (intS_plain hb) (intS_plain hc) hvs
      obtain ⟨p, rfl⟩ := Int.eq_ofNat_of_zero_le h1.1
      obtain ⟨q, rfl⟩ := Int.eq_ofNat_of_zero_le h1.2.1
      obtain ⟨r, rfl⟩ := Int.eq_ofNat_of_zero_le h1.2.2.1
      refine ⟨_, rfl, fun w => ?_⟩
      rw [show ([Value.int .u64 (p : Int), .int .u64 (q : Int), .int .u64 (r : Int)] : List Value).toArray = #[.int .u64 (p : Int), .int .u64 (q : Int), .int .u64 (r : Int)] from rfl, sub64_f p q r (by omega)]
      have e1 : (((p + 18446744073709551616 - q - r) % 18446744073709551616 : Nat) : Int) = ((p : Int) - q - r) % 18446744073709551616 := by omega
      have e2 : ((if p < q + r then 1 else 0 : Nat) : Int) = if (p : Int) < q + r then 1 else 0 := by split <;> split <;> omega
      rw [e1, e2]
    · cases h
  · cases h
def EG : ExtF := lookE [(126, oFb), (125, oFf), (207, oAdd64), (208, oSub64)]
theorem goodG : Rx.Good Tryz.prog EG := Rx.Good.of (by kernel_rfl) (by kernel_rfl) (.cons fbE (.cons ffE (.cons addE (.cons subE (.nil _)))))
theorem oracle0 : OracleOk Tryz.prog (lookO []) := .nil _

theorem wadd_w (a b c d : Int) (h : u64B a = true ∧ u64B b = true ∧ u64B c = true ∧ u64B d = true) (w : World) :
    Calls Tryz.prog 161 #[.agg #[.int .u64 a, .int .u64 b], .agg #[.int .u64 c, .int .u64 d]] w fun e w' =>
      e = .returned (.agg #[.int .u64 ((a + c + (b + d + 0) / 18446744073709551616) % 18446744073709551616), .int .u64 ((b + d + 0) % 18446744073709551616)]) ∧ Below w.heap.size w w' := by
  unfold u64B at h
  simp only [decide_eq_true_eq] at h
  refine calls_of_run goodG oracle0 60 (g := 161) (args := [.agg [.si .u64 a, .si .u64 b], .agg [.si .u64 c, .si .u64 d]]) (ds := some []) (x := .agg [.si .u64 ((a + c + (b + d + 0) / 18446744073709551616) % 18446744073709551616), .si .u64 ((b + d + 0) % 18446744073709551616)])
    (M' := [⟨149, [.si .u64 a, .si .u64 b], .ex⟩, ⟨149, [.si .u64 c, .si .u64 d], .ex⟩, ⟨149, [.si .u64 ((a + c + (b + d + 0) / 18446744073709551616) % 18446744073709551616), .si .u64 ((b + d + 0) % 18446744073709551616)], .ex⟩]) (ds' := some [])
    (ob := [(decide (0 ≤ a ∧ 0 ≤ c ∧ 0 ≤ (b + d + 0) / 18446744073709551616 ∧ (b + d + 0) / 18446744073709551616 ≤ 1), true), (decide (0 ≤ b ∧ 0 ≤ d ∧ (0 : Int) ≤ 0 ∧ (0 : Int) ≤ 1), true)]) (by kernel_rfl) (ObsOk.of_B ?_) rfl rfl w
  have h1 : decide (0 ≤ a ∧ 0 ≤ c ∧ 0 ≤ (b + d + 0) / 18446744073709551616 ∧ (b + d + 0) / 18446744073709551616 ≤ 1) = true := decide_eq_true (by omega)
  have h2 : decide (0 ≤ b ∧ 0 ≤ d ∧ (0 : Int) ≤ 0 ∧ (0 : Int) ≤ 1) = true := decide_eq_true (by omega)
  simp only [obsB, List.all_cons, List.all_nil, h1, h2, beq_self_eq_true, Bool.and_self]
theorem wsub_w (a b c d : Int) (h : u64B a = true ∧ u64B b = true ∧ u64B c = true ∧ u64B d = true) (w : World) :
    Calls Tryz.prog 162 #[.agg #[.int .u64 a, .int .u64 b], .agg #[.int .u64 c, .int .u64 d]] w fun e w' =>
      e = .returned (.agg #[.int .u64 ((a - c - (if b < d + 0 then 1 else 0)) % 18446744073709551616), .int .u64 ((b - d - 0) % 18446744073709551616)]) ∧ Below w.heap.size w w' := by
  unfold u64B at h
  simp only [decide_eq_true_eq] at h
  refine calls_of_run goodG oracle0 60 (g := 162) (args := [.agg [.si .u64 a, .si .u64 b], .agg [.si .u64 c, .si .u64 d]]) (ds := some []) (x := .agg [.si .u64 ((a - c - (if b < d + 0 then 1 else 0)) % 18446744073709551616), .si .u64 ((b - d - 0) % 18446744073709551616)])
    (M' := [⟨149, [.si .u64 a, .si .u64 b], .ex⟩, ⟨149, [.si .u64 c, .si .u64 d], .ex⟩, ⟨149, [.si .u64 ((a - c - (if b < d + 0 then 1 else 0)) % 18446744073709551616), .si .u64 ((b - d - 0) % 18446744073709551616)], .ex⟩]) (ds' := some [])
    (ob := [(decide (0 ≤ a ∧ 0 ≤ c ∧ 0 ≤ (if b < d + 0 then 1 else 0 : Int) ∧ (if b < d + 0 then 1 else 0 : Int) ≤ 1 ∧ a ≤ 18446744073709551615 ∧ c ≤ 18446744073709551615), true), (decide (0 ≤ b ∧ 0 ≤ d ∧ (0 : Int) ≤ 0 ∧ (0 : Int) ≤ 1 ∧ b ≤ 18446744073709551615 ∧ d ≤ 18446744073709551615), true)]) (by kernel_rfl) (ObsOk.of_B ?_) rfl rfl w
  have h1 : decide (0 ≤ a ∧ 0 ≤ c ∧ 0 ≤ (if b < d + 0 then 1 else 0 : Int) ∧ (if b < d + 0 then 1 else 0 : Int) ≤ 1 ∧ a ≤ 18446744073709551615 ∧ c ≤ 18446744073709551615) = true := decide_eq_true (by split <;> omega)
  have h2 : decide (0 ≤ b ∧ 0 ≤ d ∧ (0 : Int) ≤ 0 ∧ (0 : Int) ≤ 1 ∧ b ≤ 18446744073709551615 ∧ d ≤ 18446744073709551615) = true := decide_eq_true (by omega)
  simp only [obsB, List.all_cons, List.all_nil, h1, h2, beq_self_eq_true, Bool.and_self]
end Go.Proofs.YtgjohjgmlleebaaGreat
namespace Go.Proofs.YtgjohjgmlleebaaGreat
set_option linter.all false
open Go.RowKit Bu Rx

def oParts : List SV → Dec → Option (SV × Dec × Obs)
  | [.fl x], ds => (takeB ds (sg x)).map fun r => (.tup [.b r.1, .si .u64 (mn x), .si .i64 ((ex x : Int) - 1074)], r.2.1, r.2.2)
  | _, _ => none
def oDown : List SV → Dec → Option (SV × Dec × Obs)
  | [.agg [x, y], z], ds => match intS x, intS y, intS z with
    | some (.u64, a), some (.u64, b), some (.i64, n) => (takeB ds (decide (wn a b % 2 ^ n.toNat ≠ 0))).map fun r =>
      (.tup [.agg [.si .u64 (hi (wn a b / 2 ^ n.toNat)), .si .u64 (lo (wn a b / 2 ^ n.toNat))], .b r.1], r.2.1, (u64B a, true) :: (u64B b, true) :: (decide (0 ≤ n), true) :: r.2.2)
    | _, _, _ => none
  | _, _ => none
def oRound : List SV → Dec → Option (SV × Dec × Obs)
  | [.agg [.b minus, x, y, .b more, z], .b up], ds => match intS x, intS y, intS z with
    | some (.u64, a), some (.u64, b), some (.i64, e) => some (.tup [.fl (rndG minus (wn a b) more e up).1, .si .i64 (rndG minus (wn a b) more e up).2], ds, [(u64B a, true), (u64B b, true), (decide (-5000 ≤ e ∧ e ≤ 5000), true)])
    | _, _, _ => none
  | _, _ => none
def oWadd : List SV → Dec → Option (SV × Dec × Obs)
  | [.agg [x, y], .agg [z, u]], ds => match intS x, intS y, intS z, intS u with
    | some (.u64, a), some (.u64, b), some (.u64, c), some (.u64, d) => some (.agg [.si .u64 ((a + c + (b + d + 0) / 18446744073709551616) % 18446744073709551616), .si .u64 ((b + d + 0) % 18446744073709551616)], ds, [(u64B a, true), (u64B b, true), (u64B c, true), (u64B d, true)])
    | _, _, _, _ => none
  | _, _ => none
def oWsub : List SV → Dec → Option (SV × Dec × Obs)
  | [.agg [x, y], .agg [z, u]], ds => match intS x, intS y, intS z, intS u with
    | some (.u64, a), some (.u64, b), some (.u64, c), some (.u64, d) => some (.agg [.si .u64 ((a - c - (if b < d + 0 then 1 else 0)) % 18446744073709551616), .si .u64 ((b - d - 0) % 18446744073709551616)], ds, [(u64B a, true), (u64B b, true), (u64B c, true), (u64B d, true)])
    | _, _, _, _ => none
  | _, _ => none

theorem rightG : PlainOk Tryz.prog 74 oRight := by
  intro args ds x ds' ob h ho
  unfold oRight at h
  split at h
  · rename_i x
    simp only [Option.some.injEq, Prod.mk.injEq] at h; obtain ⟨rfl, _, _⟩ := h
    refine ⟨[.float .f64 x.b], .bool true, rfl, rfl, fun w => (right_F_w x w).mono ?_⟩
    rintro e w' ⟨rfl, rfl⟩; exact ⟨rfl, Below.refl _ _⟩
  · rename_i v
    split at h
    · rename_i hb
      simp only [Option.some.injEq, Prod.mk.injEq] at h; obtain ⟨rfl, _, rfl⟩ := h
      have hr := takeB_ok hb ho
      obtain ⟨y, rfl⟩ := F_of_right hr.symm
      refine ⟨[.float .f64 y.b], .bool true, rfl, rfl, fun w => (right_F_w y w).mono ?_⟩
      rintro e w' ⟨rfl, rfl⟩; exact ⟨rfl, Below.refl _ _⟩
    · rename_i o hb
      simp only [Option.some.injEq, Prod.mk.injEq] at h; obtain ⟨rfl, _, rfl⟩ := h
      have hr := takeB_ok hb (ObsOk.right (a := [_]) ho)
      have hlt := Nat.blt_eq.mp (ho _ (List.mem_cons_self ..))
      refine ⟨[.float .f64 v], .bool false, rfl, rfl, fun w => (right_no_w v hlt hr.symm w).mono ?_⟩
      rintro e w' ⟨rfl, rfl⟩; exact ⟨rfl, Below.refl _ _⟩
    · cases h
  · cases h
theorem partsG : PlainOk Tryz.prog 91 oParts := by
  intro args ds x ds' ob h ho
  unfold oParts at h
  split at h
  · rename_i x
    simp only [Option.map_eq_some_iff, Prod.mk.injEq] at h
    obtain ⟨⟨d, _, _⟩, h1, rfl, rfl, rfl⟩ := h
    refine ⟨[.float .f64 x.b], .tuple #[.bool d, .int .u64 (mn x), .int .i64 ((ex x : Int) - 1074)], rfl, rfl, fun w => (parts_F x w).mono ?_⟩
    rintro e w' ⟨rfl, rfl⟩
    rw [takeB_ok h1 ho]
    exact ⟨rfl, Below.refl _ _⟩
  · cases h
theorem u64_of {n : Int} (h : u64B n = true) : 0 ≤ n ∧ n ≤ 18446744073709551615 := of_decide_eq_true h
theorem downG : PlainOk Tryz.prog 156 oDown := by
  intro args ds x ds' ob h ho
  unfold oDown at h
  split at h
  · rename_i x y z
    split at h
    · rename_i a b n ha hb hn
      simp only [Option.map_eq_some_iff, Prod.mk.injEq] at h
      obtain ⟨⟨d, _, o⟩, h1, rfl, rfl, rfl⟩ := h
      have k1 := u64_of (ho (u64B a, true) (by simp))
      have k2 := u64_of (ho (u64B b, true) (by simp))
      have k3 := of_decide_eq_true (ho (decide (0 ≤ n), true) (by simp))
      have ho' : ObsOk o := fun p hp => ho p (by simp [hp])
      obtain ⟨q, rfl⟩ := Int.eq_ofNat_of_zero_le k3
      have hd := takeB_ok h1 ho'
      simp only [Int.toNat_natCast] at hd ⊢
      refine ⟨[.agg #[.int .u64 a, .int .u64 b], .int .i64 q], .tuple #[.agg #[.int .u64 (hi (wn a b / 2 ^ q)), .int .u64 (lo (wn a b / 2 ^ q))], .bool d], plains_cons (plain_agg (plains_cons (intS_plain ha) (plains_cons (intS_plain hb) plains_nil))) (plains_cons (intS_plain hn) plains_nil), rfl, fun w => ?_⟩
      rw [hd]
      exact down_w a b q w k1.1 k1.2 k2.1 k2.2
    · cases h
  · cases h
theorem roundG : PlainOk Tryz.prog 92 oRound := by
  intro args ds x ds' ob h ho
  unfold oRound at h
  split at h
  · rename_i minus x y more z up
    split at h
    · rename_i a b e ha hb he
      simp only [Option.some.injEq, Prod.mk.injEq] at h
      obtain ⟨rfl, rfl, rfl⟩ := h
      have k1 := u64_of (ho (u64B a, true) (by simp))
      have k2 := u64_of (ho (u64B b, true) (by simp))
      have k3 := of_decide_eq_true (ho (decide (-5000 ≤ e ∧ e ≤ 5000), true) (by simp))
      exact ⟨[.agg #[.bool minus, .int .u64 a, .int .u64 b, .bool more, .int .i64 e], .bool up], .tuple #[.float .f64 (rndG minus (wn a b) more e up).1.b, .int .i64 (rndG minus (wn a b) more e up).2],
        plains_cons (plain_agg (plains_cons rfl (plains_cons (intS_plain ha) (plains_cons (intS_plain hb) (plains_cons rfl (plains_cons (intS_plain he) plains_nil)))))) (plains_cons rfl plains_nil), rfl, fun w => rounded_w minus more up a b e w k1.1 k1.2 k2.1 k2.2 k3.1 k3.2⟩
    · cases h
  · cases h
theorem waddG : PlainOk Tryz.prog 161 oWadd := by
  intro args ds x ds' ob h ho
  unfold oWadd at h
  split at h
  · rename_i x y z u
    split at h
    · rename_i a b c d ha hb hc hd
      simp only [Option.some.injEq, Prod.mk.injEq] at h
      obtain ⟨rfl, rfl, rfl⟩ := h
      exact ⟨[.agg #[.int .u64 a, .int .u64 b], .agg #[.int .u64 c, .int .u64 d]], _, plains_cons (plain_agg (plains_cons (intS_plain ha) (plains_cons (intS_plain hb) plains_nil))) (plains_cons (plain_agg (plains_cons (intS_plain hc) (plains_cons (intS_plain hd) plains_nil))) plains_nil), rfl,
        fun w => wadd_w a b c d ⟨ho (u64B a, true) (by simp), ho (u64B b, true) (by simp), ho (u64B c, true) (by simp), ho (u64B d, true) (by simp)⟩ w⟩
    · cases h
  · cases h
theorem wsubG : PlainOk Tryz.prog 162 oWsub := by
  intro args ds x ds' ob h ho
  unfold oWsub at h
  split at h
  · rename_i x y z u
    split at h
    · rename_i a b c d ha hb hc hd
      simp only [Option.some.injEq, Prod.mk.injEq] at h
      obtain ⟨rfl, rfl, rfl⟩ := h
      exact ⟨[.agg #[.int .u64 a, .int .u64 b], .agg #[.int .u64 c, .int .u64 d]], _, plains_cons (plain_agg (plains_cons (intS_plain ha) (plains_cons (intS_plain hb) plains_nil))) (plains_cons (plain_agg (plains_cons (intS_plain hc) (plains_cons (intS_plain hd) plains_nil))) plains_nil), rfl,
        fun w => wsub_w a b c d ⟨ho (u64B a, true) (by simp), ho (u64B b, true) (by simp), ho (u64B c, true) (by simp), ho (u64B d, true) (by simp)⟩ w⟩
    · cases h
  · cases h
def OG1 : OracleF := lookO [(74, plainO oRight), (91, plainO oParts), (156, plainO oDown), (92, plainO oRound), (161, plainO oWadd), (162, plainO oWsub)]
theorem oracleG1 : OracleOk Tryz.prog OG1 := .cons rightG.of (.cons partsG.of (.cons downG.of (.cons roundG.of (.cons waddG.of (.cons wsubG.of (.nil _))))))
end Go.Proofs.YtgjohjgmlleebaaGreat
namespace Go.Proofs.YtgjohjgmlleebaaGreat
set_option linter.all false
open Go.RowKit Bu Rx

theorem kParts_R : kParts KR = oParts := rfl
theorem kDown_R : kDown KR = oDown := rfl
theorem kRound_R : kRound KR = oRound := rfl
theorem kWadd_R : kWadd KR = oWadd := rfl
theorem kWsub_R : kWsub KR = oWsub := rfl
def OGK (K : Kd) : OracleF := lookO [(74, plainO oRight), (91, plainO (kParts K)), (156, plainO (kDown K)), (92, plainO (kRound K)), (161, plainO (kWadd K)), (162, plainO (kWsub K))]
theorem oracleGK : OracleOk Tryz.prog (OGK KR) := by
  unfold OGK
  rw [kParts_R, kDown_R, kRound_R, kWadd_R, kWsub_R]
  exact oracleG1
end Go.Proofs.YtgjohjgmlleebaaGreat
namespace Go.Proofs.YtgjohjgmlleebaaGreat
set_option linter.all false
open Go.RowKit Bu Rx

def kP (K : Kd) (a b : F) (same more up sa : Bool) : SV := .tup [.fl (K.rF sa (hK K same more a b) (lK K same more a b) more (eK K a) up), .si .i64 (K.rI sa (hK K same more a b) (lK K same more a b) more (eK K a) up)]
def gtK (a b : Int) (d : Bool) : Bool × Bool := (decide (a > b), d)
def eqK (a b : Int) (d : Bool) : Bool × Bool := (decide (a = b), d)

theorem addRun (x y a b : F) (up : Bool) {ds : List Bool} {ob : Obs} {same more sa : Bool} (h : valR ((run Tryz.prog EG (OGK KR) 100).1 101 [.fl x, .fl y, .b up] [] (some ds)) = some (kP KR a b same more up sa, some [], ob)) (ho : obsB ob = true)
    (hq : rndG sa (wn (hA same more a b) (lA same more a b)) more (eI a) up = dAdd up x y) (w : World) :
    Calls Tryz.prog 101 #[.float .f64 x.b, .float .f64 y.b, .bool up] w fun e w' => e = .returned (.tuple #[.float .f64 (dAdd up x y).1.b, .int .i64 (dAdd up x y).2]) ∧ Below w.heap.size w w' := by
  rw [← hq]
  exact calls_of_val goodG oracleGK 100 h (ObsOk.of_B ho) rfl rfl w

def ob_far (K : Kd) (x y : F) : Obs := [gtK (K.ex y) (K.ex x) true]
theorem run_far_000 (K : Kd) (x y : F) (up : Bool) : valR ((run Tryz.prog EG (OGK K) 100).1 101 [.fl x, .fl y, .b up] [] (some [false, false, true, false])) = some (kP K y x true false up false, some [], obK K true false y x ++ ob_far K x y ++ [(K.sg y, false), (K.sg x, false)]) := by kernel_rfl
theorem run_far_001 (K : Kd) (x y : F) (up : Bool) : valR ((run Tryz.prog EG (OGK K) 100).1 101 [.fl x, .fl y, .b up] [] (some [false, true, true, false])) = some (kP K y x false false up true, some [], obK K false false y x ++ ob_far K x y ++ [(K.sg y, true), (K.sg x, false)]) := by kernel_rfl
theorem run_far_010 (K : Kd) (x y : F) (up : Bool) : valR ((run Tryz.prog EG (OGK K) 100).1 101 [.fl x, .fl y, .b up] [] (some [true, false, true, false])) = some (kP K y x false false up false, some [], obK K false false y x ++ ob_far K x y ++ [(K.sg y, false), (K.sg x, true)]) := by kernel_rfl
theorem run_far_011 (K : Kd) (x y : F) (up : Bool) : valR ((run Tryz.prog EG (OGK K) 100).1 101 [.fl x, .fl y, .b up] [] (some [true, true, true, false])) = some (kP K y x true false up true, some [], obK K true false y x ++ ob_far K x y ++ [(K.sg y, true), (K.sg x, true)]) := by kernel_rfl
theorem run_far_100 (K : Kd) (x y : F) (up : Bool) : valR ((run Tryz.prog EG (OGK K) 100).1 101 [.fl x, .fl y, .b up] [] (some [false, false, true, true])) = some (kP K y x true true up false, some [], obK K true true y x ++ ob_far K x y ++ [(K.sg y, false), (K.sg x, false)]) := by kernel_rfl
theorem run_far_101 (K : Kd) (x y : F) (up : Bool) : valR ((run Tryz.prog EG (OGK K) 100).1 101 [.fl x, .fl y, .b up] [] (some [false, true, true, true])) = some (kP K y x false true up true, some [], obK K false true y x ++ ob_far K x y ++ [(K.sg y, true), (K.sg x, false)]) := by kernel_rfl
theorem run_far_110 (K : Kd) (x y : F) (up : Bool) : valR ((run Tryz.prog EG (OGK K) 100).1 101 [.fl x, .fl y, .b up] [] (some [true, false, true, true])) = some (kP K y x false true up false, some [], obK K false true y x ++ ob_far K x y ++ [(K.sg y, false), (K.sg x, true)]) := by kernel_rfl
theorem run_far_111 (K : Kd) (x y : F) (up : Bool) : valR ((run Tryz.prog EG (OGK K) 100).1 101 [.fl x, .fl y, .b up] [] (some [true, true, true, true])) = some (kP K y x true true up true, some [], obK K true true y x ++ ob_far K x y ++ [(K.sg y, true), (K.sg x, true)]) := by kernel_rfl
theorem add_far (x y : F) (up : Bool) (h : Fst y x) (ho : obsB (ob_far KR x y) = true) (w : World) :
    Calls Tryz.prog 101 #[.float .f64 x.b, .float .f64 y.b, .bool up] w fun e w' => e = .returned (.tuple #[.float .f64 (dAdd up x y).1.b, .int .i64 (dAdd up x y).2]) ∧ Below w.heap.size w w' := by
  have hv := add_val up h
  rw [dAdd_comm] at hv
  have hk : ∀ same, obsB (obA same (moreN (mn x) (ex y - ex x)) y x) = true := fun same => obA_ok same h
  have hob : ∀ s m p q, obsB (obA s m y x) = true → sg y = q → sg x = p → obsB (obK KR s m y x ++ ob_far KR x y ++ [(KR.sg y, q), (KR.sg x, p)]) = true := by
    intro s m p q h1 h2 h3
    rw [obsB_app, obsB_app, obK_R, h1, ho]
    exact obsB_yes h2 (obsB_yes h3 obsB_nil)
  cases hm : moreN (mn x) (ex y - ex x) <;> cases hx : sg x <;> cases hy : sg y <;> rw [hm] at hk hv <;> rw [hx, hy] at hv
  · exact addRun x y y x up (run_far_000 KR x y up) (hob _ _ _ _ (hk _) hy hx) hv w
  · exact addRun x y y x up (run_far_001 KR x y up) (hob _ _ _ _ (hk _) hy hx) hv w
  · exact addRun x y y x up (run_far_010 KR x y up) (hob _ _ _ _ (hk _) hy hx) hv w
  · exact addRun x y y x up (run_far_011 KR x y up) (hob _ _ _ _ (hk _) hy hx) hv w
  · exact addRun x y y x up (run_far_100 KR x y up) (hob _ _ _ _ (hk _) hy hx) hv w
  · exact addRun x y y x up (run_far_101 KR x y up) (hob _ _ _ _ (hk _) hy hx) hv w
  · exact addRun x y y x up (run_far_110 KR x y up) (hob _ _ _ _ (hk _) hy hx) hv w
  · exact addRun x y y x up (run_far_111 KR x y up) (hob _ _ _ _ (hk _) hy hx) hv w
def ob_low (K : Kd) (x y : F) : Obs := [eqK (K.ex y) (K.ex x) false, gtK (K.ex y) (K.ex x) false]
theorem run_low_000 (K : Kd) (x y : F) (up : Bool) : valR ((run Tryz.prog EG (OGK K) 100).1 101 [.fl x, .fl y, .b up] [] (some [false, false, false, false, false])) = some (kP K x y true false up false, some [], obK K true false x y ++ ob_low K x y ++ [(K.sg y, false), (K.sg x, false)]) := by kernel_rfl
theorem run_low_001 (K : Kd) (x y : F) (up : Bool) : valR ((run Tryz.prog EG (OGK K) 100).1 101 [.fl x, .fl y, .b up] [] (some [false, true, false, false, false])) = some (kP K x y false false up false, some [], obK K false false x y ++ ob_low K x y ++ [(K.sg y, true), (K.sg x, false)]) := by kernel_rfl
theorem run_low_010 (K : Kd) (x y : F) (up : Bool) : valR ((run Tryz.prog EG (OGK K) 100).1 101 [.fl x, .fl y, .b up] [] (some [true, false, false, false, false])) = some (kP K x y false false up true, some [], obK K false false x y ++ ob_low K x y ++ [(K.sg y, false), (K.sg x, true)]) := by kernel_rfl
theorem run_low_011 (K : Kd) (x y : F) (up : Bool) : valR ((run Tryz.prog EG (OGK K) 100).1 101 [.fl x, .fl y, .b up] [] (some [true, true, false, false, false])) = some (kP K x y true false up true, some [], obK K true false x y ++ ob_low K x y ++ [(K.sg y, true), (K.sg x, true)]) := by kernel_rfl
theorem run_low_100 (K : Kd) (x y : F) (up : Bool) : valR ((run Tryz.prog EG (OGK K) 100).1 101 [.fl x, .fl y, .b up] [] (some [false, false, false, false, true])) = some (kP K x y true true up false, some [], obK K true true x y ++ ob_low K x y ++ [(K.sg y, false), (K.sg x, false)]) := by kernel_rfl
theorem run_low_101 (K : Kd) (x y : F) (up : Bool) : valR ((run Tryz.prog EG (OGK K) 100).1 101 [.fl x, .fl y, .b up] [] (some [false, true, false, false, true])) = some (kP K x y false true up false, some [], obK K false true x y ++ ob_low K x y ++ [(K.sg y, true), (K.sg x, false)]) := by kernel_rfl
theorem run_low_110 (K : Kd) (x y : F) (up : Bool) : valR ((run Tryz.prog EG (OGK K) 100).1 101 [.fl x, .fl y, .b up] [] (some [true, false, false, false, true])) = some (kP K x y false true up true, some [], obK K false true x y ++ ob_low K x y ++ [(K.sg y, false), (K.sg x, true)]) := by kernel_rfl
theorem run_low_111 (K : Kd) (x y : F) (up : Bool) : valR ((run Tryz.prog EG (OGK K) 100).1 101 [.fl x, .fl y, .b up] [] (some [true, true, false, false, true])) = some (kP K x y true true up true, some [], obK K true true x y ++ ob_low K x y ++ [(K.sg y, true), (K.sg x, true)]) := by kernel_rfl
theorem add_low (x y : F) (up : Bool) (h : Fst x y) (ho : obsB (ob_low KR x y) = true) (w : World) :
    Calls Tryz.prog 101 #[.float .f64 x.b, .float .f64 y.b, .bool up] w fun e w' => e = .returned (.tuple #[.float .f64 (dAdd up x y).1.b, .int .i64 (dAdd up x y).2]) ∧ Below w.heap.size w w' := by
  have hv := add_val up h
  have hk : ∀ same, obsB (obA same (moreN (mn y) (ex x - ex y)) x y) = true := fun same => obA_ok same h
  have hob : ∀ s m p q, obsB (obA s m x y) = true → sg y = q → sg x = p → obsB (obK KR s m x y ++ ob_low KR x y ++ [(KR.sg y, q), (KR.sg x, p)]) = true := by
    intro s m p q h1 h2 h3
    rw [obsB_app, obsB_app, obK_R, h1, ho]
    exact obsB_yes h2 (obsB_yes h3 obsB_nil)
  cases hm : moreN (mn y) (ex x - ex y) <;> cases hx : sg x <;> cases hy : sg y <;> rw [hm] at hk hv <;> rw [hx, hy] at hv
  · exact addRun x y x y up (run_low_000 KR x y up) (hob _ _ _ _ (hk _) hy hx) hv w
  · exact addRun x y x y up (run_low_001 KR x y up) (hob _ _ _ _ (hk _) hy hx) hv w
  · exact addRun x y x y up (run_low_010 KR x y up) (hob _ _ _ _ (hk _) hy hx) hv w
  · exact addRun x y x y up (run_low_011 KR x y up) (hob _ _ _ _ (hk _) hy hx) hv w
  · exact addRun x y x y up (run_low_100 KR x y up) (hob _ _ _ _ (hk _) hy hx) hv w
  · exact addRun x y x y up (run_low_101 KR x y up) (hob _ _ _ _ (hk _) hy hx) hv w
  · exact addRun x y x y up (run_low_110 KR x y up) (hob _ _ _ _ (hk _) hy hx) hv w
  · exact addRun x y x y up (run_low_111 KR x y up) (hob _ _ _ _ (hk _) hy hx) hv w
def ob_top (K : Kd) (x y : F) : Obs := [gtK (K.mn y) (K.mn x) true, eqK (K.ex y) (K.ex x) true, gtK (K.ex y) (K.ex x) false]
theorem run_top_000 (K : Kd) (x y : F) (up : Bool) : valR ((run Tryz.prog EG (OGK K) 100).1 101 [.fl x, .fl y, .b up] [] (some [false, false, false, true, true, false])) = some (kP K y x true false up false, some [], obK K true false y x ++ ob_top K x y ++ [(K.sg y, false), (K.sg x, false)]) := by kernel_rfl
theorem run_top_001 (K : Kd) (x y : F) (up : Bool) : valR ((run Tryz.prog EG (OGK K) 100).1 101 [.fl x, .fl y, .b up] [] (some [false, true, false, true, true, false])) = some (kP K y x false false up true, some [], obK K false false y x ++ ob_top K x y ++ [(K.sg y, true), (K.sg x, false)]) := by kernel_rfl
theorem run_top_010 (K : Kd) (x y : F) (up : Bool) : valR ((run Tryz.prog EG (OGK K) 100).1 101 [.fl x, .fl y, .b up] [] (some [true, false, false, true, true, false])) = some (kP K y x false false up false, some [], obK K false false y x ++ ob_top K x y ++ [(K.sg y, false), (K.sg x, true)]) := by kernel_rfl
theorem run_top_011 (K : Kd) (x y : F) (up : Bool) : valR ((run Tryz.prog EG (OGK K) 100).1 101 [.fl x, .fl y, .b up] [] (some [true, true, false, true, true, false])) = some (kP K y x true false up true, some [], obK K true false y x ++ ob_top K x y ++ [(K.sg y, true), (K.sg x, true)]) := by kernel_rfl
theorem run_top_100 (K : Kd) (x y : F) (up : Bool) : valR ((run Tryz.prog EG (OGK K) 100).1 101 [.fl x, .fl y, .b up] [] (some [false, false, false, true, true, true])) = some (kP K y x true true up false, some [], obK K true true y x ++ ob_top K x y ++ [(K.sg y, false), (K.sg x, false)]) := by kernel_rfl
theorem run_top_101 (K : Kd) (x y : F) (up : Bool) : valR ((run Tryz.prog EG (OGK K) 100).1 101 [.fl x, .fl y, .b up] [] (some [false, true, false, true, true, true])) = some (kP K y x false true up true, some [], obK K false true y x ++ ob_top K x y ++ [(K.sg y, true), (K.sg x, false)]) := by kernel_rfl
theorem run_top_110 (K : Kd) (x y : F) (up : Bool) : valR ((run Tryz.prog EG (OGK K) 100).1 101 [.fl x, .fl y, .b up] [] (some [true, false, false, true, true, true])) = some (kP K y x false true up false, some [], obK K false true y x ++ ob_top K x y ++ [(K.sg y, false), (K.sg x, true)]) := by kernel_rfl
theorem run_top_111 (K : Kd) (x y : F) (up : Bool) : valR ((run Tryz.prog EG (OGK K) 100).1 101 [.fl x, .fl y, .b up] [] (some [true, true, false, true, true, true])) = some (kP K y x true true up true, some [], obK K true true y x ++ ob_top K x y ++ [(K.sg y, true), (K.sg x, true)]) := by kernel_rfl
theorem add_top (x y : F) (up : Bool) (h : Fst y x) (ho : obsB (ob_top KR x y) = true) (w : World) :
    Calls Tryz.prog 101 #[.float .f64 x.b, .float .f64 y.b, .bool up] w fun e w' => e = .returned (.tuple #[.float .f64 (dAdd up x y).1.b, .int .i64 (dAdd up x y).2]) ∧ Below w.heap.size w w' := by
  have hv := add_val up h
  rw [dAdd_comm] at hv
  have hk : ∀ same, obsB (obA same (moreN (mn x) (ex y - ex x)) y x) = true := fun same => obA_ok same h
  have hob : ∀ s m p q, obsB (obA s m y x) = true → sg y = q → sg x = p → obsB (obK KR s m y x ++ ob_top KR x y ++ [(KR.sg y, q), (KR.sg x, p)]) = true := by
    intro s m p q h1 h2 h3
    rw [obsB_app, obsB_app, obK_R, h1, ho]
    exact obsB_yes h2 (obsB_yes h3 obsB_nil)
  cases hm : moreN (mn x) (ex y - ex x) <;> cases hx : sg x <;> cases hy : sg y <;> rw [hm] at hk hv <;> rw [hx, hy] at hv
  · exact addRun x y y x up (run_top_000 KR x y up) (hob _ _ _ _ (hk _) hy hx) hv w
  · exact addRun x y y x up (run_top_001 KR x y up) (hob _ _ _ _ (hk _) hy hx) hv w
  · exact addRun x y y x up (run_top_010 KR x y up) (hob _ _ _ _ (hk _) hy hx) hv w
  · exact addRun x y y x up (run_top_011 KR x y up) (hob _ _ _ _ (hk _) hy hx) hv w
  · exact addRun x y y x up (run_top_100 KR x y up) (hob _ _ _ _ (hk _) hy hx) hv w
  · exact addRun x y y x up (run_top_101 KR x y up) (hob _ _ _ _ (hk _) hy hx) hv w
  · exact addRun x y y x up (run_top_110 KR x y up) (hob _ _ _ _ (hk _) hy hx) hv w
  · exact addRun x y y x up (run_top_111 KR x y up) (hob _ _ _ _ (hk _) hy hx) hv w
def ob_eq (K : Kd) (x y : F) : Obs := [gtK (K.mn y) (K.mn x) false, eqK (K.ex y) (K.ex x) true, gtK (K.ex y) (K.ex x) false]
theorem run_eq_000 (K : Kd) (x y : F) (up : Bool) : valR ((run Tryz.prog EG (OGK K) 100).1 101 [.fl x, .fl y, .b up] [] (some [false, false, false, true, false, false])) = some (kP K x y true false up false, some [], obK K true false x y ++ ob_eq K x y ++ [(K.sg y, false), (K.sg x, false)]) := by kernel_rfl
theorem run_eq_001 (K : Kd) (x y : F) (up : Bool) : valR ((run Tryz.prog EG (OGK K) 100).1 101 [.fl x, .fl y, .b up] [] (some [false, true, false, true, false, false])) = some (kP K x y false false up false, some [], obK K false false x y ++ ob_eq K x y ++ [(K.sg y, true), (K.sg x, false)]) := by kernel_rfl
theorem run_eq_010 (K : Kd) (x y : F) (up : Bool) : valR ((run Tryz.prog EG (OGK K) 100).1 101 [.fl x, .fl y, .b up] [] (some [true, false, false, true, false, false])) = some (kP K x y false false up true, some [], obK K false false x y ++ ob_eq K x y ++ [(K.sg y, false), (K.sg x, true)]) := by kernel_rfl
theorem run_eq_011 (K : Kd) (x y : F) (up : Bool) : valR ((run Tryz.prog EG (OGK K) 100).1 101 [.fl x, .fl y, .b up] [] (some [true, true, false, true, false, false])) = some (kP K x y true false up true, some [], obK K true false x y ++ ob_eq K x y ++ [(K.sg y, true), (K.sg x, true)]) := by kernel_rfl
theorem run_eq_100 (K : Kd) (x y : F) (up : Bool) : valR ((run Tryz.prog EG (OGK K) 100).1 101 [.fl x, .fl y, .b up] [] (some [false, false, false, true, false, true])) = some (kP K x y true true up false, some [], obK K true true x y ++ ob_eq K x y ++ [(K.sg y, false), (K.sg x, false)]) := by kernel_rfl
theorem run_eq_101 (K : Kd) (x y : F) (up : Bool) : valR ((run Tryz.prog EG (OGK K) 100).1 101 [.fl x, .fl y, .b up] [] (some [false, true, false, true, false, true])) = some (kP K x y false true up false, some [], obK K false true x y ++ ob_eq K x y ++ [(K.sg y, true), (K.sg x, false)]) := by kernel_rfl
theorem run_eq_110 (K : Kd) (x y : F) (up : Bool) : valR ((run Tryz.prog EG (OGK K) 100).1 101 [.fl x, .fl y, .b up] [] (some [true, false, false, true, false, true])) = some (kP K x y false true up true, some [], obK K false true x y ++ ob_eq K x y ++ [(K.sg y, false), (K.sg x, true)]) := by kernel_rfl
theorem run_eq_111 (K : Kd) (x y : F) (up : Bool) : valR ((run Tryz.prog EG (OGK K) 100).1 101 [.fl x, .fl y, .b up] [] (some [true, true, false, true, false, true])) = some (kP K x y true true up true, some [], obK K true true x y ++ ob_eq K x y ++ [(K.sg y, true), (K.sg x, true)]) := by kernel_rfl
theorem add_eq (x y : F) (up : Bool) (h : Fst x y) (ho : obsB (ob_eq KR x y) = true) (w : World) :
    Calls Tryz.prog 101 #[.float .f64 x.b, .float .f64 y.b, .bool up] w fun e w' => e = .returned (.tuple #[.float .f64 (dAdd up x y).1.b, .int .i64 (dAdd up x y).2]) ∧ Below w.heap.size w w' := by
  have hv := add_val up h
  have hk : ∀ same, obsB (obA same (moreN (mn y) (ex x - ex y)) x y) = true := fun same => obA_ok same h
  have hob : ∀ s m p q, obsB (obA s m x y) = true → sg y = q → sg x = p → obsB (obK KR s m x y ++ ob_eq KR x y ++ [(KR.sg y, q), (KR.sg x, p)]) = true := by
    intro s m p q h1 h2 h3
    rw [obsB_app, obsB_app, obK_R, h1, ho]
    exact obsB_yes h2 (obsB_yes h3 obsB_nil)
  cases hm : moreN (mn y) (ex x - ex y) <;> cases hx : sg x <;> cases hy : sg y <;> rw [hm] at hk hv <;> rw [hx, hy] at hv
  · exact addRun x y x y up (run_eq_000 KR x y up) (hob _ _ _ _ (hk _) hy hx) hv w
  · exact addRun x y x y up (run_eq_001 KR x y up) (hob _ _ _ _ (hk _) hy hx) hv w
  · exact addRun x y x y up (run_eq_010 KR x y up) (hob _ _ _ _ (hk _) hy hx) hv w
  · exact addRun x y x y up (run_eq_011 KR x y up) (hob _ _ _ _ (hk _) hy hx) hv w
  · exact addRun x y x y up (run_eq_100 KR x y up) (hob _ _ _ _ (hk _) hy hx) hv w
  · exact addRun x y x y up (run_eq_101 KR x y up) (hob _ _ _ _ (hk _) hy hx) hv w
  · exact addRun x y x y up (run_eq_110 KR x y up) (hob _ _ _ _ (hk _) hy hx) hv w
  · exact addRun x y x y up (run_eq_111 KR x y up) (hob _ _ _ _ (hk _) hy hx) hv w

theorem add_F_w (x y : F) (up : Bool) (w : World) :
    Calls Tryz.prog 101 #[.float .f64 x.b, .float .f64 y.b, .bool up] w fun e w' => e = .returned (.tuple #[.float .f64 (dAdd up x y).1.b, .int .i64 (dAdd up x y).2]) ∧ Below w.heap.size w w' := by
  by_cases h1 : ex x < ex y
  · exact add_far x y up (Or.inl h1) (obsB_yes (decide_eq_true (show (ex y : Int) - 1074 > (ex x : Int) - 1074 by omega)) obsB_nil) w
  · have g1 := decide_eq_false (show ¬ (ex y : Int) - 1074 > (ex x : Int) - 1074 by omega)
    by_cases h2 : ex y = ex x
    · have g2 := decide_eq_true (show (ex y : Int) - 1074 = (ex x : Int) - 1074 by omega)
      by_cases h3 : mn x < mn y
      · exact add_top x y up (Or.inr ⟨h2, by omega⟩) (obsB_yes (decide_eq_true (show ((mn y : Nat) : Int) > ((mn x : Nat) : Int) by omega)) (obsB_yes g2 (obsB_yes g1 obsB_nil))) w
      · exact add_eq x y up (Or.inr ⟨h2.symm, by omega⟩) (obsB_yes (decide_eq_false (show ¬ ((mn y : Nat) : Int) > ((mn x : Nat) : Int) by omega)) (obsB_yes g2 (obsB_yes g1 obsB_nil))) w
    · have g2 := decide_eq_false (show ¬ (ex y : Int) - 1074 = (ex x : Int) - 1074 by omega)
      exact add_low x y up (Or.inl (by omega)) (obsB_yes g2 (obsB_yes g1 obsB_nil)) w
end Go.Proofs.YtgjohjgmlleebaaGreat
namespace Go.Proofs.YtgjohjgmlleebaaGreat
set_option linter.all false
open Go.RowKit Bu Rx

/-- a function of two numbers and a direction, that tells a number and an error -/
def kTwo (f : Bool → F → F → F × Int) : List SV → Dec → Option (SV × Dec × Obs)
  | [.fl x, .fl y, .b up], ds => some (.tup [.fl (f up x y).1, .si .i64 (f up x y).2], ds, [])
  | _, _ => none
theorem two_ok {g : FuncId} {f : Bool → F → F → F × Int} (h : ∀ x y up w, Calls Tryz.prog g #[.float .f64 x.b, .float .f64 y.b, .bool up] w fun e w' => e = .returned (.tuple #[.float .f64 (f up x y).1.b, .int .i64 (f up x y).2]) ∧ Below w.heap.size w w') : PlainOk Tryz.prog g (kTwo f) := by
  intro args ds x ds' ob h1 ho
  unfold kTwo at h1
  split at h1
  · rename_i x y up
    simp only [Option.some.injEq, Prod.mk.injEq] at h1
    obtain ⟨rfl, _, _⟩ := h1
    exact ⟨[.float .f64 x.b, .float .f64 y.b, .bool up], _, rfl, rfl, fun w => h x y up w⟩
  · cases h1

def OGA (f : Bool → F → F → F × Int) : OracleF := lookO [(74, plainO oRight), (101, plainO (kTwo f))]
theorem oracleGA : OracleOk Tryz.prog (OGA dAdd) := .cons rightG.of (.cons (two_ok add_F_w).of (.nil _))

theorem subRun0 (f : Bool → F → F → F × Int) (x y : F) (up : Bool) : valR ((run Tryz.prog EG (OGA f) 100).1 103 [.fl x, .fl y, .b up] [] (some [false])) = some (.tup [.fl (f up x y).1, .si .i64 (f up x y).2], some [], [(!decide (y.k = (toF 0).k), false)]) := by kernel_rfl
theorem subRun1 (f : Bool → F → F → F × Int) (x y : F) (up : Bool) : valR ((run Tryz.prog EG (OGA f) 100).1 103 [.fl x, .fl y, .b up] [] (some [true])) = some (.tup [.fl (f up x y.neg).1, .si .i64 (f up x y.neg).2], some [], [(!decide (y.k = 0), true), (!decide (y.k = (toF 0).k), true)]) := by kernel_rfl
theorem sub_F_w (x y : F) (up : Bool) (w : World) :
    Calls Tryz.prog 103 #[.float .f64 x.b, .float .f64 y.b, .bool up] w fun e w' => e = .returned (.tuple #[.float .f64 (dSub up x y).1.b, .int .i64 (dSub up x y).2]) ∧ Below w.heap.size w w' := by
  by_cases h : y.k = 0
  · rw [dSub_zero up x y h]
    exact calls_of_val goodG oracleGA 100 (subRun0 dAdd x y up) (ObsOk.of_B (obsB_yes (by rw [zero_k', h]; rfl) obsB_nil)) rfl rfl w
  · rw [dSub_neg]
    have e : (!decide (y.k = 0)) = true := by simp [h]
    exact calls_of_val goodG oracleGA 100 (subRun1 dAdd x y up) (ObsOk.of_B (obsB_yes e (obsB_yes (by rw [zero_k']; exact e) obsB_nil))) rfl rfl w

/-- two words, of a product -/
def kMul (f g : Int → Int → Int) (u : Int → Bool) : List SV → Dec → Option (SV × Dec × Obs)
  | [x, y], ds => match intS x, intS y with
    | some (.u64, a), some (.u64, b) => some (.tup [.si .u64 (f a b), .si .u64 (g a b)], ds, [(u a, true), (u b, true)])
    | _, _ => none
  | _, _ => none
def mulH (a b : Int) : Int := hi (a.toNat * b.toNat)
def mulL (a b : Int) : Int := lo (a.toNat * b.toNat)
theorem mulG : PlainOk Tryz.prog 163 (kMul mulH mulL u64B) := by
  intro args ds x ds' ob h ho
  unfold kMul at h
  split at h
  · rename_i x y
    split at h
    · rename_i a b ha hb
      simp only [Option.some.injEq, Prod.mk.injEq] at h
      obtain ⟨rfl, rfl, rfl⟩ := h
      have k1 := u64_of (ho (u64B a, true) (by simp))
      have k2 := u64_of (ho (u64B b, true) (by simp))
      obtain ⟨p, rfl⟩ := Int.eq_ofNat_of_zero_le k1.1
      obtain ⟨q, rfl⟩ := Int.eq_ofNat_of_zero_le k2.1
      refine ⟨[.int .u64 p, .int .u64 q], _, plains_cons (intS_plain ha) (plains_cons (intS_plain hb) plains_nil), rfl, fun w => (Tryz.bits_Mul64 p q (by omega) (by omega) w).mono ?_⟩
      rintro e w' ⟨rfl, rfl⟩
      exact ⟨rfl, Below.refl _ _⟩
    · cases h
  · cases h
def OGM (K : Kd) (f g : Int → Int → Int) : OracleF := lookO [(74, plainO oRight), (91, plainO (kParts K)), (92, plainO (kRound K)), (163, plainO (kMul f g K.u))]
theorem oracleGM : OracleOk Tryz.prog (OGM KR mulH mulL) := .cons rightG.of (.cons partsG.of (.cons roundG.of (.cons mulG.of (.nil _))))
theorem mulRun (K : Kd) (f g : Int → Int → Int) (x y : F) (up p q : Bool) : valR ((run Tryz.prog EG (OGM K f g) 100).1 107 [.fl x, .fl y, .b up] [] (some [p, q])) =
    some (.tup [.fl (K.rF (p != q) (f (K.mn x) (K.mn y)) (g (K.mn x) (K.mn y)) false (IntKind.i64.wrap (K.ex x + K.ex y)) up), .si .i64 (K.rI (p != q) (f (K.mn x) (K.mn y)) (g (K.mn x) (K.mn y)) false (IntKind.i64.wrap (K.ex x + K.ex y)) up)],
      some [], rdK K (f (K.mn x) (K.mn y)) (g (K.mn x) (K.mn y)) (IntKind.i64.wrap (K.ex x + K.ex y)) ++ [(K.u (K.mn x), true), (K.u (K.mn y), true), (K.sg y, q), (K.sg x, p)]) := by cases p <;> cases q <;> kernel_rfl
theorem hi_u {n : Nat} (h : n < W128) : u64B (hi n) = true := u64_mk (hi_nonneg _) (hi_le _ h)
theorem lo_u (n : Nat) : u64B (lo n) = true := u64_mk (lo_nonneg _) (lo_le _)
theorem wn_back (n : Nat) : wn (hi n) (lo n) = n := by
  unfold wn hi lo
  rw [Int.toNat_natCast, Int.toNat_natCast]
  omega
theorem mn_mul_lt (x y : F) : mn x * mn y < W128 := by
  rw [W128_q]
  exact Nat.mul_lt_mul'' (by have := mn_lt x; omega) (by have := mn_lt y; omega)
theorem mul_F_w (x y : F) (up : Bool) (w : World) :
    Calls Tryz.prog 107 #[.float .f64 x.b, .float .f64 y.b, .bool up] w fun e w' => e = .returned (.tuple #[.float .f64 (dMul up x y).1.b, .int .i64 (dMul up x y).2]) ∧ Below w.heap.size w w' := by
  have h1 := ex_le x
  have h2 := ex_le y
  have he : IntKind.i64.wrap ((ex x : Int) - 1074 + ((ex y : Int) - 1074)) = (ex x : Int) - 1074 + ((ex y : Int) - 1074) := Bu.wrap_small (by omega) (by omega)
  have hH : mulH (KR.mn x) (KR.mn y) = hi (mn x * mn y) := by show hi ((mn x : Int).toNat * (mn y : Int).toNat) = _; rw [Int.toNat_natCast, Int.toNat_natCast]
  have hL : mulL (KR.mn x) (KR.mn y) = lo (mn x * mn y) := by show lo ((mn x : Int).toNat * (mn y : Int).toNat) = _; rw [Int.toNat_natCast, Int.toNat_natCast]
  have hr := mulRun KR mulH mulL x y up (sg x) (sg y)
  rw [show IntKind.i64.wrap (KR.ex x + KR.ex y) = _ from he, hH, hL] at hr
  have hv : rndG (sg x != sg y) (wn (hi (mn x * mn y)) (lo (mn x * mn y))) false ((ex x : Int) - 1074 + ((ex y : Int) - 1074)) up = dMul up x y := by rw [wn_back, rndG_mul]
  rw [← hv]
  refine calls_of_val goodG oracleGM 100 hr (ObsOk.of_B ?_) rfl rfl w
  rw [obsB_app]
  have o1 : obsB (rdK KR (hi (mn x * mn y)) (lo (mn x * mn y)) ((ex x : Int) - 1074 + ((ex y : Int) - 1074))) = true :=
    obsB_yes (hi_u (mn_mul_lt x y)) (obsB_yes (lo_u _) (obsB_yes (decide_eq_true (by omega)) obsB_nil))
  have o2 : obsB [(KR.u (KR.mn x), true), (KR.u (KR.mn y), true), (KR.sg y, sg y), (KR.sg x, sg x)] = true := obsB_yes (mn_u64 x) (obsB_yes (mn_u64 y) (obsB_yes rfl (obsB_yes rfl obsB_nil)))
  rw [o1, o2]; rfl
end Go.Proofs.YtgjohjgmlleebaaGreat
namespace Bu
set_option linter.all false

/-- one digit -/
structure Kn (U u1 y y1 y0 q r : Nat) : Prop where
  eq : q * y1 + r = U
  lt : U * 4294967296 + u1 < (q + 1) * y
  le : q ≤ 4294967297
  rl : r < 4294967296

theorem kn_startB {U u1 y y1 b : Nat} (h1 : 0 < y1) (hy : y1 * b ≤ y) (hu : u1 < b) : U * b + u1 < (U / y1 + 1) * y := by
  have hd := Nat.div_add_mod U y1
  have hm := Nat.mod_lt U h1
  have : U + 1 ≤ (U / y1 + 1) * y1 := by rw [Nat.add_mul, Nat.mul_comm]; omega
  have h3 : (U + 1) * b ≤ (U / y1 + 1) * y1 * b := Nat.mul_le_mul_right b this
  have h4 : (U / y1 + 1) * (y1 * b) ≤ (U / y1 + 1) * y := Nat.mul_le_mul_left _ hy
  rw [Nat.mul_assoc, Nat.add_mul] at h3
  omega

theorem kn_start {U u1 y y1 y0 : Nat} (hy : y = y1 * 4294967296 + y0) (h1 : 2147483648 ≤ y1) (h2 : y1 < 4294967296) (h0 : y0 < 4294967296) (hU : U < y) (hu : u1 < 4294967296) :
    Kn U u1 y y1 y0 (U / y1) (U % y1) := by
  have hd := Nat.div_add_mod U y1
  have hm := Nat.mod_lt U (show 0 < y1 by omega)
  refine ⟨by rw [Nat.mul_comm]; exact hd, ?_, ?_, by omega⟩
  · exact kn_startB (by omega) (by omega) hu
  · have h5 : U / y1 < 4294967298 := by
      rw [Nat.div_lt_iff_lt_mul (by omega)]
      omega
    omega

theorem kn_stay {U u1 y y1 y0 q r : Nat} (hy : y = y1 * 4294967296 + y0) (h : Kn U u1 y y1 y0 q r) (hc : q * y0 ≤ 4294967296 * r + u1) : q = (U * 4294967296 + u1) / y := by
  have hy0 : 0 < y := by
    have := h.lt
    by_cases c : 0 < y
    · exact c
    · have : y = 0 := by omega
      subst this; omega
  symm
  rw [Nat.div_eq_iff hy0]
  have h1 := h.eq
  have h2 := h.lt
  have e : q * y = q * y1 * 4294967296 + q * y0 := by rw [hy, Nat.mul_add, Nat.mul_assoc]
  have e2 : U * 4294967296 = q * y1 * 4294967296 + r * 4294967296 := by rw [← h1, Nat.add_mul]
  rw [Nat.add_mul, Nat.one_mul] at h2
  omega

theorem kn_test {U u1 y y1 y0 q r : Nat} (hy : y = y1 * 4294967296 + y0) (hU : U < y) (hu : u1 < 4294967296) (h : Kn U u1 y y1 y0 q r) (hc : 4294967296 ≤ q ∨ 4294967296 * r + u1 < q * y0) :
    U * 4294967296 + u1 < q * y := by
  have h1 := h.eq
  have e : q * y = q * y1 * 4294967296 + q * y0 := by rw [hy, Nat.mul_add, Nat.mul_assoc]
  have e2 : U * 4294967296 = q * y1 * 4294967296 + r * 4294967296 := by rw [← h1, Nat.add_mul]
  rcases hc with c | c
  · have : 4294967296 * y ≤ q * y := Nat.mul_le_mul_right _ c
    omega
  · omega

theorem kn_pos {U u1 y y1 y0 q r : Nat} (hy : y = y1 * 4294967296 + y0) (hU : U < y) (hu : u1 < 4294967296) (h : Kn U u1 y y1 y0 q r) (hc : 4294967296 ≤ q ∨ 4294967296 * r + u1 < q * y0) : 1 ≤ q := by
  have := kn_test hy hU hu h hc
  by_cases c : q = 0
  · subst c; omega
  · omega

theorem kn_next {U u1 y y1 y0 q r : Nat} (hy : y = y1 * 4294967296 + y0) (hU : U < y) (hu : u1 < 4294967296) (h : Kn U u1 y y1 y0 q r) (hc : 4294967296 ≤ q ∨ 4294967296 * r + u1 < q * y0) (hr : r + y1 < 4294967296) :
    Kn U u1 y y1 y0 (q - 1) (r + y1) := by
  have h1 := h.eq
  have hp := kn_pos hy hU hu h hc
  obtain ⟨t, rfl⟩ : ∃ t, q = t + 1 := ⟨q - 1, by omega⟩
  have hl := h.le
  refine ⟨?_, ?_, by omega, hr⟩
  · rw [Nat.add_mul] at h1; simp only [Nat.add_sub_cancel]; omega
  · simp only [Nat.add_sub_cancel]; exact kn_test hy hU hu h hc

theorem kn_break {U u1 y y1 y0 q r : Nat} (hy : y = y1 * 4294967296 + y0) (h0 : y0 < 4294967296) (hU : U < y) (hu : u1 < 4294967296) (h : Kn U u1 y y1 y0 q r) (hc : 4294967296 ≤ q ∨ 4294967296 * r + u1 < q * y0) (hr : 4294967296 ≤ r + y1) :
    q - 1 = (U * 4294967296 + u1) / y := by
  have h1 := h.eq
  have hp := kn_pos hy hU hu h hc
  have ht := kn_test hy hU hu h hc
  obtain ⟨t, rfl⟩ : ∃ t, q = t + 1 := ⟨q - 1, by omega⟩
  have hl := h.le
  simp only [Nat.add_sub_cancel]
  symm
  rw [Nat.div_eq_iff (by omega)]
  have e : t * y = t * y1 * 4294967296 + t * y0 := by rw [hy, Nat.mul_add, Nat.mul_assoc]
  have e2 : U * 4294967296 = t * y1 * 4294967296 + (r + y1) * 4294967296 := by rw [← h1, ← Nat.add_mul]; grind
  have e3 : t * y0 ≤ 4294967296 * 4294967295 := Nat.mul_le_mul (by omega) (by omega)
  rw [Nat.add_mul, Nat.one_mul] at ht
  omega

/-- the shifted dividend -/
theorem kn_norm {h l y s : Nat} (hs : s ≤ 63) (hy : h < y) (hY : y * 2 ^ s < 18446744073709551616) (hl : l < 18446744073709551616) :
    (h * 2 ^ s + l / 2 ^ (64 - s)) * 18446744073709551616 + l * 2 ^ s % 18446744073709551616 = (h * 18446744073709551616 + l) * 2 ^ s
    ∧ h * 2 ^ s + l / 2 ^ (64 - s) < y * 2 ^ s ∧ h * 2 ^ s < 18446744073709551616 ∧ l / 2 ^ (64 - s) < 2 ^ s := by
  obtain ⟨a, b, c, d, e⟩ := up_parts h l s (by omega) hl
  have hlt : h * 2 ^ s + 2 ^ s ≤ y * 2 ^ s := by
    have := Nat.mul_le_mul_right (2 ^ s) (show h + 1 ≤ y by omega)
    rw [Nat.add_mul, Nat.one_mul] at this
    exact this
  have hpos := Nat.two_pow_pos s
  rw [W128_eq] at a b
  rw [Nat.mod_eq_of_lt (show h * 2 ^ s < 18446744073709551616 by omega)] at a e
  have hlim : (h * 18446744073709551616 + l) * 2 ^ s < 340282366920938463463374607431768211456 := by
    have h1 : h * 18446744073709551616 + l < (h + 1) * 18446744073709551616 := by omega
    have h2 := Nat.mul_lt_mul_of_pos_right h1 hpos
    have h3 : (h + 1) * 18446744073709551616 * 2 ^ s = (h * 2 ^ s + 2 ^ s) * 18446744073709551616 := by grind
    omega
  rw [Nat.mod_eq_of_lt hlim] at a b
  refine ⟨?_, by omega, by omega, d⟩
  rw [← a, ← b]
  exact Nat.div_add_mod' _ _

theorem kn_bothB {U u1 u0 y q1 q0 R b : Nat} (hy : 0 < y) (hU : U < y) (h1 : u1 < b) (h0 : u0 < b) (hq1 : q1 = (U * b + u1) / y) (hR : R = (U * b + u1) % y) (hq0 : q0 = (R * b + u0) / y) :
    q1 * b + q0 = (U * (b * b) + (u1 * b + u0)) / y ∧ (R * b + u0) % y = (U * (b * b) + (u1 * b + u0)) % y ∧ q1 < b ∧ q0 < b := by
  have hd := Nat.div_add_mod (U * b + u1) y
  have hm := Nat.mod_lt (U * b + u1) hy
  rw [← hq1, ← hR] at hd
  rw [← hR] at hm
  have hd0 := Nat.div_add_mod (R * b + u0) y
  have hm0 := Nat.mod_lt (R * b + u0) hy
  rw [← hq0] at hd0
  have l1 : U * b + u1 < y * b := by
    have : (U + 1) * b ≤ y * b := Nat.mul_le_mul_right _ (by omega)
    rw [Nat.add_mul] at this; omega
  have l0 : R * b + u0 < y * b := by
    have : (R + 1) * b ≤ y * b := Nat.mul_le_mul_right _ (by omega)
    rw [Nat.add_mul] at this; omega
  generalize (R * b + u0) % y = r0 at *
  have e : U * (b * b) + (u1 * b + u0) = y * (q1 * b + q0) + r0 := by
    have : U * (b * b) + (u1 * b + u0) = (U * b + u1) * b + u0 := by grind
    rw [this, ← hd, Nat.add_mul, Nat.add_assoc, ← hd0]
    grind
  rw [e]
  refine ⟨?_, ?_, ?_, ?_⟩
  · rw [Nat.mul_add_div hy, Nat.div_eq_of_lt hm0]; omega
  · rw [Nat.mul_add_mod, Nat.mod_eq_of_lt hm0]
  · rw [hq1, Nat.div_lt_iff_lt_mul hy, Nat.mul_comm b]; exact l1
  · rw [hq0, Nat.div_lt_iff_lt_mul hy, Nat.mul_comm b]; exact l0
/-- both digits -/
theorem kn_both {U u1 u0 y q1 q0 R : Nat} (hy : 0 < y) (hU : U < y) (h1 : u1 < 4294967296) (h0 : u0 < 4294967296) (hq1 : q1 = (U * 4294967296 + u1) / y) (hR : R = (U * 4294967296 + u1) % y) (hq0 : q0 = (R * 4294967296 + u0) / y) :
    q1 * 4294967296 + q0 = (U * 18446744073709551616 + (u1 * 4294967296 + u0)) / y ∧ (R * 4294967296 + u0) % y = (U * 18446744073709551616 + (u1 * 4294967296 + u0)) % y ∧ q1 < 4294967296 ∧ q0 < 4294967296 :=
  kn_bothB hy hU h1 h0 hq1 hR hq0

open Go in
theorem kn_pack (h l y : Nat) (hy : h < y) (hy2 : y < 18446744073709551616) (hl : l < 18446744073709551616) : ∃ s Y U L y1 y0 u1 u0 : Nat,
    64 - blen y = s ∧ s ≤ 63 ∧ IntKind.u64.wrap ((y : Int) * 2 ^ s) = Y ∧ bits BinOp.or IntKind.u64 (IntKind.u64.wrap ((h : Int) * 2 ^ s)) ((l : Int) / 2 ^ (64 - s)) = U ∧
    IntKind.u64.wrap ((l : Int) * 2 ^ s) = L ∧ (Y : Int) / 4294967296 = y1 ∧ bits BinOp.and IntKind.u64 (Y : Int) 4294967295 = y0 ∧ (L : Int) / 4294967296 = u1 ∧ bits BinOp.and IntKind.u64 (L : Int) 4294967295 = u0 ∧
    Y = y1 * 4294967296 + y0 ∧ 2147483648 ≤ y1 ∧ y1 < 4294967296 ∧ y0 < 4294967296 ∧ u1 < 4294967296 ∧ u0 < 4294967296 ∧ U < Y ∧ U * 18446744073709551616 + (u1 * 4294967296 + u0) = (h * 18446744073709551616 + l) * 2 ^ s ∧ Y = y * 2 ^ s ∧ Y < 18446744073709551616 := by
  have hb1 := lt_blen y
  have hb2 : blen y ≤ 64 := blen_le hy2
  have hy0 : y ≠ 0 := by omega
  have hb3 : blen y = y.log2 + 1 := by unfold blen; rw [if_neg hy0]
  have hb4 := Nat.log2_self_le hy0
  obtain ⟨s, hs⟩ : ∃ s, 64 - blen y = s := ⟨_, rfl⟩
  have hs63 : s ≤ 63 := by omega
  have hpos := Nat.two_pow_pos s
  have hY1 : y * 2 ^ s < 18446744073709551616 := by
    have := Nat.mul_lt_mul_of_pos_right hb1 hpos
    rw [← Nat.pow_add, show blen y + s = 64 from by omega] at this
    exact this
  have hY2 : 9223372036854775808 ≤ y * 2 ^ s := by
    have := Nat.mul_le_mul_right (2 ^ s) hb4
    rw [← Nat.pow_add, show y.log2 + s = 63 from by omega] at this
    exact this
  obtain ⟨n1, n2, n3, n4⟩ := kn_norm hs63 hy hY1 hl
  have hmod : h * 2 ^ s % 2 ^ s = 0 := Nat.mul_mod_left _ _
  have a1 : IntKind.u64.wrap ((y : Int) * 2 ^ s) = ((y * 2 ^ s : Nat) : Int) := by
    have e : (y : Int) * 2 ^ s = ((y * 2 ^ s : Nat) : Int) := by simp
    rw [e, IntKind.wrap_u64]; omega
  have a2 : IntKind.u64.wrap ((h : Int) * 2 ^ s) = ((h * 2 ^ s : Nat) : Int) := by
    have e : (h : Int) * 2 ^ s = ((h * 2 ^ s : Nat) : Int) := by simp
    rw [e, IntKind.wrap_u64]; omega
  have a3 : (l : Int) / 2 ^ (64 - s) = ((l / 2 ^ (64 - s) : Nat) : Int) := by simp
  have a4 : IntKind.u64.wrap ((l : Int) * 2 ^ s) = ((l * 2 ^ s % 18446744073709551616 : Nat) : Int) := by
    have e : (l : Int) * 2 ^ s = ((l * 2 ^ s : Nat) : Int) := by simp
    rw [e, IntKind.wrap_u64]; omega
  have hLlt : l * 2 ^ s % 18446744073709551616 < 18446744073709551616 := Nat.mod_lt _ (by omega)
  have hUlt : h * 2 ^ s + l / 2 ^ (64 - s) < 18446744073709551616 := by omega
  have hlq : l / 2 ^ (64 - s) < 18446744073709551616 := by omega
  have b2 : bits BinOp.or IntKind.u64 ((h * 2 ^ s : Nat) : Int) ((l / 2 ^ (64 - s) : Nat) : Int) = ((h * 2 ^ s + l / 2 ^ (64 - s) : Nat) : Int) := by
    rw [u64_or_nat _ _ n3 hlq, nat_join s _ _ hmod n4]
  have mask : ∀ x : Nat, x < 18446744073709551616 → bits BinOp.and IntKind.u64 (x : Int) 4294967295 = ((x % 4294967296 : Nat) : Int) := by
    intro x hx
    have := and_mask x 32 hx (by omega)
    exact this
  generalize h * 2 ^ s + l / 2 ^ (64 - s) = U at *
  generalize l * 2 ^ s % 18446744073709551616 = L at *
  refine ⟨s, y * 2 ^ s, U, L, y * 2 ^ s / 4294967296, y * 2 ^ s % 4294967296, L / 4294967296, L % 4294967296, hs, hs63, a1, by rw [a2, a3, b2], a4, by omega, mask _ hY1, by omega, mask _ hLlt, ?_, ?_, ?_, ?_, ?_, ?_, n2, ?_, rfl, hY1⟩
  · omega
  · omega
  · omega
  · omega
  · omega
  · omega
  · rw [← n1]; omega

theorem kn_final {h l y s Y U u1 u0 q1 R q0 : Nat} (hy : 0 < y) (hY : Y = y * 2 ^ s) (hU : U < Y) (hD : U * 18446744073709551616 + (u1 * 4294967296 + u0) = (h * 18446744073709551616 + l) * 2 ^ s)
    (h1 : u1 < 4294967296) (h0 : u0 < 4294967296) (hq1 : q1 = (U * 4294967296 + u1) / Y) (hR : R = (U * 4294967296 + u1) % Y) (hq0 : q0 = (R * 4294967296 + u0) / Y) :
    q1 * 4294967296 + q0 = (h * 18446744073709551616 + l) / y ∧ (R * 4294967296 + u0) % Y / 2 ^ s = (h * 18446744073709551616 + l) % y ∧ q1 < 4294967296 ∧ q0 < 4294967296 := by
  have hpos := Nat.two_pow_pos s
  have hYp : 0 < Y := by rw [hY]; exact Nat.mul_pos hy hpos
  obtain ⟨a, b, c, d⟩ := kn_both hYp hU h1 h0 hq1 hR hq0
  refine ⟨?_, ?_, c, d⟩
  · rw [a, hD, hY, Nat.mul_div_mul_right _ _ hpos]
  · rw [b, hD, hY, Nat.mul_mod_mul_right, Nat.mul_div_cancel _ hpos]
end Bu
namespace Go.Proofs.YtgjohjgmlleebaaGreat
set_option linter.all false
open Go.RowKit Bu

theorem lz_w (n : Nat) (w : World) (h : (n : Int) ≤ 18446744073709551615) :
    Calls Tryz.prog 157 #[.int .u64 n] w fun e w' => e = .returned (.int .i64 (64 - (blen n : Int))) ∧ w = w' :=
  (Tryz.bits_LeadingZeros64 n w (by omega) h).mono fun e w' ⟨h1, h2⟩ => ⟨by rw [h1, Int.toNat_natCast, lib_blen n (by omega)], h2.symm⟩

set_option maxRecDepth 100000 in
set_option maxHeartbeats 1000000 in
theorem div64_zero (l y : Nat) (hy : 0 < (y : Int)) (hl : (l : Int) ≤ 18446744073709551615) (w : World) :
    Calls Tryz.prog 164 #[.int .u64 0, .int .u64 l, .int .u64 y] w fun e w' => e = .returned (.tuple #[.int .u64 ((l / y : Nat) : Int), .int .u64 ((l % y : Nat) : Int)]) ∧ Below w.heap.size w w' := by
  have hy1 : (1 : Int) ≤ y := by omega
  have T1 : ((y : Int) == 0) = false := by rw [beq_eq_false_iff_ne]; omega
  have T2 : ¬ ((y : Int) ≤ 0) := by omega
  have E1 : IntKind.u64.wrap ((l : Int) / y) = ((l / y : Nat) : Int) := by
    have h := Nat.div_le_self l y
    rw [← Int.natCast_ediv, IntKind.wrap_u64]
    generalize l / y = q at *
    omega
  have H1 := Lib.hid E1
  clear E1
  go_enter Tryz.func164, Tryz.ntmps164
  go_wp2
  go_quiet (fail)
  go_wp2
  go_ret2
  refine ⟨ret_tup ?_, below_drewN (Below.refl _ _) _⟩
  rw [← H1.out, Int.natCast_emod]
  rfl

theorem val_u64 {a : Int} {b : Nat} (h : a = b) : Value.int .u64 a = .int .u64 b := by rw [h]
theorem lz_s (n s : Nat) (hs : 64 - blen n = s) (w : World) (h : (n : Int) ≤ 18446744073709551615) :
    Calls Tryz.prog 157 #[.int .u64 n] w fun e w' => e = .returned (.int .i64 s) ∧ w = w' :=
  (lz_w n w h).mono fun e w' ⟨h1, h2⟩ => ⟨by rw [h1]; have : blen n ≤ 64 := blen_le (by omega); exact ret_int (by omega), h2⟩

set_option maxRecDepth 100000 in
set_option maxHeartbeats 1000000 in
theorem div64_pos (h l y : Nat) (hh : 0 < (h : Int)) (hy : (h : Int) < y) (hy2 : (y : Int) ≤ 18446744073709551615) (hl : (l : Int) ≤ 18446744073709551615) (w : World) :
    Calls Tryz.prog 164 #[.int .u64 h, .int .u64 l, .int .u64 y] w fun e w' => e = .returned (.tuple #[.int .u64 (((h * 18446744073709551616 + l) / y : Nat) : Int), .int .u64 (((h * 18446744073709551616 + l) % y : Nat) : Int)]) ∧ w = w' := by
  have T1 : ((y : Int) == 0) = false := by rw [beq_eq_false_iff_ne]; omega
  have T3 : ((h : Int) == 0) = false := by rw [beq_eq_false_iff_ne]; omega
  have T4 : ¬ (y : Int) ≤ h := by omega
  obtain ⟨s, Y, U, L, y1, y0, u1, u0, g1, g2, e1, e2, e3, e4, e5, e6, e7, p1, p2, p3, p4, p5, p6, p7, p8, p9, p10⟩ := kn_pack h l y (by omega) (by omega) (by omega)
  have G1 := Lib.hid g1
  have P1 := Lib.hid (show Y = y1 * 4294967296 + y0 ∧ y0 < 4294967296 ∧ U < Y from ⟨p1, p4, p7⟩)
  have P8 := Lib.hid p8
  have P9 := Lib.hid p9
  have i1 : (2147483648 : Int) ≤ y1 := by omega
  have i2 : (y1 : Int) < 4294967296 := by omega
  have i3 : (y0 : Int) < 4294967296 := by omega
  have i4 : (u1 : Int) < 4294967296 := by omega
  have i5 : (u0 : Int) < 4294967296 := by omega
  have i6 : (U : Int) < Y := by omega
  have i7 : (Y : Int) ≤ 18446744073709551615 := by omega
  have i8 : (s : Int) ≤ 63 := by omega
  have ks := kn_start p1 p2 p3 p4 p7 p5
  have z1 : ((y1 : Int) == 0) = false := by rw [beq_eq_false_iff_ne]; omega
  have f1 : (U : Int) / y1 = ((U / y1 : Nat) : Int) := by simp
  generalize U / y1 = qa at *
  generalize U % y1 = ra at *
  have f2 : (U : Int) - (qa : Int) * y1 = ra := by have := ks.eq; rw [← Int.natCast_mul]; omega
  have f3 : (0 : Int) ≤ (qa : Int) * y1 := by rw [← Int.natCast_mul]; omega
  have f4 : (qa : Int) * y1 ≤ 18446744073709551615 := by have := ks.eq; rw [← Int.natCast_mul]; omega
  have f5 : (qa : Int) ≤ 4294967297 := by have := ks.le; omega
  have f6 : (ra : Int) < 4294967296 := by have := ks.rl; omega
  have KS := Lib.hid ks
  clear g1 p1 p2 p3 p4 p5 p6 p7 p8 p9 p10 g2 ks
  go_enter Tryz.func164, Tryz.ntmps164
  go_upto_block 0 with (go_at_call 157; refine (lz_s _ _ G1.out _ (by omega)).mono ?_; rintro e w' ⟨rfl, rfl⟩)
  go_cut [15, 16] (fun q r wx => q = .int .u64 (((U * 4294967296 + u1) / Y : Nat) : Int) ∧ (∃ t : Int, r = .int .u64 t) ∧ w = wx)
  case first =>
    go_wp2
    go_loop [15, 16] (fun q r => ∃ qn rn : Nat, Kn U u1 Y y1 y0 qn rn ∧ q = .int .u64 qn ∧ r = .int .u64 rn) (fun q _ => (intOf q).toNat)
    case atStart => exact ⟨qa, ra, KS.out, rfl, rfl⟩
    case round =>
      obtain ⟨qn, rn, hk, rfl, rfl⟩ := hrel
      have j1 := hk.le
      have j2 := hk.rl
      have v1 : (qn : Int) ≤ 4294967297 := by omega
      have v2 : (rn : Int) < 4294967296 := by omega
      have v3 : (0 : Int) ≤ (qn : Int) * y0 := by rw [← Int.natCast_mul]; omega
      have v4 : (qn : Int) * y0 ≤ 18446744073709551615 := by
        have := Nat.mul_le_mul (show qn ≤ 4294967297 by omega) (show y0 ≤ 4294967295 by omega)
        rw [← Int.natCast_mul]; omega
      have KN := Lib.hid hk
      clear hk j1 j2
      by_cases c1 : (4294967296 : Int) ≤ qn
      · have hc := Lib.hid (show 4294967296 ≤ qn ∨ 4294967296 * rn + u1 < qn * y0 from Or.inl (by omega))
        have hq1 : (1 : Int) ≤ qn := by omega
        by_cases c3 : (4294967296 : Int) ≤ (rn : Int) + y1
        · have hX := Lib.hid (kn_break P1.out.1 P1.out.2.1 P1.out.2.2 (by omega) KN.out hc.out (by omega))
          go_wp2
          go_meet
          case rel => exact ⟨by rw [← hX.out]; exact val_u64 (by omega), ⟨_, rfl⟩, rfl⟩
        · have hX := Lib.hid (kn_next P1.out.1 (by omega) (by omega) KN.out hc.out (show rn + y1 < 4294967296 by omega))
          go_wp2
          go_round
          case rel => exact ⟨qn - 1, rn + y1, hX.out, val_u64 (by omega), val_u64 (by omega)⟩
          case measure => simp [intOf]; omega
      · by_cases c2 : (4294967296 : Int) * rn + u1 < (qn : Int) * y0
        · have hc := Lib.hid (show 4294967296 ≤ qn ∨ 4294967296 * rn + u1 < qn * y0 from Or.inr (by rw [← Int.natCast_mul] at c2; omega))
          have hq1 : (1 : Int) ≤ qn := by have := kn_pos P1.out.1 (by omega) (by omega) KN.out hc.out; omega
          by_cases c3 : (4294967296 : Int) ≤ (rn : Int) + y1
          · have hX := Lib.hid (kn_break P1.out.1 P1.out.2.1 P1.out.2.2 (by omega) KN.out hc.out (by omega))
            go_wp2
            go_meet
            case rel => exact ⟨by rw [← hX.out]; exact val_u64 (by omega), ⟨_, rfl⟩, rfl⟩
          · have hX := Lib.hid (kn_next P1.out.1 (by omega) (by omega) KN.out hc.out (show rn + y1 < 4294967296 by omega))
            go_wp2
            go_round
            case rel => exact ⟨qn - 1, rn + y1, hX.out, val_u64 (by omega), val_u64 (by omega)⟩
            case measure => simp [intOf]; omega
        · have hX := Lib.hid (kn_stay P1.out.1 KN.out (by rw [← Int.natCast_mul] at c2; omega))
          go_wp2
          go_meet
          case rel => exact ⟨by rw [← hX.out], ⟨_, rfl⟩, rfl⟩
  case rest =>
    obtain ⟨rfl, ⟨t, rfl⟩, rfl⟩ := hcut
    have hYp : 0 < Y := by omega
    have hdm := Nat.div_add_mod (U * 4294967296 + u1) Y
    have hml := Nat.mod_lt (U * 4294967296 + u1) hYp
    have HQ1 := Lib.hid (rfl : (U * 4294967296 + u1) / Y = (U * 4294967296 + u1) / Y)
    have HR1 := Lib.hid (rfl : (U * 4294967296 + u1) % Y = (U * 4294967296 + u1) % Y)
    obtain ⟨q1, hq1⟩ : ∃ q, q = (U * 4294967296 + u1) / Y := ⟨_, rfl⟩
    obtain ⟨R, hR⟩ : ∃ q, q = (U * 4294967296 + u1) % Y := ⟨_, rfl⟩
    rw [← hq1, ← hR] at hdm
    rw [← hR] at hml
    rw [← hq1]
    have e21 : IntKind.u64.wrap (IntKind.u64.wrap (IntKind.u64.wrap ((U : Int) * 4294967296) + u1) - IntKind.u64.wrap ((q1 : Int) * Y)) = R := by
      rw [← Int.natCast_mul, Nat.mul_comm q1 Y]
      simp only [IntKind.wrap_u64]
      omega
    have kb := kn_start P1.out.1 (by omega) (by omega) P1.out.2.1 hml (show u0 < 4294967296 by omega)
    have l1 : (R : Int) / y1 = ((R / y1 : Nat) : Int) := by simp
    obtain ⟨qb, hqb⟩ : ∃ q, q = R / y1 := ⟨_, rfl⟩
    obtain ⟨rb, hrb⟩ : ∃ q, q = R % y1 := ⟨_, rfl⟩
    rw [← hqb] at kb l1
    rw [← hrb] at kb
    have l2 : (R : Int) - (qb : Int) * y1 = rb := by have := kb.eq; rw [← Int.natCast_mul]; omega
    have l3 : (0 : Int) ≤ (qb : Int) * y1 := by rw [← Int.natCast_mul]; omega
    have l4 : (qb : Int) * y1 ≤ 18446744073709551615 := by have := kb.eq; rw [← Int.natCast_mul]; omega
    have l5 : (qb : Int) ≤ 4294967297 := by have := kb.le; omega
    have l6 : (rb : Int) < 4294967296 := by have := kb.rl; omega
    have l7 : (R : Int) < Y := by omega
    have KB := Lib.hid kb
    have FQ1 := Lib.hid hq1
    have FR := Lib.hid hR
    have P2 := Lib.hid (show Y = y1 * 4294967296 + y0 ∧ y0 < 4294967296 ∧ R < Y from ⟨P1.out.1, P1.out.2.1, hml⟩)
    clear f1 f2 f3 f4 f5 f6 KS kb hqb hrb hq1 hR hdm hml HQ1 HR1 P1
    obtain ⟨P1⟩ : Nonempty (Hid (Y = y1 * 4294967296 + y0 ∧ y0 < 4294967296 ∧ R < Y)) := ⟨P2⟩
    go_upto_block 2 with fail
    go_cut [18, 16] (fun q r wx => q = .int .u64 (((R * 4294967296 + u0) / Y : Nat) : Int) ∧ (∃ t : Int, r = .int .u64 t) ∧ w = wx)
    case first =>
      go_wp2
      go_loop [18, 16] (fun q r => ∃ qn rn : Nat, Kn R u0 Y y1 y0 qn rn ∧ q = .int .u64 qn ∧ r = .int .u64 rn) (fun q _ => (intOf q).toNat)
      case atStart => exact ⟨qb, rb, KB.out, rfl, rfl⟩
      case round =>
        obtain ⟨qn, rn, hk, rfl, rfl⟩ := hrel
        have j1 := hk.le
        have j2 := hk.rl
        have v1 : (qn : Int) ≤ 4294967297 := by omega
        have v2 : (rn : Int) < 4294967296 := by omega
        have v3 : (0 : Int) ≤ (qn : Int) * y0 := by rw [← Int.natCast_mul]; omega
        have v4 : (qn : Int) * y0 ≤ 18446744073709551615 := by
          have := Nat.mul_le_mul (show qn ≤ 4294967297 by omega) (show y0 ≤ 4294967295 by omega)
          rw [← Int.natCast_mul]; omega
        have KN := Lib.hid hk
        clear hk j1 j2
        by_cases c1 : (4294967296 : Int) ≤ qn
        · have hc := Lib.hid (show 4294967296 ≤ qn ∨ 4294967296 * rn + u0 < qn * y0 from Or.inl (by omega))
          have hq1 : (1 : Int) ≤ qn := by omega
          by_cases c3 : (4294967296 : Int) ≤ (rn : Int) + y1
          · have hX := Lib.hid (kn_break P1.out.1 P1.out.2.1 P1.out.2.2 (by omega) KN.out hc.out (by omega))
            go_wp2
            go_meet
            case rel => exact ⟨by rw [← hX.out]; exact val_u64 (by omega), ⟨_, rfl⟩, rfl⟩
          · have hX := Lib.hid (kn_next P1.out.1 (by omega) (by omega) KN.out hc.out (show rn + y1 < 4294967296 by omega))
            go_wp2
            go_round
            case rel => exact ⟨qn - 1, rn + y1, hX.out, val_u64 (by omega), val_u64 (by omega)⟩
            case measure => simp [intOf]; omega
        · by_cases c2 : (4294967296 : Int) * rn + u0 < (qn : Int) * y0
          · have hc := Lib.hid (show 4294967296 ≤ qn ∨ 4294967296 * rn + u0 < qn * y0 from Or.inr (by rw [← Int.natCast_mul] at c2; omega))
            have hq1 : (1 : Int) ≤ qn := by have := kn_pos P1.out.1 (by omega) (by omega) KN.out hc.out; omega
            by_cases c3 : (4294967296 : Int) ≤ (rn : Int) + y1
            · have hX := Lib.hid (kn_break P1.out.1 P1.out.2.1 P1.out.2.2 (by omega) KN.out hc.out (by omega))
              go_wp2
              go_meet
              case rel => exact ⟨by rw [← hX.out]; exact val_u64 (by omega), ⟨_, rfl⟩, rfl⟩
            · have hX := Lib.hid (kn_next P1.out.1 (by omega) (by omega) KN.out hc.out (show rn + y1 < 4294967296 by omega))
              go_wp2
              go_round
              case rel => exact ⟨qn - 1, rn + y1, hX.out, val_u64 (by omega), val_u64 (by omega)⟩
              case measure => simp [intOf]; omega
          · have hX := Lib.hid (kn_stay P1.out.1 KN.out (by rw [← Int.natCast_mul] at c2; omega))
            go_wp2
            go_meet
            case rel => exact ⟨by rw [← hX.out], ⟨_, rfl⟩, rfl⟩
    case rest =>
      obtain ⟨rfl, ⟨t, rfl⟩, rfl⟩ := hcut
      have hdm := Nat.div_add_mod (R * 4294967296 + u0) Y
      have hml := Nat.mod_lt (R * 4294967296 + u0) hYp
      obtain ⟨q0, hq0⟩ : ∃ q, q = (R * 4294967296 + u0) / Y := ⟨_, rfl⟩
      obtain ⟨R0, hR0⟩ : ∃ q, q = (R * 4294967296 + u0) % Y := ⟨_, rfl⟩
      obtain ⟨m1, m2, m3, m4⟩ := kn_final (show 0 < y by omega) P9.out (show U < Y by omega) P8.out (show u1 < 4294967296 by omega) (show u0 < 4294967296 by omega) FQ1.out FR.out hq0
      rw [← hq0, ← hR0] at hdm
      rw [← hR0] at hml m2
      rw [← hq0]
      have e22 : IntKind.u64.wrap (IntKind.u64.wrap (IntKind.u64.wrap ((R : Int) * 4294967296) + u0) - IntKind.u64.wrap ((q0 : Int) * Y)) = R0 := by
        rw [← Int.natCast_mul, Nat.mul_comm q0 Y]
        simp only [IntKind.wrap_u64]
        omega
      have n1 : (q1 : Int) < 4294967296 := by omega
      have n2 : (q0 : Int) < 4294967296 := by omega
      have M1 := Lib.hid (show (q1 : Int) * 4294967296 + q0 = (((h * 18446744073709551616 + l) / y : Nat) : Int) from by rw [← m1]; omega)
      have M2 := Lib.hid (show (R0 : Int) / 2 ^ s = (((h * 18446744073709551616 + l) % y : Nat) : Int) from by rw [← m2]; simp)
      clear m1 m2 m3 m4 hdm hml hq0 hR0 l1 l2 l3 l4 l5 l6 KB
      go_wp2_with fail
      go_ret2
      refine ⟨?_, rfl⟩
      rw [← M1.out, ← M2.out]
      exact ret_tup rfl

end Go.Proofs.YtgjohjgmlleebaaGreat
namespace Go.Proofs.YtgjohjgmlleebaaGreat
set_option linter.all false
open Go.RowKit Bu Rx

def kLz (L : Int → Int) (u : Int → Bool) : List SV → Dec → Option (SV × Dec × Obs)
  | [x], ds => match intS x with
    | some (.u64, a) => some (.si .i64 (L a), ds, [(u a, true)])
    | _ => none
  | _, _ => none
def kDiv (q r : Int → Int → Int → Int) (c : Int → Int → Int → Bool) : List SV → Dec → Option (SV × Dec × Obs)
  | [x, y, z], ds => match intS x, intS y, intS z with
    | some (.u64, h), some (.u64, l), some (.u64, y) => some (.tup [.si .u64 (q h l y), .si .u64 (r h l y)], ds, [(c h l y, true)])
    | _, _, _ => none
  | _, _ => none
def lzI (a : Int) : Int := 64 - (blen a.toNat : Int)
def dqI (h l y : Int) : Int := ((h.toNat * 18446744073709551616 + l.toNat) / y.toNat : Nat)
def drI (h l y : Int) : Int := ((h.toNat * 18446744073709551616 + l.toNat) % y.toNat : Nat)
def dcI (h l y : Int) : Bool := decide (0 < h ∧ h < y ∧ y ≤ 18446744073709551615 ∧ 0 ≤ l ∧ l ≤ 18446744073709551615)
theorem lzG : PlainOk Tryz.prog 157 (kLz lzI u64B) := by
  intro args ds x ds' ob h ho
  unfold kLz at h
  split at h
  · rename_i x
    split at h
    · rename_i a ha
      simp only [Option.some.injEq, Prod.mk.injEq] at h
      obtain ⟨rfl, rfl, rfl⟩ := h
      have k1 := u64_of (ho (u64B a, true) (by simp))
      obtain ⟨p, rfl⟩ := Int.eq_ofNat_of_zero_le k1.1
      refine ⟨[.int .u64 p], _, plains_cons (intS_plain ha) plains_nil, rfl, fun w => (lz_w p w k1.2).mono ?_⟩
      rintro e w' ⟨rfl, rfl⟩
      exact ⟨rfl, Below.refl _ _⟩
    · cases h
  · cases h
theorem divG : PlainOk Tryz.prog 164 (kDiv dqI drI dcI) := by
  intro args ds x ds' ob h ho
  unfold kDiv at h
  split at h
  · rename_i x y z
    split at h
    · rename_i a b c ha hb hc
      simp only [Option.some.injEq, Prod.mk.injEq] at h
      obtain ⟨rfl, rfl, rfl⟩ := h
      have k1 := of_decide_eq_true (ho (dcI a b c, true) (by simp))
      obtain ⟨p, rfl⟩ := Int.eq_ofNat_of_zero_le (show 0 ≤ a by omega)
      obtain ⟨q, rfl⟩ := Int.eq_ofNat_of_zero_le (show 0 ≤ b by omega)
      obtain ⟨r, rfl⟩ := Int.eq_ofNat_of_zero_le (show 0 ≤ c by omega)
      refine ⟨[.int .u64 p, .int .u64 q, .int .u64 r], _, plains_cons (intS_plain ha) (plains_cons (intS_plain hb) (plains_cons (intS_plain hc) plains_nil)), rfl, fun w => (div64_pos p q r k1.1 k1.2.1 k1.2.2.1 k1.2.2.2.2 w).mono ?_⟩
      rintro e w' ⟨rfl, rfl⟩
      exact ⟨rfl, Below.refl _ _⟩
    · cases h
  · cases h
def OGD (K : Kd) (L : Int → Int) (q r : Int → Int → Int → Int) (c : Int → Int → Int → Bool) : OracleF :=
  lookO [(74, plainO oRight), (91, plainO (kParts K)), (92, plainO (kRound K)), (157, plainO (kLz L K.u)), (164, plainO (kDiv q r c))]
theorem oracleGD : OracleOk Tryz.prog (OGD KR lzI dqI drI dcI) := .cons rightG.of (.cons partsG.of (.cons roundG.of (.cons lzG.of (.cons divG.of (.nil _)))))
def nA (K : Kd) (L : Int → Int) (x : F) : Int := IntKind.u64.wrap (K.mn x * 2 ^ min (L (K.mn x)).toNat IntKind.u64.bits)
def nH (K : Kd) (L : Int → Int) (x : F) : Int := (nA K L x).fdiv (2 ^ min (Int.toNat 1) IntKind.u64.bits)
def nL (K : Kd) (L : Int → Int) (x : F) : Int := IntKind.u64.wrap (nA K L x * 2 ^ min (Int.toNat 63) IntKind.u64.bits)
def nE (K : Kd) (L : Int → Int) (x y : F) : Int := IntKind.i64.wrap (IntKind.i64.wrap (IntKind.i64.wrap (K.ex x - L (K.mn x)) - IntKind.i64.wrap (K.ex y - L (K.mn y))) - 63)
def obD (K : Kd) (L : Int → Int) (q r : Int → Int → Int → Int) (c : Int → Int → Int → Bool) (x y : F) (s t d : Bool) : Obs :=
  [(K.u 0, true), (K.u (q (nH K L x) (nL K L x) (nA K L y)), true), (K.re (nE K L x y), true), (decide (r (nH K L x) (nL K L x) (nA K L y) > 0), d), (c (nH K L x) (nL K L x) (nA K L y), true),
    (decide (0 ≤ L (K.mn y)), true), (decide (0 ≤ L (K.mn x)), true), (K.u (K.mn y), true), (K.u (K.mn x), true), (K.sg y, t), (K.sg x, s), (decide (x.k = (toF 0).k), false), (decide (y.k = (toF 0).k), false)]
theorem divRun (K : Kd) (L : Int → Int) (q r : Int → Int → Int → Int) (c : Int → Int → Int → Bool) (x y : F) (up s t d : Bool) : valR ((run Tryz.prog EG (OGD K L q r c) 100).1 110 [.fl x, .fl y, .b up] [] (some [false, false, s, t, d])) =
    some (.tup [.fl (K.rF (s != t) 0 (q (nH K L x) (nL K L x) (nA K L y)) d (nE K L x y) up), .si .i64 (K.rI (s != t) 0 (q (nH K L x) (nL K L x) (nA K L y)) d (nE K L x y) up)], some [], obD K L q r c x y s t d) := by
  cases s <;> cases t <;> cases d <;> kernel_rfl
theorem divRun0 (K : Kd) (L : Int → Int) (q r : Int → Int → Int → Int) (c : Int → Int → Int → Bool) (x y : F) (up : Bool) : valR ((run Tryz.prog EG (OGD K L q r c) 100).1 110 [.fl x, .fl y, .b up] [] (some [true])) =
    some (.tup [.fl (toF 0), .i .i64 11], some [], [(decide (y.k = (toF 0).k), true)]) := by kernel_rfl
theorem divRunZ (K : Kd) (L : Int → Int) (q r : Int → Int → Int → Int) (c : Int → Int → Int → Bool) (x y : F) (up : Bool) : valR ((run Tryz.prog EG (OGD K L q r c) 100).1 110 [.fl x, .fl y, .b up] [] (some [false, true])) =
    some (.tup [.fl (toF 0), .i .i64 0], some [], [(decide (x.k = (toF 0).k), true), (decide (y.k = (toF 0).k), false)]) := by kernel_rfl

structure DivFacts (x y : F) : Prop where
  lx : lzI (mn x) = nlz (mn x)
  a : nA KR lzI x = divM x
  b : nA KR lzI y = divM y
  h : nH KR lzI x = ((divM x / 2 : Nat) : Int)
  l : nL KR lzI x = ((divM x * 9223372036854775808 % 18446744073709551616 : Nat) : Int)
  e : nE KR lzI x y = divE x y
  r : -5000 ≤ divE x y ∧ divE x y ≤ 5000
theorem lzI_mn (x : F) : lzI (mn x) = nlz (mn x) := by
  have := blen_mn x
  unfold lzI nlz
  rw [Int.toNat_natCast]; omega
theorem nA_eq {x : F} (h : x.k ≠ 0) : nA KR lzI x = divM x := by
  have hb := norm_bounds (mn_pos h) (mn_64 x)
  have e1 : min (lzI (KR.mn x)).toNat IntKind.u64.bits = nlz (mn x) := by
    show min (lzI (mn x)).toNat 64 = _
    rw [lzI_mn, Int.toNat_natCast]
    exact Nat.min_eq_left (nlz_le _)
  unfold nA
  rw [e1]
  show IntKind.u64.wrap ((mn x : Int) * 2 ^ nlz (mn x)) = _
  have e2 : (mn x : Int) * 2 ^ nlz (mn x) = ((divM x : Nat) : Int) := by unfold divM; rw [Int.natCast_mul, Int.natCast_pow]; rfl
  rw [e2, IntKind.wrap_u64]
  unfold divM
  generalize mn x * 2 ^ nlz (mn x) = M at *
  omega
theorem divFacts {x y : F} (hx : x.k ≠ 0) (hy : y.k ≠ 0) : DivFacts x y := by
  have h1 := ex_le x
  have h2 := ex_le y
  have h3 := nlz_le (mn x)
  have h4 := nlz_le (mn y)
  have hr : -5000 ≤ divE x y ∧ divE x y ≤ 5000 := by unfold divE; omega
  refine ⟨lzI_mn x, nA_eq hx, nA_eq hy, ?_, ?_, ?_, hr⟩
  · unfold nH
    rw [nA_eq hx]
    show ((divM x : Nat) : Int).fdiv 2 = _
    rw [Int.fdiv_eq_ediv_of_nonneg _ (by omega)]; rfl
  · unfold nL
    rw [nA_eq hx, IntKind.wrap_u64]
    show ((divM x : Nat) : Int) * 9223372036854775808 % 18446744073709551616 = _
    omega
  · unfold nE
    show IntKind.i64.wrap (IntKind.i64.wrap (IntKind.i64.wrap ((ex x : Int) - 1074 - lzI (mn x)) - IntKind.i64.wrap ((ex y : Int) - 1074 - lzI (mn y))) - 63) = _
    rw [lzI_mn, lzI_mn]
    unfold divE
    rw [Bu.wrap_small (n := (ex x : Int) - 1074 - nlz (mn x)) (by omega) (by omega), Bu.wrap_small (n := (ex y : Int) - 1074 - nlz (mn y)) (by omega) (by omega), Bu.wrap_small (n := (ex x : Int) - 1074 - nlz (mn x) - _) (by omega) (by omega), Bu.wrap_small (by omega) (by omega)]
theorem toF_zero : toF 0 = F.zero := by decide +kernel
/-- a quotient, or what is told of none -/
def qDiv (up : Bool) (a b : F) : F × Int := if b.k = 0 then (F.zero, 11) else dDiv up a b
theorem div_F_w (x y : F) (up : Bool) (w : World) :
    Calls Tryz.prog 110 #[.float .f64 x.b, .float .f64 y.b, .bool up] w fun e w' => e = .returned (.tuple #[.float .f64 (qDiv up x y).1.b, .int .i64 (qDiv up x y).2]) ∧ Below w.heap.size w w' := by
  unfold qDiv
  by_cases hy : y.k = 0
  · rw [if_pos hy, ← toF_zero]
    exact calls_of_val goodG oracleGD 100 (divRun0 KR lzI dqI drI dcI x y up) (ObsOk.of_B (obsB_yes (decide_eq_true (by rw [zero_k']; exact hy)) obsB_nil)) rfl rfl w
  have oy : decide (y.k = (toF 0).k) = false := decide_eq_false (by rw [zero_k']; exact hy)
  rw [if_neg hy]
  by_cases hx : x.k = 0
  · rw [dDiv_zero up x y hx, ← toF_zero]
    exact calls_of_val goodG oracleGD 100 (divRunZ KR lzI dqI drI dcI x y up) (ObsOk.of_B (obsB_yes (decide_eq_true (by rw [zero_k']; exact hx)) (obsB_yes oy obsB_nil))) rfl rfl w
  have ox : decide (x.k = (toF 0).k) = false := decide_eq_false (by rw [zero_k']; exact hx)
  have f := divFacts hx hy
  have nx := norm_bounds (mn_pos hx) (mn_64 x)
  have ny := norm_bounds (mn_pos hy) (mn_64 y)
  have hcat := divM_eq (divM x)
  have hl : (divM x * 9223372036854775808 % 18446744073709551616 : Nat) < 18446744073709551616 := Nat.mod_lt _ (by decide)
  have hq : dqI (nH KR lzI x) (nL KR lzI x) (nA KR lzI y) = ((divM x * 9223372036854775808 / divM y : Nat) : Int) := by
    rw [f.h, f.l, f.b]; unfold dqI; rw [Int.toNat_natCast, Int.toNat_natCast, Int.toNat_natCast, hcat]
  have hr : drI (nH KR lzI x) (nL KR lzI x) (nA KR lzI y) = ((divM x * 9223372036854775808 % divM y : Nat) : Int) := by
    rw [f.h, f.l, f.b]; unfold drI; rw [Int.toNat_natCast, Int.toNat_natCast, Int.toNat_natCast, hcat]
  have hc : dcI (nH KR lzI x) (nL KR lzI x) (nA KR lzI y) = true := by
    rw [f.h, f.l, f.b]
    have k1 : 9223372036854775808 ≤ divM x ∧ divM x < 18446744073709551616 := nx
    have k2 : 9223372036854775808 ≤ divM y ∧ divM y < 18446744073709551616 := ny
    generalize divM x * 9223372036854775808 % 18446744073709551616 = l at *
    unfold dcI
    exact decide_eq_true ⟨by omega, by omega, by omega, by omega, by omega⟩
  have hqb : ((divM x * 9223372036854775808 / divM y : Nat) : Int) ≤ 18446744073709551615 := by
    have k1 : 9223372036854775808 ≤ divM x ∧ divM x < 18446744073709551616 := nx
    have k2 : 9223372036854775808 ≤ divM y ∧ divM y < 18446744073709551616 := ny
    have : divM x * 9223372036854775808 / divM y < 18446744073709551616 := by
      rw [Nat.div_lt_iff_lt_mul (by omega)]
      generalize divM x = M at *
      generalize divM y = N at *
      omega
    omega
  have hd : decide (drI (nH KR lzI x) (nL KR lzI x) (nA KR lzI y) > 0) = decide (0 < divM x * 9223372036854775808 % divM y) := by
    rw [hr]
    generalize divM x * 9223372036854775808 % divM y = R
    exact decide_eq_decide.2 (by omega)
  have hv : rndG (sg x != sg y) (wn 0 ((divM x * 9223372036854775808 / divM y : Nat) : Int)) (decide (0 < divM x * 9223372036854775808 % divM y)) (divE x y) up = dDiv up x y := by
    rw [← rndG_div up x y hx hy]
    unfold wn
    rw [Int.toNat_natCast, Int.toNat_zero, Nat.zero_mul, Nat.zero_add]
  have hrun := divRun KR lzI dqI drI dcI x y up (sg x) (sg y) (decide (0 < divM x * 9223372036854775808 % divM y))
  rw [f.e, hq] at hrun
  have ho : obsB (obD KR lzI dqI drI dcI x y (sg x) (sg y) (decide (0 < divM x * 9223372036854775808 % divM y))) = true := by
    unfold obD
    rw [hq, f.e]
    refine obsB_yes u64_0 (obsB_yes (u64_mk (Int.natCast_nonneg _) hqb) (obsB_yes (decide_eq_true f.r) (obsB_yes hd (obsB_yes hc (obsB_yes ?_ (obsB_yes ?_ (obsB_yes (mn_u64 y) (obsB_yes (mn_u64 x) (obsB_yes rfl (obsB_yes rfl (obsB_yes ox (obsB_yes oy obsB_nil))))))))))))
    · exact decide_eq_true (by show 0 ≤ lzI (mn y); rw [lzI_mn]; omega)
    · exact decide_eq_true (by show 0 ≤ lzI (mn x); rw [lzI_mn]; omega)
  rw [← hv]
  exact calls_of_val goodG oracleGD 100 hrun (ObsOk.of_B ho) rfl rfl w
end Go.Proofs.YtgjohjgmlleebaaGreat
