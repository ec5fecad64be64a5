import Derived.Test.YtiipaicbbmkagaaFlo
import Ieee.Arith
namespace Bu
set_option linter.all false
open Ieee

theorem T_eq : T = 2047 * P := rfl
theorem P_lt_T : P < T := by decide

/-- A number: a float64 that is finite, and not minus 0; by its place on the ladder of all numbers. -/
structure F where
  k : Int
  hk : -(T : Int) < k ∧ k < (T : Int)

theorem F.ext' {a b : F} (h : a.k = b.k) : a = b := by
  cases a; cases b; simp only at h; subst h; rfl
instance : DecidableEq F := fun a b => if h : a.k = b.k then isTrue (F.ext' h) else isFalse (fun e => h (by rw [e]))

def F.zero : F := ⟨0, by decide⟩
def F.max : F := ⟨(T : Int) - 1, by decide⟩
def F.min : F := ⟨1 - (T : Int), by decide⟩
def F.of (k : Int) : F := if h : -(T : Int) < k ∧ k < (T : Int) then ⟨k, h⟩ else F.zero
theorem F.of_k {k : Int} (h : -(T : Int) < k ∧ k < (T : Int)) : (F.of k).k = k := by unfold F.of; rw [dif_pos h]
theorem F.of_self (x : F) : F.of x.k = x := F.ext' (F.of_k x.hk)

/-- its bits -/
def F.b (x : F) : Nat := if 0 ≤ x.k then x.k.toNat else 9223372036854775808 + (-x.k).toNat
/-- its number, times S -/
def F.z (x : F) : Int := nvZ x.k

theorem F.z_lt {a b : F} : a.z < b.z ↔ a.k < b.k := nvZ_lt_iff
theorem F.z_le {a b : F} : a.z ≤ b.z ↔ a.k ≤ b.k := nvZ_le_iff
theorem F.z_inj {a b : F} (h : a.z = b.z) : a = b := F.ext' (nvZ_inj h)

/-- which words are numbers -/
def rightB (w : Nat) : Bool := decide (w < T) || (decide (9223372036854775808 < w) && decide (w < 9223372036854775808 + T))

theorem T_num : T = 9218868437227405312 := rfl

theorem right_F (x : F) : rightB x.b = true := by
  have := x.hk
  have e := T_num
  unfold rightB F.b
  split <;> simp <;> omega

theorem F_of_right {w : Nat} (h : rightB w = true) : ∃ x : F, x.b = w := by
  have e := T_num
  unfold rightB at h
  simp only [Bool.or_eq_true, Bool.and_eq_true, decide_eq_true_eq] at h
  rcases h with h | ⟨h, h2⟩
  · refine ⟨⟨(w : Int), by omega⟩, ?_⟩
    unfold F.b; simp
  · refine ⟨⟨-((w - 9223372036854775808 : Nat) : Int), by omega⟩, ?_⟩
    unfold F.b; simp only
    rw [if_neg (by omega)]; omega

theorem F.b_lt (x : F) : x.b < 18446744073709551616 := by
  have := x.hk
  have e := T_num
  unfold F.b; split <;> omega

theorem F.b_inj {x y : F} (h : x.b = y.b) : x = y := by
  have h1 := x.hk
  have h2 := y.hk
  have e := T_num
  unfold F.b at h
  apply F.ext'
  split at h <;> split at h <;> omega

def F.abs (x : F) : F := ⟨(x.k.natAbs : Int), by have := x.hk; omega⟩
theorem F.abs_b (x : F) : x.b % 9223372036854775808 = x.abs.b := by
  have h1 := x.hk
  have e := T_num
  have e2 : x.abs.k = (x.k.natAbs : Int) := rfl
  unfold F.b
  rw [e2, if_pos (show (0 : Int) ≤ (x.k.natAbs : Int) from by omega)]
  split <;> omega

theorem dbl_sign : double.signWeight = 9223372036854775808 := by decide
theorem dbl_bin : double.binade = P := by decide
theorem dbl_inf : double.infRung = T := by decide
theorem dbl_least : double.leastPlace = -1074 := by decide

theorem read_parts (w : Nat) (neg : Bool) (r : Nat) (hr : r < 9223372036854775808) (hw : w = if neg then 9223372036854775808 + r else r) :
    double.read w = if r < T then .number neg (man r) (-1074 + (pl r : Int)) else if r = T then .infinity neg else .nan neg (r - T) := by
  unfold Format.read
  rw [dbl_sign, dbl_bin, dbl_inf, dbl_least]
  have e1 : (w / 9223372036854775808 % 2 == 1) = neg := by
    cases neg <;> simp at hw <;> subst hw <;> simp <;> omega
  have e2 : w % 9223372036854775808 = r := by
    cases neg <;> simp at hw <;> subst hw <;> omega
  simp only [e1, e2]
  have hPT := P_lt_T
  by_cases h1 : r < P
  · rw [if_pos h1, if_pos (by omega)]
    unfold man pl
    rw [if_pos h1, Nat.div_eq_of_lt h1]; rfl
  · rw [if_neg h1]
    by_cases h2 : r < T
    · rw [if_pos h2, if_pos h2]
      unfold man pl
      rw [if_neg h1]
    · rw [if_neg h2, if_neg h2]

/-- a word that is no number: minus 0, or infinite, or a NaN -/
theorem bad_parts {w : Nat} (hw : w < 18446744073709551616) (h : rightB w = false) :
    ∃ (neg : Bool) (r : Nat), r < 9223372036854775808 ∧ (w = if neg then 9223372036854775808 + r else r) ∧ ((neg = true ∧ r = 0) ∨ r = T ∨ T < r) := by
  have e := T_num
  unfold rightB at h
  simp only [Bool.or_eq_false_iff, Bool.and_eq_false_iff, decide_eq_false_iff_not] at h
  by_cases h1 : w < 9223372036854775808
  · exact ⟨false, w, h1, rfl, by omega⟩
  · exact ⟨true, w - 9223372036854775808, by omega, by simp; omega, by
      simp only [true_and]; omega⟩

theorem read_F (x : F) : double.read x.b = .number (decide (x.k < 0)) (man x.k.natAbs) (-1074 + (pl x.k.natAbs : Int)) := by
  have h1 := x.hk
  have e := T_num
  have := read_parts x.b (decide (x.k < 0)) x.k.natAbs (by omega) (by
    unfold F.b
    by_cases h : x.k < 0
    · simp [h, Int.not_le.2 h]; omega
    · simp [h, Int.not_lt.1 h]; omega)
  rw [this, if_pos (by omega)]

theorem signed_eq (neg : Bool) (m u : Nat) : signed neg m u = (if neg then -1 else 1) * ((m * 2 ^ u : Nat) : Int) := by
  unfold signed
  rw [Nat.shiftLeft_eq]
  cases neg <;> simp

theorem nvZ_sign (k : Int) : nvZ k = (if decide (k < 0) then -1 else 1) * ((man k.natAbs * 2 ^ pl k.natAbs : Nat) : Int) := by
  unfold nvZ nv
  by_cases h : k < 0
  · rw [if_neg (by omega), show (-k).toNat = k.natAbs from by omega]; simp [h]
  · rw [if_pos (by omega), show k.toNat = k.natAbs from by omega]; simp [h]

theorem compare_mul (a b : Int) (c : Int) (hc : 0 < c) : compare a b = compare (a * c) (b * c) := by
  have h1 : a * c < b * c ↔ a < b := Int.mul_lt_mul_right hc
  have h2 : a * c = b * c ↔ a = b := Int.mul_eq_mul_right_iff (by omega)
  show compareOfLessAndEq a b = compareOfLessAndEq (a * c) (b * c)
  unfold compareOfLessAndEq
  simp only [h1, h2]

theorem nvZ_compare (a b : Int) : compare (nvZ a) (nvZ b) = compare a b := by
  show compareOfLessAndEq (nvZ a) (nvZ b) = compareOfLessAndEq a b
  unfold compareOfLessAndEq
  have h2 : nvZ a = nvZ b ↔ a = b := ⟨nvZ_inj, fun h => by rw [h]⟩
  simp only [nvZ_lt_iff, h2]

theorem signed_base (k : Int) (base : Nat) (h : base ≤ pl k.natAbs) :
    signed (decide (k < 0)) (man k.natAbs) (pl k.natAbs - base) * ((2 ^ base : Nat) : Int) = nvZ k := by
  rw [signed_eq, nvZ_sign, Int.mul_assoc, ← Int.natCast_mul, Nat.mul_assoc, ← Nat.pow_add, Nat.sub_add_cancel h]

/-- two numbers are compared by their places -/
theorem order_F (x y : F) : double.order x.b y.b = some (compare x.k y.k) := by
  unfold Format.order
  rw [read_F, read_F]
  simp only [Datum.order]
  have hb : ∀ p q : Nat, min (-1074 + (p : Int)) (-1074 + (q : Int)) = -1074 + ((min p q : Nat) : Int) := by intro p q; omega
  rw [hb]
  have hs : ∀ p q : Nat, (-1074 + (p : Int) - (-1074 + (q : Int))).toNat = p - q := by intro p q; omega
  rw [hs, hs, compare_mul _ _ ((2 ^ (min (pl x.k.natAbs) (pl y.k.natAbs)) : Nat) : Int) (by have := Nat.two_pow_pos (min (pl x.k.natAbs) (pl y.k.natAbs)); omega)]
  rw [signed_base _ _ (Nat.min_le_left _ _), signed_base _ _ (Nat.min_le_right _ _), nvZ_compare]

theorem order_lt (x y : F) : (double.order x.b y.b == some .lt) = decide (x.k < y.k) := by
  rw [order_F, Bool.eq_iff_iff]
  simp only [beq_iff_eq, Option.some.injEq, decide_eq_true_eq]
  exact Int.compare_eq_lt
theorem order_gt (x y : F) : (double.order x.b y.b == some .gt) = decide (y.k < x.k) := by
  rw [order_F, Bool.eq_iff_iff]
  simp only [beq_iff_eq, Option.some.injEq, decide_eq_true_eq]
  exact Int.compare_eq_gt
theorem order_eq (x y : F) : (double.order x.b y.b == some .eq) = decide (x.k = y.k) := by
  rw [order_F, Bool.eq_iff_iff]
  simp only [beq_iff_eq, Option.some.injEq, decide_eq_true_eq]
  exact Int.compare_eq_eq
attribute [irreducible] F.of
end Bu
