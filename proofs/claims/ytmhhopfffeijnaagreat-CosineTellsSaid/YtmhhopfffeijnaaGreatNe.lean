/- Numbers taken apart, and scaled, as math.Frexp and math.Ldexp do it: what comes of it. -/
import Derived.Test.YtmhhopfffeijnaaGreatNd
namespace Bu
set_option linter.all false
open Ieee

def nmF (x : F) : F × Int := if P ≤ x.k.natAbs then (x, 0) else (F.of (flZ (x.z * 4503599627370496)), -52)
structure Nm (x x' : F) (c : Int) : Prop where
  hP : P ≤ x'.k.natAbs
  nv : nv x'.k.natAbs = nv x.k.natAbs * 2 ^ (-c).toNat
  sg : x'.k < 0 ↔ x.k < 0
  c : c = 0 ∨ c = -52
theorem lift_eq {x x' : F} (h : x'.z = x.z * 4503599627370496) : F.of (flZ (x.z * 4503599627370496)) = x' := by
  rw [← h]
  unfold F.z
  rw [flZ_nvZ, F.of_self]
theorem nm_ok {x : F} (hx : x.k ≠ 0) : Nm x (nmF x).1 (nmF x).2 := by
  unfold nmF
  by_cases c : P ≤ x.k.natAbs
  · rw [if_pos c]
    exact ⟨c, by simp, Iff.rfl, .inl rfl⟩
  · rw [if_neg c]
    obtain ⟨x', h1, h2, h3, h4⟩ := lift_sub x (by omega) hx
    rw [lift_eq h1]
    exact ⟨h2, h3, h4, .inr rfl⟩
theorem Nm.z {x x' : F} {c : Int} (h : Nm x x' c) : x.z.natAbs * 2 ^ (-c).toNat = (P + x'.k.natAbs % P) * 2 ^ (x'.k.natAbs / P - 1) := by
  rw [z_natAbs', ← h.nv, nv_norm h.hP]
theorem Nm.q {x x' : F} {c : Int} (h : Nm x x' c) : 1 ≤ x'.k.natAbs / P ∧ x'.k.natAbs / P ≤ 2046 := by
  have := h.hP
  have a : 1 ≤ x'.k.natAbs / P := (Nat.le_div_iff_mul_le P_pos).2 (by omega)
  have := (b_parts x').2.2
  omega
theorem like_nv (x : F) {f r : Nat} (h1 : 1 ≤ f) (h2 : f ≤ 2046) (hr : r < P) : f * P + r < T ∧ (x.like (f * P + r)).z.natAbs = (P + r) * 2 ^ (f - 1) ∧ ((x.like (f * P + r)).z < 0 ↔ x.k < 0) := by
  have hP := P_pos
  have e1 : 1 * P ≤ f * P := Nat.mul_le_mul_right _ h1
  have e2 : f * P ≤ 2046 * P := Nat.mul_le_mul_right _ h2
  have hT : f * P + r < T := by rw [T_eq]; omega
  have hd : (f * P + r) / P = f := by
    rw [Nat.mul_comm, Nat.mul_add_div hP, Nat.div_eq_of_lt hr, Nat.add_zero]
  have hm : (f * P + r) % P = r := by rw [Nat.mul_comm, Nat.mul_add_mod, Nat.mod_eq_of_lt hr]
  have en := nv_norm (r := f * P + r) (by omega)
  rw [hd, hm] at en
  have ep := Nat.two_pow_pos (f - 1)
  have pos : 0 < (P + r) * 2 ^ (f - 1) := Nat.mul_pos (by omega) ep
  refine ⟨hT, ?_, ?_⟩
  · rw [F.like_z x _ hT, en]
    generalize (P + r) * 2 ^ (f - 1) = w at *
    split <;> omega
  · rw [F.like_z x _ hT, en]
    generalize (P + r) * 2 ^ (f - 1) = w at *
    split <;> omega
/-! Frexp -/
def frF (x : F) : F := (nmF x).1.like (1022 * P + (nmF x).1.k.natAbs % P)
def exF (x : F) : Int := (((nmF x).1.k.natAbs / P : Nat) : Int) - 1022 + (nmF x).2
theorem sgn_eq {a b : Int} (h : a.natAbs = b.natAbs) (k : a < 0 ↔ b < 0) : a = b := by omega
theorem sc_mk {x y : F} {n : Int} (h : y.z.natAbs * 2 ^ (-n).toNat = x.z.natAbs * 2 ^ n.toNat) (k : y.k < 0 ↔ x.k < 0) : Sc x y n := by
  have sx := z_sign x; have sy := z_sign y
  have p1 := Nat.two_pow_pos (-n).toNat
  have p2 := Nat.two_pow_pos n.toNat
  unfold Sc
  apply sgn_eq
  · rw [mul_abs, mul_abs]; exact h
  · have a := Int.mul_lt_mul_right (b := y.z) (c := 0) (show (0 : Int) < ((2 ^ (-n).toNat : Nat) : Int) by omega)
    have b := Int.mul_lt_mul_right (b := x.z) (c := 0) (show (0 : Int) < ((2 ^ n.toNat : Nat) : Int) by omega)
    rw [Int.zero_mul] at a b
    omega
theorem fr_ok {x : F} (hx : x.k ≠ 0) : FrP (frF x) ∧ Sc (frF x) x (exF x) ∧ (frF x).k ≠ 0 ∧ -1074 ≤ exF x ∧ exF x ≤ 1024 := by
  have h := nm_ok hx
  have hz := h.z
  have hq := h.q
  have hc := h.c
  have hr := Nat.mod_lt (nmF x).1.k.natAbs P_pos
  obtain ⟨l1, l2, l3⟩ := like_nv (nmF x).1 (f := 1022) (by decide) (by decide) hr
  obtain ⟨t, ht⟩ : ∃ t : Nat, t = 1022 - 1 := ⟨_, rfl⟩
  rw [← ht] at l2
  have hsg := h.sg
  unfold frF exF
  generalize (nmF x).1 = x' at *
  generalize (nmF x).2 = c at *
  have hP := P_pos
  have hk : (x'.like (1022 * P + x'.k.natAbs % P)).k.natAbs = 1022 * P + x'.k.natAbs % P := by
    unfold F.like
    rw [F.of_k (by split <;> omega)]
    split <;> omega
  have hk0 : (x'.like (1022 * P + x'.k.natAbs % P)).k ≠ 0 := by omega
  have sg : x.k < 0 ↔ (x'.like (1022 * P + x'.k.natAbs % P)).k < 0 := by
    have := z_sign (x'.like (1022 * P + x'.k.natAbs % P))
    omega
  refine ⟨?_, sc_mk ?_ sg, hk0, by omega, by omega⟩
  · unfold FrP
    rw [hk, Nat.mul_comm, Nat.mul_add_div hP, Nat.div_eq_of_lt hr]
  · rw [l2]
    apply Nat.eq_of_mul_eq_mul_right (Nat.two_pow_pos (-c).toNat)
    rw [Nat.mul_right_comm, hz, Nat.mul_assoc, ← Nat.pow_add, Nat.mul_assoc, Nat.mul_assoc, ← Nat.pow_add, ← Nat.pow_add]
    congr 2
    omega
/-! Ldexp -/
theorem wrd_ratio {A A' : Int} {B B' : Nat} (hB : 0 < B) (hB' : 0 < B') (h : A * (B' : Int) = A' * (B : Int)) : wrd A B = wrd A' B' := by
  have h0 : A = 0 ↔ A' = 0 := by
    constructor
    · intro e
      rw [e, Int.zero_mul] at h
      rcases Int.mul_eq_zero.1 h.symm with k | k
      · exact k
      · omega
    · intro e
      rw [e, Int.zero_mul] at h
      rcases Int.mul_eq_zero.1 h with k | k
      · exact k
      · omega
  have hs : A < 0 ↔ A' < 0 := by
    have a := Int.mul_lt_mul_right (b := A) (c := 0) (show (0 : Int) < (B' : Int) by omega)
    have b := Int.mul_lt_mul_right (b := A') (c := 0) (show (0 : Int) < (B : Int) by omega)
    rw [Int.zero_mul] at a b
    omega
  have hn : near A.natAbs B = near A'.natAbs B' := by
    refine near_ratio hB hB' ?_
    have := congrArg Int.natAbs h
    rwa [mul_abs, mul_abs] at this
  unfold wrd
  simp only [h0, hs, hn]
theorem wrd_exact {A : Int} {B : Nat} {y : F} (hB : 0 < B) (h : A = y.z * (B : Int)) : wrd A B = y.b := by
  unfold wrd
  by_cases h0 : A = 0
  · rw [if_pos h0]
    rw [h0] at h
    have : y.z = 0 := by
      rcases Int.mul_eq_zero.1 h.symm with k | k
      · exact k
      · omega
    rw [show y = F.zero from F.ext' ((z_zero y).1 this)]; decide
  · rw [if_neg h0]
    have e : A.natAbs = nv y.k.natAbs * B := by rw [h, mul_abs, z_natAbs']
    have hs : A < 0 ↔ y.k < 0 := by
      have b := Int.mul_lt_mul_right (b := y.z) (c := 0) (show (0 : Int) < (B : Int) by omega)
      rw [Int.zero_mul, ← h] at b
      have := z_sign y
      omega
    have hy : y.k ≠ 0 := fun k => h0 (by rw [h, (z_zero y).2 k, Int.zero_mul])
    rw [near_exact hB e, Nat.min_eq_left (by have := y.hk; omega), ← word_sign y hy]
    simp only [hs]
theorem ld_exact {x y : F} {n : Int} (h : Sc x y n) : ldW x n = y.b := wrd_exact (Nat.two_pow_pos _) h.symm
theorem ld_inf {x x' : F} {c n : Int} (h : Nm x x' c) (e : 2047 ≤ n + c + ((x'.k.natAbs / P : Nat) : Int)) : ldW x n = if x.k < 0 then NINF else INF := by
  have hz := h.z
  have hq := h.q
  have hc := h.c
  have hP := P_pos
  have sx := z_sign x
  have pU := Nat.two_pow_pos n.toNat
  have ge : nv T * 2 ^ (-n).toNat ≤ x.z.natAbs * 2 ^ n.toNat := by
    apply Nat.le_of_mul_le_mul_right _ (Nat.two_pow_pos (-c).toNat)
    obtain ⟨t, ht⟩ : ∃ t : Nat, t = 2046 := ⟨_, rfl⟩
    rw [Nat.mul_right_comm x.z.natAbs, hz, nv_T, ← ht, Nat.mul_assoc, Nat.mul_assoc, Nat.mul_assoc, ← Nat.pow_add, ← Nat.pow_add, ← Nat.pow_add]
    exact Nat.mul_le_mul (by omega) (Nat.pow_le_pow_right (by decide) (by omega))
  have near := le_near (n := x.z.natAbs * 2 ^ n.toNat) (Nat.two_pow_pos (-n).toNat) ge
  have hx0 : x.z ≠ 0 := by
    intro k
    rw [k, Int.natAbs_zero, Nat.zero_mul] at hz
    have := Nat.mul_pos (show 0 < P + x'.k.natAbs % P by omega) (Nat.two_pow_pos (x'.k.natAbs / P - 1))
    omega
  unfold ldW wrd
  rw [if_neg (fun k => by rcases Int.mul_eq_zero.1 k with k | k; exact hx0 k; omega), mul_abs, Nat.min_eq_right near]
  have hs := Int.mul_lt_mul_right (b := x.z) (c := 0) (show (0 : Int) < ((2 ^ n.toNat : Nat) : Int) by omega)
  rw [Int.zero_mul] at hs
  by_cases k : x.k < 0
  · rw [if_pos k, decide_eq_true (hs.2 (sx.2 k))]; decide
  · rw [if_neg k, decide_eq_false (fun l => k (sx.1 (hs.1 l)))]; decide
theorem ld_none {x x' : F} {c n : Int} (h : Nm x x' c) (e : n + c + ((x'.k.natAbs / P : Nat) : Int) < -52) : ldW x n = if x.k < 0 then NEG0 else 0 := by
  have hz := h.z
  have hq := h.q
  have hc := h.c
  have hP := P_pos
  have sx := z_sign x
  have hr := Nat.mod_lt x'.k.natAbs P_pos
  have pU := Nat.two_pow_pos n.toNat
  have lt : 2 * (x.z.natAbs * 2 ^ n.toNat) < 2 ^ (-n).toNat := by
    apply Nat.lt_of_mul_lt_mul_right (a := 2 ^ (-c).toNat)
    rw [Nat.mul_assoc 2, Nat.mul_right_comm x.z.natAbs, hz, ← Nat.pow_add]
    have h1 : (P + x'.k.natAbs % P) * 2 ^ (x'.k.natAbs / P - 1) * 2 ^ n.toNat < 2 ^ 53 * 2 ^ (x'.k.natAbs / P - 1 + n.toNat) := by
      rw [Nat.mul_assoc, ← Nat.pow_add]
      exact Nat.mul_lt_mul_of_pos_right (by have : (2 : Nat) ^ 53 = 2 * P := rfl; omega) (Nat.two_pow_pos _)
    have h2 : 2 * (2 ^ 53 * 2 ^ (x'.k.natAbs / P - 1 + n.toNat)) ≤ 2 ^ ((-n).toNat + (-c).toNat) := by
      rw [← Nat.pow_add, Nat.mul_comm, ← Nat.pow_succ]
      exact Nat.pow_le_pow_right (by decide) (by omega)
    omega
  have hx0 : x.z ≠ 0 := by
    intro k
    rw [k, Int.natAbs_zero, Nat.zero_mul] at hz
    have := Nat.mul_pos (show 0 < P + x'.k.natAbs % P by omega) (Nat.two_pow_pos (x'.k.natAbs / P - 1))
    omega
  unfold ldW wrd
  rw [if_neg (fun k => by rcases Int.mul_eq_zero.1 k with k | k; exact hx0 k; omega), mul_abs, near_half lt]
  have hs := Int.mul_lt_mul_right (b := x.z) (c := 0) (show (0 : Int) < ((2 ^ n.toNat : Nat) : Int) by omega)
  rw [Int.zero_mul] at hs
  by_cases k : x.k < 0
  · rw [if_pos k, decide_eq_true (hs.2 (sx.2 k))]; decide
  · rw [if_neg k, decide_eq_false (fun l => k (sx.1 (hs.1 l)))]; decide
theorem ld_norm {x x' : F} {c n : Int} {f : Nat} (h : Nm x x' c) (e : n + c + ((x'.k.natAbs / P : Nat) : Int) = f) (h1 : 1 ≤ f) (h2 : f ≤ 2046) : ldW x n = (x'.like (f * P + x'.k.natAbs % P)).b := by
  have hz := h.z
  have hq := h.q
  have hc := h.c
  have hsg := h.sg
  obtain ⟨l1, l2, l3⟩ := like_nv x' h1 h2 (Nat.mod_lt x'.k.natAbs P_pos)
  refine ld_exact (sc_mk ?_ ?_)
  · rw [l2]
    apply Nat.eq_of_mul_eq_mul_right (Nat.two_pow_pos (-c).toNat)
    rw [Nat.mul_right_comm x.z.natAbs, hz, Nat.mul_assoc, Nat.mul_assoc, Nat.mul_assoc, ← Nat.pow_add, ← Nat.pow_add, ← Nat.pow_add]
    congr 2
    omega
  · have := z_sign (x'.like (f * P + x'.k.natAbs % P))
    omega
def F53 : F := F.of 4368491638549381120
theorem F53_z : F53.z * 9007199254740992 = S := by decide +kernel
theorem F53_k : F53.k ≠ 0 := by decide +kernel
theorem ld_sub {x x' : F} {c n : Int} {f : Nat} (h : Nm x x' c) (e : n + c + ((x'.k.natAbs / P : Nat) : Int) + 53 = f) (h1 : 1 ≤ f) (h2 : f ≤ 53) : double.mul F53.b (x'.like (f * P + x'.k.natAbs % P)).b = some (ldW x n) := by
  have hz := h.z
  have hq := h.q
  have hc := h.c
  have hsg := h.sg
  have sx := z_sign x
  obtain ⟨l1, l2, l3⟩ := like_nv x' h1 (show f ≤ 2046 by omega) (Nat.mod_lt x'.k.natAbs P_pos)
  have hy0 : (x'.like (f * P + x'.k.natAbs % P)).k ≠ 0 := by
    intro k
    have := (z_zero _).2 k
    rw [this, Int.natAbs_zero] at l2
    have := Nat.mul_pos (show 0 < P + x'.k.natAbs % P by have := P_pos; omega) (Nat.two_pow_pos (f - 1))
    omega
  rw [mul_wrd _ _ F53_k hy0]
  congr 1
  unfold ldW
  have hS := S_pos
  have pD := Nat.two_pow_pos (-n).toNat
  have pU := Nat.two_pow_pos n.toNat
  refine wrd_ratio hS pD ?_
  -- y 2^-n 2^-c = x 2^n 2^53 2^-c
  have key : (x'.like (f * P + x'.k.natAbs % P)).z * ((2 ^ (-n).toNat : Nat) : Int) = x.z * ((2 ^ n.toNat : Nat) : Int) * 9007199254740992 := by
    apply sgn_eq
    · rw [mul_abs, l2, Int.natAbs_mul, mul_abs]
      apply Nat.eq_of_mul_eq_mul_right (Nat.two_pow_pos (-c).toNat)
      have e53 : (9007199254740992 : Int).natAbs = 2 ^ 53 := rfl
      rw [e53, Nat.mul_assoc x.z.natAbs, Nat.mul_right_comm x.z.natAbs, hz, Nat.mul_assoc, Nat.mul_assoc, Nat.mul_assoc, ← Nat.pow_add, ← Nat.pow_add, ← Nat.pow_add, ← Nat.pow_add]
      congr 2
      omega
    · have a := Int.mul_lt_mul_right (b := (x'.like (f * P + x'.k.natAbs % P)).z) (c := 0) (show (0 : Int) < ((2 ^ (-n).toNat : Nat) : Int) by omega)
      have b := Int.mul_lt_mul_right (b := x.z) (c := 0) (show (0 : Int) < ((2 ^ n.toNat : Nat) : Int) by omega)
      rw [Int.zero_mul] at a b
      generalize (x'.like (f * P + x'.k.natAbs % P)).z * ((2 ^ (-n).toNat : Nat) : Int) = p at *
      generalize x.z * ((2 ^ n.toNat : Nat) : Int) = r at *
      omega
  have e3 := F53_z
  have e4 : F53.z * (x'.like (f * P + x'.k.natAbs % P)).z * ((2 ^ (-n).toNat : Nat) : Int) = F53.z * ((x'.like (f * P + x'.k.natAbs % P)).z * ((2 ^ (-n).toNat : Nat) : Int)) := Int.mul_assoc _ _ _
  rw [e4, key, ← e3]
  generalize x.z * ((2 ^ n.toNat : Nat) : Int) = r
  grind
end Bu
