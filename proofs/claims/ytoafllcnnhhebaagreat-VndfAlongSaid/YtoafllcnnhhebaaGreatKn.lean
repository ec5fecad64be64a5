/- vndf.Draw, plain: the length of what is drawn with alpha 1. -/
import Derived.Test.YtoafllcnnhhebaaGreatKm
namespace Bu
set_option linter.all false
open Rx Go

theorem lim {x y : Rat} (h : ∀ e : Rat, 0 < e → e < 1 → x ≤ y + e) : x ≤ y := by
  apply Rat.not_lt.1
  intro g
  rcases (Rat.le_total : x - y ≤ 1 ∨ 1 ≤ x - y) with k | k
  · have := h ((x - y) / 2) (by grind) (by grind); grind
  · have := h (1 / 2) (by grind) (by grind); grind
/-- a step over a height -/
theorem cross {f : Nat → Rat} {v : Rat} : ∀ {n : Nat}, f 0 < v → v ≤ f n → ∃ k, f k < v ∧ v ≤ f (k + 1)
  | 0, h0, h1 => absurd h0 (Rat.not_lt.2 h1)
  | n + 1, h0, h1 => by
    by_cases c : v ≤ f n
    · exact cross h0 c
    · exact ⟨n, Rat.not_le.1 c, h1⟩
/-- a number whose square is next to v, from above -/
theorem near_root {lo hi v e : Rat} (h0 : 0 < lo) (h1 : lo ≤ hi) (a : lo * lo ≤ v) (b : v ≤ hi * hi) (he : 0 < e) : ∃ w, lo ≤ w ∧ w ≤ hi ∧ v ≤ w * w ∧ w * w ≤ v * (1 + e) := by
  have v0 : 0 < v := by have := Rat.mul_pos h0 h0; grind
  have ve := Rat.mul_pos v0 he
  by_cases c : v ≤ lo * lo
  · exact ⟨lo, Rat.le_refl, h1, c, by grind⟩
  · have c := Rat.not_le.1 c
    have D : 0 < (hi - lo) * (2 * hi + (hi - lo)) + 1 := by
      have := Rat.mul_nonneg (show 0 ≤ hi - lo by grind) (show 0 ≤ 2 * hi + (hi - lo) by grind)
      grind
    have dd : 0 < v * e / ((hi - lo) * (2 * hi + (hi - lo)) + 1) := by rw [Rat.div_def]; exact Rat.mul_pos ve (Rat.inv_pos.2 D)
    obtain ⟨M, m1, m2⟩ := arch dd
    have M0 : 0 < (M : Rat) := natq_pos (by omega)
    have ei : (1 / (M : Rat)) * (M : Rat) = 1 := Rat.div_mul_cancel (by grind)
    have i0 : 0 < 1 / (M : Rat) := by rw [Rat.div_def, Rat.one_mul]; exact Rat.inv_pos.2 M0
    have i1 : 1 / (M : Rat) ≤ 1 := by
      have : (1 : Rat) ≤ (M : Rat) := by have := Rat.natCast_le_natCast.2 (show 1 ≤ M by omega); simpa using this
      have := Rat.mul_nonneg (Rat.le_of_lt i0) (show 0 ≤ (M : Rat) - 1 by grind)
      grind
    generalize 1 / (M : Rat) = w0 at *
    have ed : v * e / ((hi - lo) * (2 * hi + (hi - lo)) + 1) * ((hi - lo) * (2 * hi + (hi - lo)) + 1) = v * e := Rat.div_mul_cancel (by grind)
    obtain ⟨k, k1, k2⟩ := cross (f := fun k : Nat => (lo + (k : Rat) * ((hi - lo) * w0)) * (lo + (k : Rat) * ((hi - lo) * w0))) (v := v) (n := M) (by simp only [show ((0 : Nat) : Rat) = 0 from rfl]; grind) (by
      have : (M : Rat) * ((hi - lo) * w0) = hi - lo := by grind
      simp only [this]; grind)
    simp only [Rat.natCast_add, show ((1 : Nat) : Rat) = 1 from rfl] at k1 k2
    have K0 := natq_nn k
    have st0 := Rat.mul_nonneg (show 0 ≤ hi - lo by grind) (Rat.le_of_lt i0)
    generalize hst : (hi - lo) * w0 = st at *
    have kst := Rat.mul_nonneg K0 st0
    have w1 : lo + (k : Rat) * st < hi := sq_lt (by grind) (by grind) (by grind)
    have st1 : st ≤ hi - lo := by have := Rat.mul_nonneg (show 0 ≤ hi - lo by grind) (show 0 ≤ 1 - w0 by grind); grind
    -- the step is small
    have small : st * (2 * hi + (hi - lo)) ≤ v * e := by
      have g1 := Rat.mul_nonneg (show 0 ≤ (M : Rat) * (v * e / ((hi - lo) * (2 * hi + (hi - lo)) + 1)) - 1 by grind) (Rat.le_of_lt i0)
      generalize v * e / ((hi - lo) * (2 * hi + (hi - lo)) + 1) = dl at *
      have g2 : w0 ≤ dl := by
        generalize (M : Rat) = mr at *
        have : mr * dl * w0 = dl := by grind
        grind
      have g3 := Rat.mul_nonneg (show 0 ≤ (hi - lo) * (2 * hi + (hi - lo)) by exact Rat.mul_nonneg (by grind) (by grind)) (show 0 ≤ dl - w0 by grind)
      have g4 : st * (2 * hi + (hi - lo)) = (hi - lo) * (2 * hi + (hi - lo)) * w0 := by rw [← hst]; grind
      rw [g4]
      generalize (hi - lo) * (2 * hi + (hi - lo)) = dd0 at *
      clear k1 k2 w1 kst hst st0 st1 a b c g1 m2
      grind
    by_cases cc : lo + ((k : Rat) + 1) * st ≤ hi
    · refine ⟨lo + ((k : Rat) + 1) * st, by grind, cc, k2, ?_⟩
      have g1 := Rat.mul_nonneg st0 (show 0 ≤ hi - (lo + (k : Rat) * st) by grind)
      have g2 := Rat.mul_nonneg st0 (show 0 ≤ hi - lo - st by grind)
      grind
    · refine ⟨hi, h1, Rat.le_refl, b, ?_⟩
      have cc := Rat.not_le.1 cc
      have g0 : hi * hi ≤ (lo + ((k : Rat) + 1) * st) * (lo + ((k : Rat) + 1) * st) := sq_bd (by grind) (by grind)
      have g1 := Rat.mul_nonneg st0 (show 0 ≤ hi - (lo + (k : Rat) * st) by grind)
      have g2 := Rat.mul_nonneg st0 (show 0 ≤ hi - lo - st by grind)
      grind
/-- what is drawn, as a sum of squares -/
theorem DP.sum (d : DP) (hm : d.m ≠ 0) : d.hx * d.hx + d.hy * d.hy + d.hz * d.hz = d.L * d.L * (d.Q * (1 / d.m * (1 / d.m))) + d.A * d.A * ((d.Q + d.vz * d.vz) * (d.Q * (1 / d.m * (1 / d.m)))) + d.u * d.u * (d.Q + d.vz * d.vz) := by
  have e1 : d.tx = -d.vy * (1 / d.m) := by unfold DP.tx; rw [Rat.div_def, Rat.div_def, Rat.one_mul]
  have e2 : d.ty = d.vx * (1 / d.m) := by unfold DP.ty; rw [Rat.div_def, Rat.div_def, Rat.one_mul]
  unfold DP.hx DP.hy DP.hz DP.bx DP.bY DP.bz DP.Q
  rw [e1, e2]
  generalize 1 / d.m = i
  generalize d.vx = a; generalize d.vy = b; generalize d.vz = c; generalize d.L = l; generalize d.A = q; generalize d.u = w
  grind
theorem DP.V2 (d : DP) : d.Q + d.vz * d.vz = 1 / d.n * (1 / d.n) * d.S := by
  unfold DP.Q DP.vx DP.vy DP.vz DP.S
  grind
/-- a part of a length, squared -/
theorem part_le {v n : Rat} (hn : 0 < n) (h : v ≤ n * n) : v * (1 / n * (1 / n)) ≤ 1 := by
  have e : 1 / n * n = 1 := Rat.div_mul_cancel (by grind)
  have i : 0 < 1 / n := by rw [Rat.div_def, Rat.one_mul]; exact Rat.inv_pos.2 hn
  have := Rat.mul_nonneg (show 0 ≤ n * n - v by grind) (Rat.le_of_lt (Rat.mul_pos i i))
  generalize 1 / n = w at *
  have e2 : n * n * (w * w) = 1 := by grind
  grind
theorem part_ge {v n e : Rat} (hn : 0 < n) (h : n * n ≤ v * (1 + e)) : 1 ≤ v * (1 / n * (1 / n)) * (1 + e) := by
  have e1 : 1 / n * n = 1 := Rat.div_mul_cancel (by grind)
  have i : 0 < 1 / n := by rw [Rat.div_def, Rat.one_mul]; exact Rat.inv_pos.2 hn
  have := Rat.mul_nonneg (show 0 ≤ v * (1 + e) - n * n by grind) (Rat.le_of_lt (Rat.mul_pos i i))
  generalize 1 / n = w at *
  have e2 : n * n * (w * w) = 1 := by grind
  grind
end Bu
