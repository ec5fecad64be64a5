/- VndfAlong, plain: the part along the surface; the law's obligations. -/
import Derived.Test.YtoafllcnnhhebaaGreatKo
namespace Bu
set_option linter.all false
open Rx Go

section
variable {X Y Z sin cos A : I} {R : DR} {n : V3} {x y z c s : Rat}
theorem abs1 {a b v : Rat} (h : a * a + b * b + v * v ≤ 1) : (-1 ≤ a ∧ a ≤ 1) ∧ -1 ≤ b ∧ b ≤ 1 := by
  have := sq_nn v
  exact abs_of_sq (by grind)
theorem AB.along (h : AB X Y Z sin cos A R n x y z c s) {e : Rat} (he : 0 < e) : ∃ hx hy, Mem n.x hx ∧ Mem n.y hy ∧ ∀ m2, 0 < m2 → x * x + y * y ≤ m2 * m2 → m2 * m2 ≤ (x * x + y * y) * (1 + e) →
    ∃ g, (hy * x - hx * y) / m2 = R.r.lo.q * c * g ∧ 0 ≤ g ∧ g ≤ 1 ∧ 1 ≤ g * (1 + e) := by
  have T := h.T
  obtain ⟨nu, mu, hn, hS, hS2, hm, n0, m0, hQ, hQ2⟩ := h.fine he
  obtain ⟨p, u, g2, hp, hu, hs⟩ := h.short hn hS hm hQ
  have w1 : Mem R.nn2 1 := ⟨h.low, h.high⟩
  obtain ⟨b1, b2⟩ := abs1 hs
  have ea : (dP R x y z c s nu mu p u).a = 1 := rfl
  have i1 : (1 : Rat) / 1 = 1 := by decide +kernel
  have x1 := T.x _ g2 hp hu 1 w1 (by rw [ea, i1]; grind) (by rw [ea, i1]; grind)
  have y1 := T.y _ g2 hp hu 1 w1 (by rw [ea, i1]; grind) (by rw [ea, i1]; grind)
  rw [ea, i1, Rat.one_mul, Rat.one_mul] at x1 y1
  refine ⟨_, _, x1, y1, fun m2 k0 k1 k2 => ?_⟩
  have j0 : 0 < 1 / m2 := by rw [Rat.div_def, Rat.one_mul]; exact Rat.inv_pos.2 k0
  have i0 : 0 < 1 / mu := by rw [Rat.div_def, Rat.one_mul]; exact Rat.inv_pos.2 m0
  have c0 : 0 < 1 / nu := by rw [Rat.div_def, Rat.one_mul]; exact Rat.inv_pos.2 n0
  have P0 : 0 ≤ x * x + y * y := by have := sq_nn x; have := sq_nn y; grind
  have eD : ((dP R x y z c s nu mu p u).hy * x - (dP R x y z c s nu mu p u).hx * y) / m2 = R.r.lo.q * c * (1 / nu * (1 / mu) * (x * x + y * y) * (1 / m2)) := by
    have e1 : (dP R x y z c s nu mu p u).tx = -(dP R x y z c s nu mu p u).vy * (1 / mu) := by unfold DP.tx; rw [Rat.div_def, Rat.div_def, Rat.one_mul]; rfl
    have e2 : (dP R x y z c s nu mu p u).ty = (dP R x y z c s nu mu p u).vx * (1 / mu) := by unfold DP.ty; rw [Rat.div_def, Rat.div_def, Rat.one_mul]; rfl
    have e3 : (dP R x y z c s nu mu p u).vx = 1 / nu * x := by unfold DP.vx; rw [ea, Rat.one_mul]; rfl
    have e4 : (dP R x y z c s nu mu p u).vy = 1 / nu * y := by unfold DP.vy; rw [ea, Rat.one_mul]; rfl
    have e5 : (dP R x y z c s nu mu p u).L = R.r.lo.q * c := rfl
    have e6 : ∀ t : Rat, t / m2 = t * (1 / m2) := fun t => by rw [Rat.div_def, Rat.div_def, Rat.one_mul]
    rw [e6]
    unfold DP.hx DP.hy DP.bx DP.bY
    rw [e1, e2, e3, e4, e5]
    generalize 1 / nu = a; generalize 1 / mu = b; generalize 1 / m2 = d
    generalize (dP R x y z c s nu mu p u).A = q; generalize (dP R x y z c s nu mu p u).vz = v; generalize (dP R x y z c s nu mu p u).u = w
    grind
  have eQ : (dP R x y z c s nu mu 0 0).Q = 1 / nu * (1 / nu) * (x * x + y * y) := by
    have e3 : (dP R x y z c s nu mu 0 0).vx = 1 / nu * x := by unfold DP.vx; rw [show (dP R x y z c s nu mu 0 0).a = 1 from rfl, Rat.one_mul]; rfl
    have e4 : (dP R x y z c s nu mu 0 0).vy = 1 / nu * y := by unfold DP.vy; rw [show (dP R x y z c s nu mu 0 0).a = 1 from rfl, Rat.one_mul]; rfl
    unfold DP.Q
    rw [e3, e4]; grind
  rw [eQ] at hQ hQ2
  have q1 := part_le m0 hQ
  have q2 := part_ge m0 hQ2
  have r1 := part_le k0 k1
  have r2 := part_ge k0 k2
  refine ⟨_, eD, ?_, ?_, ?_⟩
  · exact Rat.mul_nonneg (Rat.mul_nonneg (Rat.mul_nonneg (Rat.le_of_lt c0) (Rat.le_of_lt i0)) P0) (Rat.le_of_lt j0)
  · generalize 1 / nu = a at *; generalize 1 / mu = b at *; generalize 1 / m2 = d at *
    generalize x * x + y * y = P at *
    have g0 : 0 ≤ a * b * P * d := Rat.mul_nonneg (Rat.mul_nonneg (Rat.mul_nonneg (Rat.le_of_lt c0) (Rat.le_of_lt i0)) P0) (Rat.le_of_lt j0)
    refine sq_le' g0 (by grind) ?_
    have t0 : 0 ≤ P * (d * d) := Rat.mul_nonneg P0 (sq_nn d)
    have := Rat.mul_nonneg (show 0 ≤ 1 - a * a * P * (b * b) by grind) t0
    grind
  · generalize 1 / nu = a at *; generalize 1 / mu = b at *; generalize 1 / m2 = d at *
    generalize x * x + y * y = P at *
    have g0 : 0 ≤ a * b * P * d := Rat.mul_nonneg (Rat.mul_nonneg (Rat.mul_nonneg (Rat.le_of_lt c0) (Rat.le_of_lt i0)) P0) (Rat.le_of_lt j0)
    refine sq_le' (by grind) (Rat.mul_nonneg g0 (by grind)) ?_
    have := Rat.mul_nonneg (show 0 ≤ a * a * P * (b * b) * (1 + e) - 1 by grind) (show 0 ≤ P * (d * d) * (1 + e) by grind)
    grind
/-- two intervals: of the part along, by every root, and of what it is -/
theorem along_meets {al t : I} {L : Rat} (hL : -1 ≤ L ∧ L ≤ 1) (ht : Mem t L) (ha : ∀ e : Rat, 0 < e → e < 1 → ∃ g, Mem al (L * g) ∧ 0 ≤ g ∧ g ≤ 1 ∧ 1 ≤ g * (1 + e)) : meetsB al t = true := by
  have t1 := ht.lo; have t2 := ht.hi
  have a1 : al.lo.q ≤ L := lim fun e he e1 => by
    obtain ⟨g, m, g0, g1, g2⟩ := ha e he e1
    have := m.lo
    rcases (Rat.le_total : 0 ≤ L ∨ L ≤ 0) with k | k
    · have := Rat.mul_nonneg k (show 0 ≤ 1 - g by grind); grind
    · have a := Rat.mul_nonneg (show 0 ≤ -L by grind) (show 0 ≤ g * (1 + e) - 1 by grind)
      have b := Rat.mul_nonneg (Rat.mul_nonneg (show 0 ≤ 1 + L by grind) g0) (Rat.le_of_lt he)
      have d := Rat.mul_nonneg (show 0 ≤ 1 - g by grind) (Rat.le_of_lt he)
      grind
  have a2 : L ≤ al.hi.q := lim fun e he e1 => by
    obtain ⟨g, m, g0, g1, g2⟩ := ha e he e1
    have := m.hi
    rcases (Rat.le_total : 0 ≤ L ∨ L ≤ 0) with k | k
    · have a := Rat.mul_nonneg k (show 0 ≤ g * (1 + e) - 1 by grind)
      have b := Rat.mul_nonneg (Rat.mul_nonneg (show 0 ≤ 1 - L by grind) g0) (Rat.le_of_lt he)
      have d := Rat.mul_nonneg (show 0 ≤ 1 - g by grind) (Rat.le_of_lt he)
      grind
    · have := Rat.mul_nonneg (show 0 ≤ -L by grind) (show 0 ≤ 1 - g by grind); grind
  unfold meetsB
  rw [Bool.and_eq_true, decide_eq_true_iff, decide_eq_true_iff]
  exact ⟨q_le.1 (by grind), q_le.1 (by grind)⟩
end
end Bu
