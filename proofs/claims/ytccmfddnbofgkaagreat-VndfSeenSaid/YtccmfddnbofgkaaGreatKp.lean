/- vndf.Draw, plain: the length of what is drawn with alpha 1. VndfAlong, plain: what is drawn with alpha 1 is of length 1, and its part along the surface. VndfAlong, plain: the part along the surface; the law's obligations. -/
import Derived.Test.YtccmfddnbofgkaaGreatKm
namespace Bu
set_option linter.all false
open Rx Go

theorem lim {x y : Rat} (h : ∀ e : Rat, 0 < e → e < 1 → x ≤ y + e) : x ≤ y := by
  apply Rat.not_lt.1
  intro g
  rcases (Rat.le_total : x - y ≤ 1 ∨ 1 ≤ x - y) with k | k
  · have := h ((x - y) / 2) (by grind) (by grind); grind
  · have := h (1 / 2) (by grind) (by grind); grind
/-- a step over a height -/
theorem cross {f : Nat → Rat} {v : Rat} : ∀ {n : Nat}, f 0 < v → v ≤ f n → ∃ k, f k < v ∧ v ≤ f (k + 1)
  | 0, h0, h1 => absurd h0 (Rat.not_lt.2 h1)
  | n + 1, h0, h1 => by
    by_cases c : v ≤ f n
    · exact cross h0 c
    · exact ⟨n, Rat.not_le.1 c, h1⟩
/-- a number whose square is next to v, from above -/
theorem near_root {lo hi v e : Rat} (h0 : 0 < lo) (h1 : lo ≤ hi) (a : lo * lo ≤ v) (b : v ≤ hi * hi) (he : 0 < e) : ∃ w, lo ≤ w ∧ w ≤ hi ∧ v ≤ w * w ∧ w * w ≤ v * (1 + e) := by
  have v0 : 0 < v := by have := Rat.mul_pos h0 h0; grind
  have ve := Rat.mul_pos v0 he
  by_cases c : v ≤ lo * lo
  · exact ⟨lo, Rat.le_refl, h1, c, by grind⟩
  · have c := Rat.not_le.1 c
    have D : 0 < (hi - lo) * (2 * hi + (hi - lo)) + 1 := by
      have := Rat.mul_nonneg (show 0 ≤ hi - lo by grind) (show 0 ≤ 2 * hi + (hi - lo) by grind)
      grind
    have dd : 0 < v * e / ((hi - lo) * (2 * hi + (hi - lo)) + 1) := by rw [Rat.div_def]; exact Rat.mul_pos ve (Rat.inv_pos.2 D)
    obtain ⟨M, m1, m2⟩ := arch dd
    have M0 : 0 < (M : Rat) := natq_pos (by omega)
    have ei : (1 / (M : Rat)) * (M : Rat) = 1 := Rat.div_mul_cancel (by grind)
    have i0 : 0 < 1 / (M : Rat) := by rw [Rat.div_def, Rat.one_mul]; exact Rat.inv_pos.2 M0
    have i1 : 1 / (M : Rat) ≤ 1 := by
      have : (1 : Rat) ≤ (M : Rat) := by have := Rat.natCast_le_natCast.2 (show 1 ≤ M by omega); simpa using this
      have := Rat.mul_nonneg (Rat.le_of_lt i0) (show 0 ≤ (M : Rat) - 1 by grind)
      grind
    generalize 1 / (M : Rat) = w0 at *
    have ed : v * e / ((hi - lo) * (2 * hi + (hi - lo)) + 1) * ((hi - lo) * (2 * hi + (hi - lo)) + 1) = v * e := Rat.div_mul_cancel (by grind)
    obtain ⟨k, k1, k2⟩ := cross (f := fun k : Nat => (lo + (k : Rat) * ((hi - lo) * w0)) * (lo + (k : Rat) * ((hi - lo) * w0))) (v := v) (n := M) (by simp only [show ((0 : Nat) : Rat) = 0 from rfl]; grind) (by
      have : (M : Rat) * ((hi - lo) * w0) = hi - lo := by grind
      simp only [this]; grind)
    simp only [Rat.natCast_add, show ((1 : Nat) : Rat) = 1 from rfl] at k1 k2
    have K0 := natq_nn k
    have st0 := Rat.mul_nonneg (show 0 ≤ hi - lo by grind) (Rat.le_of_lt i0)
    generalize hst : (hi - lo) * w0 = st at *
    have kst := Rat.mul_nonneg K0 st0
    have w1 : lo + (k : Rat) * st < hi := sq_lt (by grind) (by grind) (by grind)
    have st1 : st ≤ hi - lo := by have := Rat.mul_nonneg (show 0 ≤ hi - lo by grind) (show 0 ≤ 1 - w0 by grind); grind
    -- the step is small
    have small : st * (2 * hi + (hi - lo)) ≤ v * e := by
      have g1 := Rat.mul_nonneg (show 0 ≤ (M : Rat) * (v * e / ((hi - lo) * (2 * hi + (hi - lo)) + 1)) - 1 by grind) (Rat.le_of_lt i0)
      generalize v * e / ((hi - lo) * (2 * hi + (hi - lo)) + 1) = dl at *
      have g2 : w0 ≤ dl := by
        generalize (M : Rat) = mr at *
        have : mr * dl * w0 = dl := by grind
        grind
      have g3 := Rat.mul_nonneg (show 0 ≤ (hi - lo) * (2 * hi + (hi - lo)) by exact Rat.mul_nonneg (by grind) (by grind)) (show 0 ≤ dl - w0 by grind)
      have g4 : st * (2 * hi + (hi - lo)) = (hi - lo) * (2 * hi + (hi - lo)) * w0 := by rw [← hst]; grind
      rw [g4]
      generalize (hi - lo) * (2 * hi + (hi - lo)) = dd0 at *
      clear k1 k2 w1 kst hst st0 st1 a b c g1 m2
      grind
    by_cases cc : lo + ((k : Rat) + 1) * st ≤ hi
    · refine ⟨lo + ((k : Rat) + 1) * st, by grind, cc, k2, ?_⟩
      have g1 := Rat.mul_nonneg st0 (show 0 ≤ hi - (lo + (k : Rat) * st) by grind)
      have g2 := Rat.mul_nonneg st0 (show 0 ≤ hi - lo - st by grind)
      grind
    · refine ⟨hi, h1, Rat.le_refl, b, ?_⟩
      have cc := Rat.not_le.1 cc
      have g0 : hi * hi ≤ (lo + ((k : Rat) + 1) * st) * (lo + ((k : Rat) + 1) * st) := sq_bd (by grind) (by grind)
      have g1 := Rat.mul_nonneg st0 (show 0 ≤ hi - (lo + (k : Rat) * st) by grind)
      have g2 := Rat.mul_nonneg st0 (show 0 ≤ hi - lo - st by grind)
      grind
/-- what is drawn, as a sum of squares -/
theorem DP.sum (d : DP) (hm : d.m ≠ 0) : d.hx * d.hx + d.hy * d.hy + d.hz * d.hz = d.L * d.L * (d.Q * (1 / d.m * (1 / d.m))) + d.A * d.A * ((d.Q + d.vz * d.vz) * (d.Q * (1 / d.m * (1 / d.m)))) + d.u * d.u * (d.Q + d.vz * d.vz) := by
  have e1 : d.tx = -d.vy * (1 / d.m) := by unfold DP.tx; rw [Rat.div_def, Rat.div_def, Rat.one_mul]
  have e2 : d.ty = d.vx * (1 / d.m) := by unfold DP.ty; rw [Rat.div_def, Rat.div_def, Rat.one_mul]
  unfold DP.hx DP.hy DP.hz DP.bx DP.bY DP.bz DP.Q
  rw [e1, e2]
  generalize 1 / d.m = i
  generalize d.vx = a; generalize d.vy = b; generalize d.vz = c; generalize d.L = l; generalize d.A = q; generalize d.u = w
  grind
theorem DP.V2 (d : DP) : d.Q + d.vz * d.vz = 1 / d.n * (1 / d.n) * d.S := by
  unfold DP.Q DP.vx DP.vy DP.vz DP.S
  grind
/-- a part of a length, squared -/
theorem part_le {v n : Rat} (hn : 0 < n) (h : v ≤ n * n) : v * (1 / n * (1 / n)) ≤ 1 := by
  have e : 1 / n * n = 1 := Rat.div_mul_cancel (by grind)
  have i : 0 < 1 / n := by rw [Rat.div_def, Rat.one_mul]; exact Rat.inv_pos.2 hn
  have := Rat.mul_nonneg (show 0 ≤ n * n - v by grind) (Rat.le_of_lt (Rat.mul_pos i i))
  generalize 1 / n = w at *
  have e2 : n * n * (w * w) = 1 := by grind
  grind
theorem part_ge {v n e : Rat} (hn : 0 < n) (h : n * n ≤ v * (1 + e)) : 1 ≤ v * (1 / n * (1 / n)) * (1 + e) := by
  have e1 : 1 / n * n = 1 := Rat.div_mul_cancel (by grind)
  have i : 0 < 1 / n := by rw [Rat.div_def, Rat.one_mul]; exact Rat.inv_pos.2 hn
  have := Rat.mul_nonneg (show 0 ≤ v * (1 + e) - n * n by grind) (Rat.le_of_lt (Rat.mul_pos i i))
  generalize 1 / n = w at *
  have e2 : n * n * (w * w) = 1 := by grind
  grind
end Bu
namespace Bu
set_option linter.all false
open Rx Go

structure AB (X Y Z sin cos A : I) (R : DR) (n : V3) (x y z c s : Rat) : Prop where
  T : DrT X Y Z (pt one64) sin cos A R n
  mx : Mem X x
  my : Mem Y y
  mz : Mem Z z
  z0 : 0 < z
  mc : Mem cos c
  ms : Mem sin s
  cs : s * s + c * c ≤ 1
  A1 : A.lo.q ≤ 1
  rA : rt A = true
def dP (R : DR) (x y z c s n m p u : Rat) : DP := ⟨1, x, y, z, n, m, R.r.lo.q, c, s, p, u⟩
section
variable {X Y Z sin cos A : I} {R : DR} {n : V3} {x y z c s : Rat}
theorem one_mem : Mem (pt one64) 1 := ⟨by show one64.q ≤ 1; rw [one_q]; exact Rat.le_refl, by show 1 ≤ one64.q; rw [one_q]; exact Rat.le_refl⟩
def sS (x y z : Rat) : Rat := 1 * x * (1 * x) + 1 * y * (1 * y) + z * z
theorem AB.nn (h : AB X Y Z sin cos A R n x y z c s) : R.nn.lo.q * R.nn.lo.q ≤ sS x y z ∧ sS x y z ≤ R.nn.hi.q * R.nn.hi.q := h.T.nn (dP R x y z c s 0 0 0 0) ⟨one_mem, h.mx, h.my, h.mz⟩
theorem AB.rm (h : AB X Y Z sin cos A R n x y z c s) : Mem R.r R.r.lo.q ∧ 0 ≤ R.r.lo.q ∧ R.r.lo.q * R.r.lo.q ≤ 1 := by
  obtain ⟨a, b⟩ := h.T.r
  have l := rt_le h.rA
  have h1 := a.le; have h2 := b.ge; have h3 := h.A1
  exact ⟨⟨Rat.le_refl, sq_le' a.nn b.nn (by grind)⟩, a.nn, by grind⟩
theorem AB.inV (h : AB X Y Z sin cos A R n x y z c s) {nu mu p u : Rat} (hn : Mem R.nn nu) (hS : sS x y z ≤ nu * nu) : InV X Y Z (pt one64) R (dP R x y z c s nu mu p u) ∧ 0 < nu := by
  have n0 : 0 < nu := by have := h.T.n0; have := hn.lo; grind
  have s1 := sq_nn (1 * x); have s2 := sq_nn (1 * y); have s3 := sq_nn z
  unfold sS at hS
  exact ⟨⟨⟨one_mem, h.mx, h.my, h.mz⟩, hn, clip1 (x := 1 * x) (n := nu) n0 (by grind), clip1 (x := 1 * y) (n := nu) n0 (by grind), nn_mul (n := nu) n0 (Rat.le_of_lt h.z0), (clip1 (x := z) (n := nu) n0 (by grind)).2⟩, n0⟩
theorem AB.inT (h : AB X Y Z sin cos A R n x y z c s) {nu mu p u : Rat} (hn : Mem R.nn nu) (hS : sS x y z ≤ nu * nu) (hm : Mem R.m mu) (hQ : (dP R x y z c s nu mu p u).Q ≤ mu * mu) : InT X Y Z (pt one64) sin cos R (dP R x y z c s nu mu p u) ∧ 0 < mu := by
  have m0 : 0 < mu := by have := h.T.m0; have := hm.lo; grind
  have v := (h.inV (mu := mu) (p := p) (u := u) hn hS).1
  have s1 := sq_nn (dP R x y z c s nu mu p u).vx; have s2 := sq_nn (dP R x y z c s nu mu p u).vy
  unfold DP.Q at hQ
  exact ⟨⟨v, hm, clip2 (x := -(dP R x y z c s nu mu p u).vy) (n := mu) m0 (by grind), clip2 (x := (dP R x y z c s nu mu p u).vx) (n := mu) m0 (by grind), h.rm.1, h.mc, h.ms⟩, m0⟩
/-- the second draw's part is no more than what is left -/
theorem AB.rs (h : AB X Y Z sin cos A R n x y z c s) (nu mu p u : Rat) : R.r.lo.q * s * (R.r.lo.q * s) ≤ (dP R x y z c s nu mu p u).left ∧ (dP R x y z c s nu mu p u).left ≤ 1 := by
  obtain ⟨_, r0, r1⟩ := h.rm
  have cs := h.cs
  have e : (dP R x y z c s nu mu p u).left = 1 - R.r.lo.q * c * (R.r.lo.q * c) := rfl
  rw [e]
  have k := Rat.mul_nonneg (sq_nn R.r.lo.q) (show 0 ≤ 1 - (s * s + c * c) by grind)
  have l := sq_nn (R.r.lo.q * c)
  generalize R.r.lo.q = r at *
  constructor <;> grind
/-- convex -/
theorem conv_sq {k p q v : Rat} (k0 : 0 ≤ k) (k1 : k ≤ 1) (hp : p * p ≤ v) (hq : q * q ≤ v) : ((1 - k) * p + k * q) * ((1 - k) * p + k * q) ≤ v := by
  have a := Rat.mul_nonneg (show 0 ≤ 1 - k by grind) (show 0 ≤ v - p * p by grind)
  have b := Rat.mul_nonneg k0 (show 0 ≤ v - q * q by grind)
  have c := Rat.mul_nonneg (Rat.mul_nonneg k0 (show 0 ≤ 1 - k by grind)) (sq_nn (p - q))
  grind
theorem AB.k01 (h : AB X Y Z sin cos A R n x y z c s) {nu mu p u : Rat} (g : InV X Y Z (pt one64) R (dP R x y z c s nu mu p u)) : 0 ≤ (dP R x y z c s nu mu p u).k ∧ (dP R x y z c s nu mu p u).k ≤ 1 := by
  have a := g.vz.1; have b := g.vz.2
  unfold DP.k
  constructor <;> grind
theorem AB.A_le (h : AB X Y Z sin cos A R n x y z c s) {nu mu p u : Rat} (g : InV X Y Z (pt one64) R (dP R x y z c s nu mu p u)) (hp : p * p ≤ (dP R x y z c s nu mu p u).left) : (dP R x y z c s nu mu p u).A * (dP R x y z c s nu mu p u).A ≤ (dP R x y z c s nu mu p u).left := by
  obtain ⟨k0, k1⟩ := h.k01 g
  exact conv_sq k0 k1 hp (h.rs nu mu p u).1
/-- of length 1 at most -/
theorem sum_le {L A u V T : Rat} (h : L * L + A * A + u * u ≤ 1) (v0 : 0 ≤ V) (v1 : V ≤ 1) (t0 : 0 ≤ T) (t1 : T ≤ 1) : L * L * T + A * A * (V * T) + u * u * V ≤ 1 := by
  have a := Rat.mul_nonneg (sq_nn L) (show 0 ≤ 1 - T by grind)
  have b := Rat.mul_nonneg (sq_nn A) (show 0 ≤ 1 - V by grind)
  have c := Rat.mul_nonneg (Rat.mul_nonneg (sq_nn A) v0) (show 0 ≤ 1 - T by grind)
  have d := Rat.mul_nonneg (sq_nn u) (show 0 ≤ 1 - V by grind)
  grind
/-- both lengths -/
theorem AB.VT (h : AB X Y Z sin cos A R n x y z c s) {nu mu p u : Rat} (hn : Mem R.nn nu) (hS : sS x y z ≤ nu * nu) (m0 : 0 < mu) (hQ : (dP R x y z c s nu mu p u).Q ≤ mu * mu) :
    (0 ≤ (dP R x y z c s nu mu p u).Q + (dP R x y z c s nu mu p u).vz * (dP R x y z c s nu mu p u).vz ∧ (dP R x y z c s nu mu p u).Q + (dP R x y z c s nu mu p u).vz * (dP R x y z c s nu mu p u).vz ≤ 1) ∧
    0 ≤ (dP R x y z c s nu mu p u).Q ∧ (dP R x y z c s nu mu p u).Q * (1 / mu * (1 / mu)) ≤ 1 := by
  have n0 := (h.inV (mu := mu) (p := p) (u := u) hn hS).2
  have q0 : 0 ≤ (dP R x y z c s nu mu p u).Q := by have := sq_nn (dP R x y z c s nu mu p u).vx; have := sq_nn (dP R x y z c s nu mu p u).vy; unfold DP.Q; grind
  refine ⟨⟨by have := sq_nn (dP R x y z c s nu mu p u).vz; grind, ?_⟩, q0, part_le m0 hQ⟩
  rw [DP.V2]
  have := part_le n0 hS
  have e : (dP R x y z c s nu mu p u).S = sS x y z := rfl
  have e2 : (dP R x y z c s nu mu p u).n = nu := rfl
  rw [e, e2]
  grind
/-- what is drawn, by a point that is not too long -/
theorem AB.short (h : AB X Y Z sin cos A R n x y z c s) {nu mu : Rat} (hn : Mem R.nn nu) (hS : sS x y z ≤ nu * nu) (hm : Mem R.m mu) (hQ : (dP R x y z c s nu mu 0 0).Q ≤ mu * mu) :
    ∃ p u, InT X Y Z (pt one64) sin cos R (dP R x y z c s nu mu p u) ∧ Mem R.rt1 p ∧ Mem R.up u ∧
      (dP R x y z c s nu mu p u).hx * (dP R x y z c s nu mu p u).hx + (dP R x y z c s nu mu p u).hy * (dP R x y z c s nu mu p u).hy + (dP R x y z c s nu mu p u).hz * (dP R x y z c s nu mu p u).hz ≤ 1 := by
  have T := h.T
  have g0 := (h.inT (p := 0) (u := 0) hn hS hm hQ).1
  have t0 := T.p _ g0
  have l0 := (h.rs nu mu 0 0).1
  have l1 : 0 ≤ (dP R x y z c s nu mu 0 0).left := by have := sq_nn (R.r.lo.q * s); grind
  have pp : R.rt1.lo.q * R.rt1.lo.q ≤ (dP R x y z c s nu mu 0 0).left := by
    rcases t0.lo with k | ⟨k, _⟩
    · exact k
    · rw [k]; grind
  have hp : Mem R.rt1 R.rt1.lo.q := ⟨Rat.le_refl, t0.rt⟩
  have g1 := (h.inT (p := R.rt1.lo.q) (u := 0) hn hS hm hQ).1
  have u0 := T.u _ g1 hp
  have hu : Mem R.up R.up.lo.q := ⟨Rat.le_refl, u0.rt⟩
  obtain ⟨g2, m0⟩ := h.inT (p := R.rt1.lo.q) (u := R.up.lo.q) hn hS hm hQ
  refine ⟨R.rt1.lo.q, R.up.lo.q, g2, hp, hu, ?_⟩
  rw [DP.sum _ (by show mu ≠ 0; grind)]
  obtain ⟨⟨v0, v1⟩, q0, q1⟩ := h.VT (p := R.rt1.lo.q) (u := R.up.lo.q) hn hS m0 hQ
  have i0 : 0 ≤ 1 / mu * (1 / mu) := sq_nn _
  have aL := h.A_le g1.toInV pp
  refine sum_le ?_ v0 v1 (Rat.mul_nonneg q0 i0) q1
  have e1 : (dP R x y z c s nu mu R.rt1.lo.q R.up.lo.q).A = (dP R x y z c s nu mu R.rt1.lo.q 0).A := rfl
  have e2 : (dP R x y z c s nu mu R.rt1.lo.q R.up.lo.q).L = (dP R x y z c s nu mu R.rt1.lo.q 0).L := rfl
  have e3 : (dP R x y z c s nu mu R.rt1.lo.q R.up.lo.q).u = R.up.lo.q := rfl
  rw [e1, e2, e3]
  have f1 : (dP R x y z c s nu mu R.rt1.lo.q 0).l2 = (dP R x y z c s nu mu R.rt1.lo.q 0).left - (dP R x y z c s nu mu R.rt1.lo.q 0).A * (dP R x y z c s nu mu R.rt1.lo.q 0).A := rfl
  have f2 : (dP R x y z c s nu mu R.rt1.lo.q 0).left = 1 - (dP R x y z c s nu mu R.rt1.lo.q 0).L * (dP R x y z c s nu mu R.rt1.lo.q 0).L := rfl
  rcases u0.lo with k | ⟨k, _⟩
  · rw [f1, f2] at k; grind
  · rw [k]; grind
/-- the root of it is 1 at most, below -/
theorem AB.low (h : AB X Y Z sin cos A R n x y z c s) : R.nn2.lo.q ≤ 1 := by
  have T := h.T
  have hn : Mem R.nn R.nn.hi.q := ⟨T.n1, Rat.le_refl⟩
  have hS := h.nn.2
  have g0 := (h.inV (mu := 0) (p := 0) (u := 0) hn hS).1
  have hm : Mem R.m R.m.hi.q := ⟨T.m1, Rat.le_refl⟩
  have hQ : (dP R x y z c s R.nn.hi.q R.m.hi.q 0 0).Q ≤ R.m.hi.q * R.m.hi.q := (T.m _ g0).2
  obtain ⟨p, u, g, hp, hu, hs⟩ := h.short hn hS hm hQ
  have k := (T.s _ g hp hu).1
  have s0 := T.s0
  refine sq_le' (Rat.le_of_lt s0) (by grind) ?_
  refine Rat.le_trans k ?_
  have a : (dP R x y z c s R.nn.hi.q R.m.hi.q p u).a = 1 := rfl
  unfold DP.sg DP.ez
  rw [a, Rat.one_mul, Rat.one_mul]
  split
  · grind
  · have := sq_nn (dP R x y z c s R.nn.hi.q R.m.hi.q p u).hz; grind
theorem sum_ge {L A u V T e : Rat} (h : 1 ≤ L * L + A * A + u * u) (v0 : 1 ≤ V * (1 + e)) (t0 : 1 ≤ T * (1 + e)) (he : 0 < e) : 1 ≤ (L * L * T + A * A * (V * T) + u * u * V) * ((1 + e) * (1 + e)) := by
  have a1 := Rat.mul_nonneg (sq_nn L) (show 0 ≤ T * (1 + e) - 1 by grind)
  have a2 := Rat.mul_nonneg (Rat.mul_nonneg (sq_nn L) (show 0 ≤ T * (1 + e) by grind)) (Rat.le_of_lt he)
  have b0 : 1 ≤ V * (1 + e) * (T * (1 + e)) := by
    have := Rat.mul_nonneg (show 0 ≤ V * (1 + e) - 1 by grind) (show 0 ≤ T * (1 + e) by grind)
    grind
  have b1 := Rat.mul_nonneg (sq_nn A) (show 0 ≤ V * (1 + e) * (T * (1 + e)) - 1 by grind)
  have c1 := Rat.mul_nonneg (sq_nn u) (show 0 ≤ V * (1 + e) - 1 by grind)
  have c2 := Rat.mul_nonneg (Rat.mul_nonneg (sq_nn u) (show 0 ≤ V * (1 + e) by grind)) (Rat.le_of_lt he)
  grind
/-- above the horizon -/
theorem hz_nn {k p q u v Q i l : Rat} (hk : k = 1 / 2 * (1 + v)) (v0 : 0 ≤ v) (v1 : v ≤ 1) (p0 : 0 ≤ p) (hp : l ≤ p * p) (hq : q * q ≤ l) (u0 : 0 ≤ u) (hu : l - ((1 - k) * p + k * q) * ((1 - k) * p + k * q) ≤ u * u)
    (hV : Q + v * v ≤ 1) (q0 : 0 ≤ Q) (i0 : 0 ≤ i) (hT : Q * (i * i) ≤ 1) : 0 ≤ ((1 - k) * p + k * q) * (Q * i) + u * v := by
  have uv := Rat.mul_nonneg u0 v0
  have qi := Rat.mul_nonneg q0 i0
  rcases (Rat.le_total : 0 ≤ (1 - k) * p + k * q ∨ (1 - k) * p + k * q ≤ 0) with c | c
  · have := Rat.mul_nonneg c qi; grind
  · have kp := Rat.mul_nonneg (show 0 ≤ 1 - k by grind) p0
    have q1 : q ≤ 0 := by
      apply Rat.not_lt.1
      intro g
      have := Rat.mul_pos (show 0 < k by grind) g
      grind
    have pq : -q ≤ p := sq_le' (by grind) p0 (by grind)
    have kq := Rat.mul_nonneg (show 0 ≤ 1 - k by grind) (show 0 ≤ p + q by grind)
    generalize hA : (1 - k) * p + k * q = A at *
    have a1 : -A ≤ v * -q := by rw [← hA]; subst hk; grind
    have a2 : A * A ≤ v * v * l := by
      have s1 := sq_bd (x := -A) (m := v * -q) (by have := Rat.mul_nonneg v0 (show 0 ≤ -q by grind); grind) a1
      have s2 := Rat.mul_nonneg (sq_nn v) (show 0 ≤ l - q * q by grind)
      grind
    have key : -A * (Q * i) ≤ u * v := by
      refine sq_le' (Rat.mul_nonneg (by grind) qi) uv ?_
      have s1 := Rat.mul_nonneg (Rat.mul_nonneg (sq_nn A) q0) (show 0 ≤ 1 - Q * (i * i) by grind)
      have s2 := Rat.mul_nonneg (sq_nn v) (show 0 ≤ u * u - (l - A * A) by grind)
      have s3 := Rat.mul_nonneg (sq_nn A) (show 0 ≤ 1 - (Q + v * v) by grind)
      grind
    grind
/-- a direction's point whose lengths are next to 1 -/
theorem AB.fine (h : AB X Y Z sin cos A R n x y z c s) {e : Rat} (he : 0 < e) : ∃ nu mu, Mem R.nn nu ∧ sS x y z ≤ nu * nu ∧ nu * nu ≤ sS x y z * (1 + e) ∧ Mem R.m mu ∧ 0 < nu ∧ 0 < mu ∧
    (dP R x y z c s nu mu 0 0).Q ≤ mu * mu ∧ mu * mu ≤ (dP R x y z c s nu mu 0 0).Q * (1 + e) := by
  have T := h.T
  obtain ⟨nu, a1, a2, a3, a4⟩ := near_root T.n0 T.n1 h.nn.1 h.nn.2 he
  have hn : Mem R.nn nu := ⟨a1, a2⟩
  obtain ⟨g0, n0⟩ := h.inV (mu := 0) (p := 0) (u := 0) hn a3
  have mQ := T.m _ g0
  obtain ⟨mu, b1, b2, b3, b4⟩ := near_root T.m0 T.m1 mQ.1 mQ.2 he
  exact ⟨nu, mu, hn, a3, a4, ⟨b1, b2⟩, n0, by have := T.m0; grind, b3, b4⟩
theorem AB.high (h : AB X Y Z sin cos A R n x y z c s) : 1 ≤ R.nn2.hi.q := by
  have T := h.T
  refine lim fun e he e1 => ?_
  obtain ⟨nu, mu, hn, hS, hS2, hm, n0, m0, hQ, hQ2⟩ := h.fine he
  have g0 := (h.inT (p := 0) (u := 0) hn hS hm hQ).1
  have t0 := T.p _ g0
  have hp : Mem R.rt1 R.rt1.hi.q := ⟨t0.rt, Rat.le_refl⟩
  have g1 := (h.inT (p := R.rt1.hi.q) (u := 0) hn hS hm hQ).1
  have u0 := T.u _ g1 hp
  have hu : Mem R.up R.up.hi.q := ⟨u0.rt, Rat.le_refl⟩
  have g2 := (h.inT (p := R.rt1.hi.q) (u := R.up.hi.q) hn hS hm hQ).1
  obtain ⟨⟨v0, v1⟩, q0, q1⟩ := h.VT (p := R.rt1.hi.q) (u := R.up.hi.q) hn hS m0 hQ
  have l0 := (h.rs nu mu R.rt1.hi.q R.up.hi.q).1
  have i0 : 0 < 1 / mu := by rw [Rat.div_def, Rat.one_mul]; exact Rat.inv_pos.2 m0
  have z1 := g2.vz
  have ehz : (dP R x y z c s nu mu R.rt1.hi.q R.up.hi.q).hz = (dP R x y z c s nu mu R.rt1.hi.q R.up.hi.q).A * ((dP R x y z c s nu mu R.rt1.hi.q R.up.hi.q).Q * (1 / mu)) + R.up.hi.q * (dP R x y z c s nu mu R.rt1.hi.q R.up.hi.q).vz := by
    have e1 : (dP R x y z c s nu mu R.rt1.hi.q R.up.hi.q).tx = -(dP R x y z c s nu mu R.rt1.hi.q R.up.hi.q).vy * (1 / mu) := by unfold DP.tx; rw [Rat.div_def, Rat.div_def, Rat.one_mul]; rfl
    have e2 : (dP R x y z c s nu mu R.rt1.hi.q R.up.hi.q).ty = (dP R x y z c s nu mu R.rt1.hi.q R.up.hi.q).vx * (1 / mu) := by unfold DP.ty; rw [Rat.div_def, Rat.div_def, Rat.one_mul]; rfl
    have e3 : (dP R x y z c s nu mu R.rt1.hi.q R.up.hi.q).u = R.up.hi.q := rfl
    unfold DP.hz DP.bz DP.Q
    rw [e1, e2, e3]
    grind
  have zn : 0 ≤ (dP R x y z c s nu mu R.rt1.hi.q R.up.hi.q).hz := by
    rw [ehz]
    exact hz_nn (k := (dP R x y z c s nu mu R.rt1.hi.q R.up.hi.q).k) (p := R.rt1.hi.q) (q := R.r.lo.q * s) (l := (dP R x y z c s nu mu R.rt1.hi.q R.up.hi.q).left) rfl z1.1 z1.2 (by have := t0.nn; have := t0.rt; grind) t0.hi l0 (by have := u0.nn; have := u0.rt; grind) u0.hi v1 q0 (Rat.le_of_lt i0) q1
  have k := (T.s _ g2 hp hu).2
  have ea : (dP R x y z c s nu mu R.rt1.hi.q R.up.hi.q).a = 1 := rfl
  unfold DP.sg DP.ez at k
  rw [ea, Rat.one_mul, Rat.one_mul, if_pos zn, DP.sum _ (by show mu ≠ 0; grind)] at k
  have V1 : 1 ≤ ((dP R x y z c s nu mu R.rt1.hi.q R.up.hi.q).Q + (dP R x y z c s nu mu R.rt1.hi.q R.up.hi.q).vz * (dP R x y z c s nu mu R.rt1.hi.q R.up.hi.q).vz) * (1 + e) := by
    rw [DP.V2]
    have := part_ge n0 hS2
    have e1 : (dP R x y z c s nu mu R.rt1.hi.q R.up.hi.q).S = sS x y z := rfl
    have e2 : (dP R x y z c s nu mu R.rt1.hi.q R.up.hi.q).n = nu := rfl
    rw [e1, e2]
    grind
  have T1 := part_ge m0 hQ2
  have su : 1 ≤ (dP R x y z c s nu mu R.rt1.hi.q R.up.hi.q).L * (dP R x y z c s nu mu R.rt1.hi.q R.up.hi.q).L + (dP R x y z c s nu mu R.rt1.hi.q R.up.hi.q).A * (dP R x y z c s nu mu R.rt1.hi.q R.up.hi.q).A + R.up.hi.q * R.up.hi.q := by
    have a := u0.hi
    have f1 : (dP R x y z c s nu mu R.rt1.hi.q 0).l2 = 1 - (dP R x y z c s nu mu R.rt1.hi.q R.up.hi.q).L * (dP R x y z c s nu mu R.rt1.hi.q R.up.hi.q).L - (dP R x y z c s nu mu R.rt1.hi.q R.up.hi.q).A * (dP R x y z c s nu mu R.rt1.hi.q R.up.hi.q).A := rfl
    rw [f1] at a
    grind
  have fin := sum_ge su V1 T1 he
  have s0 := T.s0; have s1 := T.s1
  have eu : (dP R x y z c s nu mu R.rt1.hi.q R.up.hi.q).u = R.up.hi.q := rfl
  have em : (dP R x y z c s nu mu R.rt1.hi.q R.up.hi.q).m = mu := rfl
  have eq : (dP R x y z c s nu mu R.rt1.hi.q R.up.hi.q).Q = (dP R x y z c s nu mu 0 0).Q := rfl
  rw [eu, em, eq] at k
  rw [eq] at fin
  generalize (dP R x y z c s nu mu R.rt1.hi.q R.up.hi.q).L * (dP R x y z c s nu mu R.rt1.hi.q R.up.hi.q).L * ((dP R x y z c s nu mu 0 0).Q * (1 / mu * (1 / mu))) + (dP R x y z c s nu mu R.rt1.hi.q R.up.hi.q).A * (dP R x y z c s nu mu R.rt1.hi.q R.up.hi.q).A * (((dP R x y z c s nu mu 0 0).Q + (dP R x y z c s nu mu R.rt1.hi.q R.up.hi.q).vz * (dP R x y z c s nu mu R.rt1.hi.q R.up.hi.q).vz) * ((dP R x y z c s nu mu 0 0).Q * (1 / mu * (1 / mu)))) + R.up.hi.q * R.up.hi.q * ((dP R x y z c s nu mu 0 0).Q + (dP R x y z c s nu mu R.rt1.hi.q R.up.hi.q).vz * (dP R x y z c s nu mu R.rt1.hi.q R.up.hi.q).vz) = G at k fin
  have N0 : 0 ≤ R.nn2.hi.q := by grind
  have w : 1 ≤ R.nn2.hi.q * (1 + e) := by
    refine sq_le' (by grind) (Rat.mul_nonneg N0 (by grind)) ?_
    have := Rat.mul_nonneg (show 0 ≤ R.nn2.hi.q * R.nn2.hi.q - G by grind) (sq_nn (1 + e))
    grind
  rcases (Rat.le_total : 1 ≤ R.nn2.hi.q ∨ R.nn2.hi.q ≤ 1) with c1 | c1
  · grind
  · have := Rat.mul_nonneg (show 0 ≤ 1 - R.nn2.hi.q by grind) (Rat.le_of_lt he); grind
end
end Bu
namespace Bu
set_option linter.all false
open Rx Go

section
variable {X Y Z sin cos A : I} {R : DR} {n : V3} {x y z c s : Rat}
theorem abs1 {a b v : Rat} (h : a * a + b * b + v * v ≤ 1) : (-1 ≤ a ∧ a ≤ 1) ∧ -1 ≤ b ∧ b ≤ 1 := by
  have := sq_nn v
  exact abs_of_sq (by grind)
theorem AB.along (h : AB X Y Z sin cos A R n x y z c s) {e : Rat} (he : 0 < e) : ∃ hx hy, Mem n.x hx ∧ Mem n.y hy ∧ ∀ m2, 0 < m2 → x * x + y * y ≤ m2 * m2 → m2 * m2 ≤ (x * x + y * y) * (1 + e) →
    ∃ g, (hy * x - hx * y) / m2 = R.r.lo.q * c * g ∧ 0 ≤ g ∧ g ≤ 1 ∧ 1 ≤ g * (1 + e) := by
  have T := h.T
  obtain ⟨nu, mu, hn, hS, hS2, hm, n0, m0, hQ, hQ2⟩ := h.fine he
  obtain ⟨p, u, g2, hp, hu, hs⟩ := h.short hn hS hm hQ
  have w1 : Mem R.nn2 1 := ⟨h.low, h.high⟩
  obtain ⟨b1, b2⟩ := abs1 hs
  have ea : (dP R x y z c s nu mu p u).a = 1 := rfl
  have i1 : (1 : Rat) / 1 = 1 := by decide +kernel
  have x1 := T.x _ g2 hp hu 1 w1 (by rw [ea, i1]; grind) (by rw [ea, i1]; grind)
  have y1 := T.y _ g2 hp hu 1 w1 (by rw [ea, i1]; grind) (by rw [ea, i1]; grind)
  rw [ea, i1, Rat.one_mul, Rat.one_mul] at x1 y1
  refine ⟨_, _, x1, y1, fun m2 k0 k1 k2 => ?_⟩
  have j0 : 0 < 1 / m2 := by rw [Rat.div_def, Rat.one_mul]; exact Rat.inv_pos.2 k0
  have i0 : 0 < 1 / mu := by rw [Rat.div_def, Rat.one_mul]; exact Rat.inv_pos.2 m0
  have c0 : 0 < 1 / nu := by rw [Rat.div_def, Rat.one_mul]; exact Rat.inv_pos.2 n0
  have P0 : 0 ≤ x * x + y * y := by have := sq_nn x; have := sq_nn y; grind
  have eD : ((dP R x y z c s nu mu p u).hy * x - (dP R x y z c s nu mu p u).hx * y) / m2 = R.r.lo.q * c * (1 / nu * (1 / mu) * (x * x + y * y) * (1 / m2)) := by
    have e1 : (dP R x y z c s nu mu p u).tx = -(dP R x y z c s nu mu p u).vy * (1 / mu) := by unfold DP.tx; rw [Rat.div_def, Rat.div_def, Rat.one_mul]; rfl
    have e2 : (dP R x y z c s nu mu p u).ty = (dP R x y z c s nu mu p u).vx * (1 / mu) := by unfold DP.ty; rw [Rat.div_def, Rat.div_def, Rat.one_mul]; rfl
    have e3 : (dP R x y z c s nu mu p u).vx = 1 / nu * x := by unfold DP.vx; rw [ea, Rat.one_mul]; rfl
    have e4 : (dP R x y z c s nu mu p u).vy = 1 / nu * y := by unfold DP.vy; rw [ea, Rat.one_mul]; rfl
    have e5 : (dP R x y z c s nu mu p u).L = R.r.lo.q * c := rfl
    have e6 : ∀ t : Rat, t / m2 = t * (1 / m2) := fun t => by rw [Rat.div_def, Rat.div_def, Rat.one_mul]
    rw [e6]
    unfold DP.hx DP.hy DP.bx DP.bY
    rw [e1, e2, e3, e4, e5]
    generalize 1 / nu = a; generalize 1 / mu = b; generalize 1 / m2 = d
    generalize (dP R x y z c s nu mu p u).A = q; generalize (dP R x y z c s nu mu p u).vz = v; generalize (dP R x y z c s nu mu p u).u = w
    grind
  have eQ : (dP R x y z c s nu mu 0 0).Q = 1 / nu * (1 / nu) * (x * x + y * y) := by
    have e3 : (dP R x y z c s nu mu 0 0).vx = 1 / nu * x := by unfold DP.vx; rw [show (dP R x y z c s nu mu 0 0).a = 1 from rfl, Rat.one_mul]; rfl
    have e4 : (dP R x y z c s nu mu 0 0).vy = 1 / nu * y := by unfold DP.vy; rw [show (dP R x y z c s nu mu 0 0).a = 1 from rfl, Rat.one_mul]; rfl
    unfold DP.Q
    rw [e3, e4]; grind
  rw [eQ] at hQ hQ2
  have q1 := part_le m0 hQ
  have q2 := part_ge m0 hQ2
  have r1 := part_le k0 k1
  have r2 := part_ge k0 k2
  refine ⟨_, eD, ?_, ?_, ?_⟩
  · exact Rat.mul_nonneg (Rat.mul_nonneg (Rat.mul_nonneg (Rat.le_of_lt c0) (Rat.le_of_lt i0)) P0) (Rat.le_of_lt j0)
  · generalize 1 / nu = a at *; generalize 1 / mu = b at *; generalize 1 / m2 = d at *
    generalize x * x + y * y = P at *
    have g0 : 0 ≤ a * b * P * d := Rat.mul_nonneg (Rat.mul_nonneg (Rat.mul_nonneg (Rat.le_of_lt c0) (Rat.le_of_lt i0)) P0) (Rat.le_of_lt j0)
    refine sq_le' g0 (by grind) ?_
    have t0 : 0 ≤ P * (d * d) := Rat.mul_nonneg P0 (sq_nn d)
    have := Rat.mul_nonneg (show 0 ≤ 1 - a * a * P * (b * b) by grind) t0
    grind
  · generalize 1 / nu = a at *; generalize 1 / mu = b at *; generalize 1 / m2 = d at *
    generalize x * x + y * y = P at *
    have g0 : 0 ≤ a * b * P * d := Rat.mul_nonneg (Rat.mul_nonneg (Rat.mul_nonneg (Rat.le_of_lt c0) (Rat.le_of_lt i0)) P0) (Rat.le_of_lt j0)
    refine sq_le' (by grind) (Rat.mul_nonneg g0 (by grind)) ?_
    have := Rat.mul_nonneg (show 0 ≤ a * a * P * (b * b) * (1 + e) - 1 by grind) (show 0 ≤ P * (d * d) * (1 + e) by grind)
    grind
/-- two intervals: of the part along, by every root, and of what it is -/
theorem along_meets {al t : I} {L : Rat} (hL : -1 ≤ L ∧ L ≤ 1) (ht : Mem t L) (ha : ∀ e : Rat, 0 < e → e < 1 → ∃ g, Mem al (L * g) ∧ 0 ≤ g ∧ g ≤ 1 ∧ 1 ≤ g * (1 + e)) : meetsB al t = true := by
  have t1 := ht.lo; have t2 := ht.hi
  have a1 : al.lo.q ≤ L := lim fun e he e1 => by
    obtain ⟨g, m, g0, g1, g2⟩ := ha e he e1
    have := m.lo
    rcases (Rat.le_total : 0 ≤ L ∨ L ≤ 0) with k | k
    · have := Rat.mul_nonneg k (show 0 ≤ 1 - g by grind); grind
    · have a := Rat.mul_nonneg (show 0 ≤ -L by grind) (show 0 ≤ g * (1 + e) - 1 by grind)
      have b := Rat.mul_nonneg (Rat.mul_nonneg (show 0 ≤ 1 + L by grind) g0) (Rat.le_of_lt he)
      have d := Rat.mul_nonneg (show 0 ≤ 1 - g by grind) (Rat.le_of_lt he)
      grind
  have a2 : L ≤ al.hi.q := lim fun e he e1 => by
    obtain ⟨g, m, g0, g1, g2⟩ := ha e he e1
    have := m.hi
    rcases (Rat.le_total : 0 ≤ L ∨ L ≤ 0) with k | k
    · have a := Rat.mul_nonneg k (show 0 ≤ g * (1 + e) - 1 by grind)
      have b := Rat.mul_nonneg (Rat.mul_nonneg (show 0 ≤ 1 - L by grind) g0) (Rat.le_of_lt he)
      have d := Rat.mul_nonneg (show 0 ≤ 1 - g by grind) (Rat.le_of_lt he)
      grind
    · have := Rat.mul_nonneg (show 0 ≤ -L by grind) (show 0 ≤ 1 - g by grind); grind
  unfold meetsB
  rw [Bool.and_eq_true, decide_eq_true_iff, decide_eq_true_iff]
  exact ⟨q_le.1 (by grind), q_le.1 (by grind)⟩
end
end Bu
