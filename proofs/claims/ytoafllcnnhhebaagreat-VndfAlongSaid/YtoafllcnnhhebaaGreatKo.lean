/- VndfAlong, plain: what is drawn with alpha 1 is of length 1, and its part along the surface. -/
import Derived.Test.YtoafllcnnhhebaaGreatKn
namespace Bu
set_option linter.all false
open Rx Go

structure AB (X Y Z sin cos A : I) (R : DR) (n : V3) (x y z c s : Rat) : Prop where
  T : DrT X Y Z (pt one64) sin cos A R n
  mx : Mem X x
  my : Mem Y y
  mz : Mem Z z
  z0 : 0 < z
  mc : Mem cos c
  ms : Mem sin s
  cs : s * s + c * c ≤ 1
  A1 : A.lo.q ≤ 1
  rA : rt A = true
def dP (R : DR) (x y z c s n m p u : Rat) : DP := ⟨1, x, y, z, n, m, R.r.lo.q, c, s, p, u⟩
section
variable {X Y Z sin cos A : I} {R : DR} {n : V3} {x y z c s : Rat}
theorem one_mem : Mem (pt one64) 1 := ⟨by show one64.q ≤ 1; rw [one_q]; exact Rat.le_refl, by show 1 ≤ one64.q; rw [one_q]; exact Rat.le_refl⟩
def sS (x y z : Rat) : Rat := 1 * x * (1 * x) + 1 * y * (1 * y) + z * z
theorem AB.nn (h : AB X Y Z sin cos A R n x y z c s) : R.nn.lo.q * R.nn.lo.q ≤ sS x y z ∧ sS x y z ≤ R.nn.hi.q * R.nn.hi.q := h.T.nn (dP R x y z c s 0 0 0 0) ⟨one_mem, h.mx, h.my, h.mz⟩
theorem AB.rm (h : AB X Y Z sin cos A R n x y z c s) : Mem R.r R.r.lo.q ∧ 0 ≤ R.r.lo.q ∧ R.r.lo.q * R.r.lo.q ≤ 1 := by
  obtain ⟨a, b⟩ := h.T.r
  have l := rt_le h.rA
  have h1 := a.le; have h2 := b.ge; have h3 := h.A1
  exact ⟨⟨Rat.le_refl, sq_le' a.nn b.nn (by grind)⟩, a.nn, by grind⟩
theorem AB.inV (h : AB X Y Z sin cos A R n x y z c s) {nu mu p u : Rat} (hn : Mem R.nn nu) (hS : sS x y z ≤ nu * nu) : InV X Y Z (pt one64) R (dP R x y z c s nu mu p u) ∧ 0 < nu := by
  have n0 : 0 < nu := by have := h.T.n0; have := hn.lo; grind
  have s1 := sq_nn (1 * x); have s2 := sq_nn (1 * y); have s3 := sq_nn z
  unfold sS at hS
  exact ⟨⟨⟨one_mem, h.mx, h.my, h.mz⟩, hn, clip1 (x := 1 * x) (n := nu) n0 (by grind), clip1 (x := 1 * y) (n := nu) n0 (by grind), nn_mul (n := nu) n0 (Rat.le_of_lt h.z0), (clip1 (x := z) (n := nu) n0 (by grind)).2⟩, n0⟩
theorem AB.inT (h : AB X Y Z sin cos A R n x y z c s) {nu mu p u : Rat} (hn : Mem R.nn nu) (hS : sS x y z ≤ nu * nu) (hm : Mem R.m mu) (hQ : (dP R x y z c s nu mu p u).Q ≤ mu * mu) : InT X Y Z (pt one64) sin cos R (dP R x y z c s nu mu p u) ∧ 0 < mu := by
  have m0 : 0 < mu := by have := h.T.m0; have := hm.lo; grind
  have v := (h.inV (mu := mu) (p := p) (u := u) hn hS).1
  have s1 := sq_nn (dP R x y z c s nu mu p u).vx; have s2 := sq_nn (dP R x y z c s nu mu p u).vy
  unfold DP.Q at hQ
  exact ⟨⟨v, hm, clip2 (x := -(dP R x y z c s nu mu p u).vy) (n := mu) m0 (by grind), clip2 (x := (dP R x y z c s nu mu p u).vx) (n := mu) m0 (by grind), h.rm.1, h.mc, h.ms⟩, m0⟩
/-- the second draw's part is no more than what is left -/
theorem AB.rs (h : AB X Y Z sin cos A R n x y z c s) (nu mu p u : Rat) : R.r.lo.q * s * (R.r.lo.q * s) ≤ (dP R x y z c s nu mu p u).left ∧ (dP R x y z c s nu mu p u).left ≤ 1 := by
  obtain ⟨_, r0, r1⟩ := h.rm
  have cs := h.cs
  have e : (dP R x y z c s nu mu p u).left = 1 - R.r.lo.q * c * (R.r.lo.q * c) := rfl
  rw [e]
  have k := Rat.mul_nonneg (sq_nn R.r.lo.q) (show 0 ≤ 1 - (s * s + c * c) by grind)
  have l := sq_nn (R.r.lo.q * c)
  generalize R.r.lo.q = r at *
  constructor <;> grind
/-- convex -/
theorem conv_sq {k p q v : Rat} (k0 : 0 ≤ k) (k1 : k ≤ 1) (hp : p * p ≤ v) (hq : q * q ≤ v) : ((1 - k) * p + k * q) * ((1 - k) * p + k * q) ≤ v := by
  have a := Rat.mul_nonneg (show 0 ≤ 1 - k by grind) (show 0 ≤ v - p * p by grind)
  have b := Rat.mul_nonneg k0 (show 0 ≤ v - q * q by grind)
  have c := Rat.mul_nonneg (Rat.mul_nonneg k0 (show 0 ≤ 1 - k by grind)) (sq_nn (p - q))
  grind
theorem AB.k01 (h : AB X Y Z sin cos A R n x y z c s) {nu mu p u : Rat} (g : InV X Y Z (pt one64) R (dP R x y z c s nu mu p u)) : 0 ≤ (dP R x y z c s nu mu p u).k ∧ (dP R x y z c s nu mu p u).k ≤ 1 := by
  have a := g.vz.1; have b := g.vz.2
  unfold DP.k
  constructor <;> grind
theorem AB.A_le (h : AB X Y Z sin cos A R n x y z c s) {nu mu p u : Rat} (g : InV X Y Z (pt one64) R (dP R x y z c s nu mu p u)) (hp : p * p ≤ (dP R x y z c s nu mu p u).left) : (dP R x y z c s nu mu p u).A * (dP R x y z c s nu mu p u).A ≤ (dP R x y z c s nu mu p u).left := by
  obtain ⟨k0, k1⟩ := h.k01 g
  exact conv_sq k0 k1 hp (h.rs nu mu p u).1
/-- of length 1 at most -/
theorem sum_le {L A u V T : Rat} (h : L * L + A * A + u * u ≤ 1) (v0 : 0 ≤ V) (v1 : V ≤ 1) (t0 : 0 ≤ T) (t1 : T ≤ 1) : L * L * T + A * A * (V * T) + u * u * V ≤ 1 := by
  have a := Rat.mul_nonneg (sq_nn L) (show 0 ≤ 1 - T by grind)
  have b := Rat.mul_nonneg (sq_nn A) (show 0 ≤ 1 - V by grind)
  have c := Rat.mul_nonneg (Rat.mul_nonneg (sq_nn A) v0) (show 0 ≤ 1 - T by grind)
  have d := Rat.mul_nonneg (sq_nn u) (show 0 ≤ 1 - V by grind)
  grind
/-- both lengths -/
theorem AB.VT (h : AB X Y Z sin cos A R n x y z c s) {nu mu p u : Rat} (hn : Mem R.nn nu) (hS : sS x y z ≤ nu * nu) (m0 : 0 < mu) (hQ : (dP R x y z c s nu mu p u).Q ≤ mu * mu) :
    (0 ≤ (dP R x y z c s nu mu p u).Q + (dP R x y z c s nu mu p u).vz * (dP R x y z c s nu mu p u).vz ∧ (dP R x y z c s nu mu p u).Q + (dP R x y z c s nu mu p u).vz * (dP R x y z c s nu mu p u).vz ≤ 1) ∧
    0 ≤ (dP R x y z c s nu mu p u).Q ∧ (dP R x y z c s nu mu p u).Q * (1 / mu * (1 / mu)) ≤ 1 := by
  have n0 := (h.inV (mu := mu) (p := p) (u := u) hn hS).2
  have q0 : 0 ≤ (dP R x y z c s nu mu p u).Q := by have := sq_nn (dP R x y z c s nu mu p u).vx; have := sq_nn (dP R x y z c s nu mu p u).vy; unfold DP.Q; grind
  refine ⟨⟨by have := sq_nn (dP R x y z c s nu mu p u).vz; grind, ?_⟩, q0, part_le m0 hQ⟩
  rw [DP.V2]
  have := part_le n0 hS
  have e : (dP R x y z c s nu mu p u).S = sS x y z := rfl
  have e2 : (dP R x y z c s nu mu p u).n = nu := rfl
  rw [e, e2]
  grind
/-- what is drawn, by a point that is not too long -/
theorem AB.short (h : AB X Y Z sin cos A R n x y z c s) {nu mu : Rat} (hn : Mem R.nn nu) (hS : sS x y z ≤ nu * nu) (hm : Mem R.m mu) (hQ : (dP R x y z c s nu mu 0 0).Q ≤ mu * mu) :
    ∃ p u, InT X Y Z (pt one64) sin cos R (dP R x y z c s nu mu p u) ∧ Mem R.rt1 p ∧ Mem R.up u ∧
      (dP R x y z c s nu mu p u).hx * (dP R x y z c s nu mu p u).hx + (dP R x y z c s nu mu p u).hy * (dP R x y z c s nu mu p u).hy + (dP R x y z c s nu mu p u).hz * (dP R x y z c s nu mu p u).hz ≤ 1 := by
  have T := h.T
  have g0 := (h.inT (p := 0) (u := 0) hn hS hm hQ).1
  have t0 := T.p _ g0
  have l0 := (h.rs nu mu 0 0).1
  have l1 : 0 ≤ (dP R x y z c s nu mu 0 0).left := by have := sq_nn (R.r.lo.q * s); grind
  have pp : R.rt1.lo.q * R.rt1.lo.q ≤ (dP R x y z c s nu mu 0 0).left := by
    rcases t0.lo with k | ⟨k, _⟩
    · exact k
    · rw [k]; grind
  have hp : Mem R.rt1 R.rt1.lo.q := ⟨Rat.le_refl, t0.rt⟩
  have g1 := (h.inT (p := R.rt1.lo.q) (u := 0) hn hS hm hQ).1
  have u0 := T.u _ g1 hp
  have hu : Mem R.up R.up.lo.q := ⟨Rat.le_refl, u0.rt⟩
  obtain ⟨g2, m0⟩ := h.inT (p := R.rt1.lo.q) (u := R.up.lo.q) hn hS hm hQ
  refine ⟨R.rt1.lo.q, R.up.lo.q, g2, hp, hu, ?_⟩
  rw [DP.sum _ (by show mu ≠ 0; grind)]
  obtain ⟨⟨v0, v1⟩, q0, q1⟩ := h.VT (p := R.rt1.lo.q) (u := R.up.lo.q) hn hS m0 hQ
  have i0 : 0 ≤ 1 / mu * (1 / mu) := sq_nn _
  have aL := h.A_le g1.toInV pp
  refine sum_le ?_ v0 v1 (Rat.mul_nonneg q0 i0) q1
  have e1 : (dP R x y z c s nu mu R.rt1.lo.q R.up.lo.q).A = (dP R x y z c s nu mu R.rt1.lo.q 0).A := rfl
  have e2 : (dP R x y z c s nu mu R.rt1.lo.q R.up.lo.q).L = (dP R x y z c s nu mu R.rt1.lo.q 0).L := rfl
  have e3 : (dP R x y z c s nu mu R.rt1.lo.q R.up.lo.q).u = R.up.lo.q := rfl
  rw [e1, e2, e3]
  have f1 : (dP R x y z c s nu mu R.rt1.lo.q 0).l2 = (dP R x y z c s nu mu R.rt1.lo.q 0).left - (dP R x y z c s nu mu R.rt1.lo.q 0).A * (dP R x y z c s nu mu R.rt1.lo.q 0).A := rfl
  have f2 : (dP R x y z c s nu mu R.rt1.lo.q 0).left = 1 - (dP R x y z c s nu mu R.rt1.lo.q 0).L * (dP R x y z c s nu mu R.rt1.lo.q 0).L := rfl
  rcases u0.lo with k | ⟨k, _⟩
  · rw [f1, f2] at k; grind
  · rw [k]; grind
/-- the root of it is 1 at most, below -/
theorem AB.low (h : AB X Y Z sin cos A R n x y z c s) : R.nn2.lo.q ≤ 1 := by
  have T := h.T
  have hn : Mem R.nn R.nn.hi.q := ⟨T.n1, Rat.le_refl⟩
  have hS := h.nn.2
  have g0 := (h.inV (mu := 0) (p := 0) (u := 0) hn hS).1
  have hm : Mem R.m R.m.hi.q := ⟨T.m1, Rat.le_refl⟩
  have hQ : (dP R x y z c s R.nn.hi.q R.m.hi.q 0 0).Q ≤ R.m.hi.q * R.m.hi.q := (T.m _ g0).2
  obtain ⟨p, u, g, hp, hu, hs⟩ := h.short hn hS hm hQ
  have k := (T.s _ g hp hu).1
  have s0 := T.s0
  refine sq_le' (Rat.le_of_lt s0) (by grind) ?_
  refine Rat.le_trans k ?_
  have a : (dP R x y z c s R.nn.hi.q R.m.hi.q p u).a = 1 := rfl
  unfold DP.sg DP.ez
  rw [a, Rat.one_mul, Rat.one_mul]
  split
  · grind
  · have := sq_nn (dP R x y z c s R.nn.hi.q R.m.hi.q p u).hz; grind
theorem sum_ge {L A u V T e : Rat} (h : 1 ≤ L * L + A * A + u * u) (v0 : 1 ≤ V * (1 + e)) (t0 : 1 ≤ T * (1 + e)) (he : 0 < e) : 1 ≤ (L * L * T + A * A * (V * T) + u * u * V) * ((1 + e) * (1 + e)) := by
  have a1 := Rat.mul_nonneg (sq_nn L) (show 0 ≤ T * (1 + e) - 1 by grind)
  have a2 := Rat.mul_nonneg (Rat.mul_nonneg (sq_nn L) (show 0 ≤ T * (1 + e) by grind)) (Rat.le_of_lt he)
  have b0 : 1 ≤ V * (1 + e) * (T * (1 + e)) := by
    have := Rat.mul_nonneg (show 0 ≤ V * (1 + e) - 1 by grind) (show 0 ≤ T * (1 + e) by grind)
    grind
  have b1 := Rat.mul_nonneg (sq_nn A) (show 0 ≤ V * (1 + e) * (T * (1 + e)) - 1 by grind)
  have c1 := Rat.mul_nonneg (sq_nn u) (show 0 ≤ V * (1 + e) - 1 by grind)
  have c2 := Rat.mul_nonneg (Rat.mul_nonneg (sq_nn u) (show 0 ≤ V * (1 + e) by grind)) (Rat.le_of_lt he)
  grind
/-- above the horizon -/
theorem hz_nn {k p q u v Q i l : Rat} (hk : k = 1 / 2 * (1 + v)) (v0 : 0 ≤ v) (v1 : v ≤ 1) (p0 : 0 ≤ p) (hp : l ≤ p * p) (hq : q * q ≤ l) (u0 : 0 ≤ u) (hu : l - ((1 - k) * p + k * q) * ((1 - k) * p + k * q) ≤ u * u)
    (hV : Q + v * v ≤ 1) (q0 : 0 ≤ Q) (i0 : 0 ≤ i) (hT : Q * (i * i) ≤ 1) : 0 ≤ ((1 - k) * p + k * q) * (Q * i) + u * v := by
  have uv := Rat.mul_nonneg u0 v0
  have qi := Rat.mul_nonneg q0 i0
  rcases (Rat.le_total : 0 ≤ (1 - k) * p + k * q ∨ (1 - k) * p + k * q ≤ 0) with c | c
  · have := Rat.mul_nonneg c qi; grind
  · have kp := Rat.mul_nonneg (show 0 ≤ 1 - k by grind) p0
    have q1 : q ≤ 0 := by
      apply Rat.not_lt.1
      intro g
      have := Rat.mul_pos (show 0 < k by grind) g
      grind
    have pq : -q ≤ p := sq_le' (by grind) p0 (by grind)
    have kq := Rat.mul_nonneg (show 0 ≤ 1 - k by grind) (show 0 ≤ p + q by grind)
    generalize hA : (1 - k) * p + k * q = A at *
    have a1 : -A ≤ v * -q := by rw [← hA]; subst hk; grind
    have a2 : A * A ≤ v * v * l := by
      have s1 := sq_bd (x := -A) (m := v * -q) (by have := Rat.mul_nonneg v0 (show 0 ≤ -q by grind); grind) a1
      have s2 := Rat.mul_nonneg (sq_nn v) (show 0 ≤ l - q * q by grind)
      grind
    have key : -A * (Q * i) ≤ u * v := by
      refine sq_le' (Rat.mul_nonneg (by grind) qi) uv ?_
      have s1 := Rat.mul_nonneg (Rat.mul_nonneg (sq_nn A) q0) (show 0 ≤ 1 - Q * (i * i) by grind)
      have s2 := Rat.mul_nonneg (sq_nn v) (show 0 ≤ u * u - (l - A * A) by grind)
      have s3 := Rat.mul_nonneg (sq_nn A) (show 0 ≤ 1 - (Q + v * v) by grind)
      grind
    grind
/-- a direction's point whose lengths are next to 1 -/
theorem AB.fine (h : AB X Y Z sin cos A R n x y z c s) {e : Rat} (he : 0 < e) : ∃ nu mu, Mem R.nn nu ∧ sS x y z ≤ nu * nu ∧ nu * nu ≤ sS x y z * (1 + e) ∧ Mem R.m mu ∧ 0 < nu ∧ 0 < mu ∧
    (dP R x y z c s nu mu 0 0).Q ≤ mu * mu ∧ mu * mu ≤ (dP R x y z c s nu mu 0 0).Q * (1 + e) := by
  have T := h.T
  obtain ⟨nu, a1, a2, a3, a4⟩ := near_root T.n0 T.n1 h.nn.1 h.nn.2 he
  have hn : Mem R.nn nu := ⟨a1, a2⟩
  obtain ⟨g0, n0⟩ := h.inV (mu := 0) (p := 0) (u := 0) hn a3
  have mQ := T.m _ g0
  obtain ⟨mu, b1, b2, b3, b4⟩ := near_root T.m0 T.m1 mQ.1 mQ.2 he
  exact ⟨nu, mu, hn, a3, a4, ⟨b1, b2⟩, n0, by have := T.m0; grind, b3, b4⟩
theorem AB.high (h : AB X Y Z sin cos A R n x y z c s) : 1 ≤ R.nn2.hi.q := by
  have T := h.T
  refine lim fun e he e1 => ?_
  obtain ⟨nu, mu, hn, hS, hS2, hm, n0, m0, hQ, hQ2⟩ := h.fine he
  have g0 := (h.inT (p := 0) (u := 0) hn hS hm hQ).1
  have t0 := T.p _ g0
  have hp : Mem R.rt1 R.rt1.hi.q := ⟨t0.rt, Rat.le_refl⟩
  have g1 := (h.inT (p := R.rt1.hi.q) (u := 0) hn hS hm hQ).1
  have u0 := T.u _ g1 hp
  have hu : Mem R.up R.up.hi.q := ⟨u0.rt, Rat.le_refl⟩
  have g2 := (h.inT (p := R.rt1.hi.q) (u := R.up.hi.q) hn hS hm hQ).1
  obtain ⟨⟨v0, v1⟩, q0, q1⟩ := h.VT (p := R.rt1.hi.q) (u := R.up.hi.q) hn hS m0 hQ
  have l0 := (h.rs nu mu R.rt1.hi.q R.up.hi.q).1
  have i0 : 0 < 1 / mu := by rw [Rat.div_def, Rat.one_mul]; exact Rat.inv_pos.2 m0
  have z1 := g2.vz
  have ehz : (dP R x y z c s nu mu R.rt1.hi.q R.up.hi.q).hz = (dP R x y z c s nu mu R.rt1.hi.q R.up.hi.q).A * ((dP R x y z c s nu mu R.rt1.hi.q R.up.hi.q).Q * (1 / mu)) + R.up.hi.q * (dP R x y z c s nu mu R.rt1.hi.q R.up.hi.q).vz := by
    have e1 : (dP R x y z c s nu mu R.rt1.hi.q R.up.hi.q).tx = -(dP R x y z c s nu mu R.rt1.hi.q R.up.hi.q).vy * (1 / mu) := by unfold DP.tx; rw [Rat.div_def, Rat.div_def, Rat.one_mul]; rfl
    have e2 : (dP R x y z c s nu mu R.rt1.hi.q R.up.hi.q).ty = (dP R x y z c s nu mu R.rt1.hi.q R.up.hi.q).vx * (1 / mu) := by unfold DP.ty; rw [Rat.div_def, Rat.div_def, Rat.one_mul]; rfl
    have e3 : (dP R x y z c s nu mu R.rt1.hi.q R.up.hi.q).u = R.up.hi.q := rfl
    unfold DP.hz DP.bz DP.Q
    rw [e1, e2, e3]
    grind
  have zn : 0 ≤ (dP R x y z c s nu mu R.rt1.hi.q R.up.hi.q).hz := by
    rw [ehz]
    exact hz_nn (k := (dP R x y z c s nu mu R.rt1.hi.q R.up.hi.q).k) (p := R.rt1.hi.q) (q := R.r.lo.q * s) (l := (dP R x y z c s nu mu R.rt1.hi.q R.up.hi.q).left) rfl z1.1 z1.2 (by have := t0.nn; have := t0.rt; grind) t0.hi l0 (by have := u0.nn; have := u0.rt; grind) u0.hi v1 q0 (Rat.le_of_lt i0) q1
  have k := (T.s _ g2 hp hu).2
  have ea : (dP R x y z c s nu mu R.rt1.hi.q R.up.hi.q).a = 1 := rfl
  unfold DP.sg DP.ez at k
  rw [ea, Rat.one_mul, Rat.one_mul, if_pos zn, DP.sum _ (by show mu ≠ 0; grind)] at k
  have V1 : 1 ≤ ((dP R x y z c s nu mu R.rt1.hi.q R.up.hi.q).Q + (dP R x y z c s nu mu R.rt1.hi.q R.up.hi.q).vz * (dP R x y z c s nu mu R.rt1.hi.q R.up.hi.q).vz) * (1 + e) := by
    rw [DP.V2]
    have := part_ge n0 hS2
    have e1 : (dP R x y z c s nu mu R.rt1.hi.q R.up.hi.q).S = sS x y z := rfl
    have e2 : (dP R x y z c s nu mu R.rt1.hi.q R.up.hi.q).n = nu := rfl
    rw [e1, e2]
    grind
  have T1 := part_ge m0 hQ2
  have su : 1 ≤ (dP R x y z c s nu mu R.rt1.hi.q R.up.hi.q).L * (dP R x y z c s nu mu R.rt1.hi.q R.up.hi.q).L + (dP R x y z c s nu mu R.rt1.hi.q R.up.hi.q).A * (dP R x y z c s nu mu R.rt1.hi.q R.up.hi.q).A + R.up.hi.q * R.up.hi.q := by
    have a := u0.hi
    have f1 : (dP R x y z c s nu mu R.rt1.hi.q 0).l2 = 1 - (dP R x y z c s nu mu R.rt1.hi.q R.up.hi.q).L * (dP R x y z c s nu mu R.rt1.hi.q R.up.hi.q).L - (dP R x y z c s nu mu R.rt1.hi.q R.up.hi.q).A * (dP R x y z c s nu mu R.rt1.hi.q R.up.hi.q).A := rfl
    rw [f1] at a
    grind
  have fin := sum_ge su V1 T1 he
  have s0 := T.s0; have s1 := T.s1
  have eu : (dP R x y z c s nu mu R.rt1.hi.q R.up.hi.q).u = R.up.hi.q := rfl
  have em : (dP R x y z c s nu mu R.rt1.hi.q R.up.hi.q).m = mu := rfl
  have eq : (dP R x y z c s nu mu R.rt1.hi.q R.up.hi.q).Q = (dP R x y z c s nu mu 0 0).Q := rfl
  rw [eu, em, eq] at k
  rw [eq] at fin
  generalize (dP R x y z c s nu mu R.rt1.hi.q R.up.hi.q).L * (dP R x y z c s nu mu R.rt1.hi.q R.up.hi.q).L * ((dP R x y z c s nu mu 0 0).Q * (1 / mu * (1 / mu))) + (dP R x y z c s nu mu R.rt1.hi.q R.up.hi.q).A * (dP R x y z c s nu mu R.rt1.hi.q R.up.hi.q).A * (((dP R x y z c s nu mu 0 0).Q + (dP R x y z c s nu mu R.rt1.hi.q R.up.hi.q).vz * (dP R x y z c s nu mu R.rt1.hi.q R.up.hi.q).vz) * ((dP R x y z c s nu mu 0 0).Q * (1 / mu * (1 / mu)))) + R.up.hi.q * R.up.hi.q * ((dP R x y z c s nu mu 0 0).Q + (dP R x y z c s nu mu R.rt1.hi.q R.up.hi.q).vz * (dP R x y z c s nu mu R.rt1.hi.q R.up.hi.q).vz) = G at k fin
  have N0 : 0 ≤ R.nn2.hi.q := by grind
  have w : 1 ≤ R.nn2.hi.q * (1 + e) := by
    refine sq_le' (by grind) (Rat.mul_nonneg N0 (by grind)) ?_
    have := Rat.mul_nonneg (show 0 ≤ R.nn2.hi.q * R.nn2.hi.q - G by grind) (sq_nn (1 + e))
    grind
  rcases (Rat.le_total : 1 ≤ R.nn2.hi.q ∨ R.nn2.hi.q ≤ 1) with c1 | c1
  · grind
  · have := Rat.mul_nonneg (show 0 ≤ 1 - R.nn2.hi.q by grind) (Rat.le_of_lt he); grind
end
end Bu
