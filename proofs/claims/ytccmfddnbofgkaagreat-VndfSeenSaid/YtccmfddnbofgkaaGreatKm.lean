/- vndf.Draw, plain: the points of its rows. -/
import Derived.Test.YtccmfddnbofgkaaGreatKl
namespace Bu
set_option linter.all false
open Rx Go

/-- a point of a draw: of alpha, of the direction, of lengths and roots -/
structure DP where
  a : Rat
  x : Rat
  y : Rat
  z : Rat
  n : Rat
  m : Rat
  r : Rat
  c : Rat
  s : Rat
  p : Rat
  u : Rat
def DP.vx (d : DP) : Rat := 1 / d.n * (d.a * d.x)
def DP.vy (d : DP) : Rat := 1 / d.n * (d.a * d.y)
def DP.vz (d : DP) : Rat := 1 / d.n * d.z
def DP.S (d : DP) : Rat := d.a * d.x * (d.a * d.x) + d.a * d.y * (d.a * d.y) + d.z * d.z
def DP.Q (d : DP) : Rat := d.vx * d.vx + d.vy * d.vy
def DP.tx (d : DP) : Rat := -d.vy / d.m
def DP.ty (d : DP) : Rat := d.vx / d.m
def DP.bx (d : DP) : Rat := d.vy * 0 - d.vz * d.ty
def DP.bY (d : DP) : Rat := d.vz * d.tx - d.vx * 0
def DP.bz (d : DP) : Rat := d.vx * d.ty - d.vy * d.tx
def DP.L (d : DP) : Rat := d.r * d.c
def DP.k (d : DP) : Rat := 1 / 2 * (1 + d.vz)
def DP.left (d : DP) : Rat := 1 - d.L * d.L
def DP.A (d : DP) : Rat := (1 - d.k) * d.p + d.k * (d.r * d.s)
def DP.l2 (d : DP) : Rat := d.left - d.A * d.A
def DP.hx (d : DP) : Rat := d.L * d.tx + d.A * d.bx + d.u * d.vx
def DP.hy (d : DP) : Rat := d.L * d.ty + d.A * d.bY + d.u * d.vy
def DP.hz (d : DP) : Rat := d.L * 0 + d.A * d.bz + d.u * d.vz
def DP.ez (d : DP) : Rat := if 0 ≤ d.hz then d.hz else 0
def DP.sg (d : DP) : Rat := d.a * d.hx * (d.a * d.hx) + d.a * d.hy * (d.a * d.hy) + d.ez * d.ez
/-- registers of a draw -/
structure DR where
  nn : I
  m : I
  r : I
  rt1 : I
  up : I
  nn2 : I
/-- the direction's part of a point -/
structure In0 (X Y Z al : I) (d : DP) : Prop where
  a : Mem al d.a
  x : Mem X d.x
  y : Mem Y d.y
  z : Mem Z d.z
structure InV (X Y Z al : I) (R : DR) (d : DP) : Prop extends In0 X Y Z al d where
  n : Mem R.nn d.n
  vx : -1 ≤ d.vx ∧ d.vx ≤ 1
  vy : -1 ≤ d.vy ∧ d.vy ≤ 1
  vz : 0 ≤ d.vz ∧ d.vz ≤ 1
structure InT (X Y Z al sin cos : I) (R : DR) (d : DP) : Prop extends InV X Y Z al R d where
  m : Mem R.m d.m
  tx : -1 ≤ d.tx ∧ d.tx ≤ 1
  ty : -1 ≤ d.ty ∧ d.ty ≤ 1
  r : Mem R.r d.r
  c : Mem cos d.c
  s : Mem sin d.s
/-- between roots: what is not below 0 -/
structure Rts (r : I) (v : Rat) : Prop where
  nn : 0 ≤ r.lo.q
  rt : r.lo.q ≤ r.hi.q
  lo : r.lo.q * r.lo.q ≤ v ∨ r.lo.q = 0 ∧ v ≤ 0
  hi : v ≤ r.hi.q * r.hi.q
theorem rts_of {i : Nat} {v : List I} {r : I} {x : Rat} (h : Fact (.sqrt i) v r) {y : Rat} (hx : Mem (gt v i) y) (hy : y = x ∧ 0 ≤ x ∨ y = 0 ∧ x ≤ 0) : Rts r x := by
  obtain ⟨a, b, c, d⟩ := p_sqrt h hx
  have e : r.lo.q ≤ r.hi.q := sq_le' a d (by grind)
  refine ⟨a, e, ?_, ?_⟩
  · rcases hy with ⟨rfl, h⟩ | ⟨rfl, h⟩
    · exact .inl b
    · refine .inr ⟨?_, h⟩
      have : r.lo.q * r.lo.q = 0 := by have := Rat.mul_nonneg a a; grind
      rcases Rat.mul_eq_zero.1 this with k | k <;> exact k
  · rcases hy with ⟨rfl, h⟩ | ⟨rfl, h⟩ <;> grind
/-- what a draw without an error tells -/
structure DrT (X Y Z al sin cos A : I) (R : DR) (n : V3) : Prop where
  nn : ∀ d, In0 X Y Z al d → R.nn.lo.q * R.nn.lo.q ≤ d.S ∧ d.S ≤ R.nn.hi.q * R.nn.hi.q
  n0 : 0 < R.nn.lo.q
  n1 : R.nn.lo.q ≤ R.nn.hi.q
  m : ∀ d, InV X Y Z al R d → R.m.lo.q * R.m.lo.q ≤ d.Q ∧ d.Q ≤ R.m.hi.q * R.m.hi.q
  m0 : 0 < R.m.lo.q
  m1 : R.m.lo.q ≤ R.m.hi.q
  r : SqD R.r.lo A.lo ∧ SqU R.r.hi A.hi
  p : ∀ d, InT X Y Z al sin cos R d → Rts R.rt1 d.left
  u : ∀ d, InT X Y Z al sin cos R d → Mem R.rt1 d.p → Rts R.up d.l2
  s : ∀ d, InT X Y Z al sin cos R d → Mem R.rt1 d.p → Mem R.up d.u → R.nn2.lo.q * R.nn2.lo.q ≤ d.sg ∧ d.sg ≤ R.nn2.hi.q * R.nn2.hi.q
  s0 : 0 < R.nn2.lo.q
  s1 : R.nn2.lo.q ≤ R.nn2.hi.q
  x : ∀ d, InT X Y Z al sin cos R d → Mem R.rt1 d.p → Mem R.up d.u → ∀ w, Mem R.nn2 w → -1 ≤ 1 / w * (d.a * d.hx) → 1 / w * (d.a * d.hx) ≤ 1 → Mem n.x (1 / w * (d.a * d.hx))
  y : ∀ d, InT X Y Z al sin cos R d → Mem R.rt1 d.p → Mem R.up d.u → ∀ w, Mem R.nn2 w → -1 ≤ 1 / w * (d.a * d.hy) → 1 / w * (d.a * d.hy) ≤ 1 → Mem n.y (1 / w * (d.a * d.hy))
  z : ∀ d, InT X Y Z al sin cos R d → Mem R.rt1 d.p → Mem R.up d.u → ∀ w, Mem R.nn2 w → 0 ≤ 1 / w * d.ez → 1 / w * d.ez ≤ 1 → Mem n.z (1 / w * d.ez)
theorem p_num' {x : F} {v : List I} {r : I} (h : Fact (.num x) v r) : Mem r x.q := p_num h rfl
theorem half_q : q2.q = 1 / 2 := by have := consts.2.2.2.2.2.1; grind
theorem root_pos {i j : Nat} {v w : List I} {r k : I} (h : Fact (.sqrt i) v r) (hd : hasB r F.zero = false) (hr : rt r = true) : 0 < r.lo.q := by
  rcases no_zero hr hd with n | n
  · exact n
  · have := h.2.1.nn; have := rt_le hr; grind
theorem clip1 {x n : Rat} (hn : 0 < n) (h : x * x ≤ n * n) : -1 ≤ 1 / n * x ∧ 1 / n * x ≤ 1 := by
  have e : 1 / n * n = 1 := Rat.div_mul_cancel (by grind)
  have i : 0 < 1 / n := by rw [Rat.div_def, Rat.one_mul]; exact Rat.inv_pos.2 hn
  have a : x ≤ n := by
    apply Rat.not_lt.1
    intro g
    have := Rat.mul_pos (show 0 < x - n by grind) (show 0 < x + n by grind)
    grind
  have b : -n ≤ x := by
    apply Rat.not_lt.1
    intro g
    have := Rat.mul_pos (show 0 < -n - x by grind) (show 0 < n - x by grind)
    grind
  have k1 := Rat.mul_nonneg (Rat.le_of_lt i) (show 0 ≤ n - x by grind)
  have k2 := Rat.mul_nonneg (Rat.le_of_lt i) (show 0 ≤ n + x by grind)
  generalize 1 / n = w at *
  constructor <;> grind
theorem clip2 {x n : Rat} (hn : 0 < n) (h : x * x ≤ n * n) : -1 ≤ x / n ∧ x / n ≤ 1 := by
  have := clip1 hn h
  have e : 1 / n * x = x / n := by rw [Rat.div_def, Rat.div_def]; grind
  rwa [e] at this
theorem nn_mul {n x : Rat} (hn : 0 < n) (hx : 0 ≤ x) : 0 ≤ 1 / n * x := Rat.mul_nonneg (by rw [Rat.div_def, Rat.one_mul]; exact Rat.le_of_lt (Rat.inv_pos.2 hn)) hx
theorem drB_tells {X Y Z al sin cos A : I} {u : List I} (hal : rt al = true) (hX : rt X = true) (hY : rt Y = true) (hZ : rt Z = true) (hZ0 : 0 ≤ Z.lo.q) (hA : rt A = true) (hs : rt sin = true) (hc : rt cos = true) (h : Chain drB [A, cos, sin, al, Z, Y, X] u) :
    ∃ R, DrT X Y Z al sin cos A R ⟨gt u 2, gt u 1, gt u 0⟩ := by
  obtain ⟨one, hone, none, hnone, sx, hsx, sy, hsy, n1, hn1, qx, hqx, qy, hqy, s1, hs1, qz, hqz, s2, hs2, nn, hnn, k, hk, wx, hwx, wy, hwy, wz, hwz, vx, hvx, vy, hvy, vz, hvz, ax, hax, ay, hay, q, hq, m, hm, ny, hny, d1, hd1, tx, htx, d2, hd2, ty, hty, tz, htz, bp1, hbp1, bq1, hbq1, bx, hbx, bp2, hbp2, bq2, hbq2, bY, hbY, bp3, hbp3, bq3, hbq3, bz, hbz, r, hr, al1, hal1, hf, hhf, o2, ho2, kk, hkk, aq, haq, left, hleft, omk, homk, mx, hmx, rt1, hrt1, m1, hm1, rs, hrs, m2, hm2, asd, hasd, sq2, hsq2, l2, hl2, mx2, hmx2, up, hup, jx1, hjx1, jy1, hjy1, jz1, hjz1, jx2, hjx2, jy2, hjy2, jz2, hjz2, gx, hgx, gy, hgy, gz, hgz, jx3, hjx3, jy3, hjy3, jz3, hjz3, hx, hhx, hy, hhy, hz, hhz, ex, hex, ey, hey, ez, hez, n2, hn2, fx, hfx, fy, hfy, s3, hs3, fz, hfz, s4, hs4, nn2, hnn2, k2, hk2, rx, hrx, ry, hry, rz, hrz, nx, hnx, nny, hnny, nz, hnz, hend⟩ := h
  have zI0 : Mem I.zero 0 := ⟨by rw [show I.zero.lo = F.zero from rfl, q_zero]; exact Rat.le_refl, by rw [show I.zero.hi = F.zero from rfl, q_zero]; exact Rat.le_refl⟩
  have vP : ∀ d, In0 X Y Z al d → Mem sx (d.a * d.x) ∧ Mem sy (d.a * d.y) ∧ Mem s2 d.S := by
    intro d g
    have e1 := p_mul hsx g.a g.x
    have e2 := p_mul hsy g.a g.y
    exact ⟨e1, e2, p_add hs2 (p_add hs1 (p_sqr hqx e1) (p_sqr hqy e2)) (p_sqr hqz g.z)⟩
  have d0 : In0 X Y Z al ⟨al.lo.q, X.lo.q, Y.lo.q, Z.lo.q, 0, 0, 0, 0, 0, 0, 0⟩ := ⟨⟨Rat.le_refl, rt_le hal⟩, ⟨Rat.le_refl, rt_le hX⟩, ⟨Rat.le_refl, rt_le hY⟩, ⟨Rat.le_refl, rt_le hZ⟩⟩
  have nnQ := p_sqrt hnn (vP _ d0).2.2
  have nr : nn.lo.q ≤ nn.hi.q := sq_le' nnQ.1 nnQ.2.2.2 (by have := nnQ.2.1; have := nnQ.2.2.1; grind)
  have n0 : 0 < nn.lo.q := by
    rcases no_zero (rt_q nr) hk.1 with e | e
    · exact e
    · have := nnQ.1; grind
  have one1 : Mem one 1 := p_num hone one_q
  have none0 : Mem none 0 := p_num hnone zero0_q
  have tz0 : Mem tz 0 := p_lit htz zI0
  have zq : z64.q = 0 := zero0_q
  have vV : ∀ d, InV X Y Z al ⟨nn, m, r, rt1, up, nn2⟩ d → Mem vx d.vx ∧ Mem vy d.vy ∧ Mem vz d.vz ∧ Mem q d.Q := by
    intro d g
    obtain ⟨e1, e2, _⟩ := vP d g.toIn0
    have ek := p_div hk (p_num hn1 one_q) g.n
    have x1 := p_kept hvx (p_mul hwx ek e1) (by rw [mone_q]; exact g.vx.1) (by rw [one_q]; exact g.vx.2)
    have y1 := p_kept hvy (p_mul hwy ek e2) (by rw [mone_q]; exact g.vy.1) (by rw [one_q]; exact g.vy.2)
    have z1 := p_kept hvz (p_mul hwz ek g.z) (by rw [zq]; exact g.vz.1) (by rw [one_q]; exact g.vz.2)
    exact ⟨x1, y1, z1, p_add hq (p_sqr hax x1) (p_sqr hay y1)⟩
  have vT : ∀ d, InT X Y Z al sin cos ⟨nn, m, r, rt1, up, nn2⟩ d → (Mem tx d.tx ∧ Mem ty d.ty ∧ Mem bx d.bx ∧ Mem bY d.bY ∧ Mem bz d.bz) ∧ Mem al1 d.L ∧ Mem kk d.k ∧ Mem left d.left := by
    intro d g
    obtain ⟨x1, y1, z1, _⟩ := vV d g.toInV
    have t1 := p_kept htx (p_div hd1 (p_neg hny y1) g.m) (by rw [mone_q]; exact g.tx.1) (by rw [one_q]; exact g.tx.2)
    have t2 := p_kept hty (p_div hd2 x1 g.m) (by rw [mone_q]; exact g.ty.1) (by rw [one_q]; exact g.ty.2)
    have b1 := p_sub hbx (p_mul hbp1 y1 tz0) (p_mul hbq1 z1 t2)
    have b2 := p_sub hbY (p_mul hbp2 z1 t1) (p_mul hbq2 x1 tz0)
    have b3 := p_sub hbz (p_mul hbp3 x1 t2) (p_mul hbq3 y1 t1)
    have l1 := p_mul hal1 g.r g.c
    have k1 := p_mul hkk (p_num hhf half_q) (p_add ho2 one1 z1)
    exact ⟨⟨t1, t2, b1, b2, b3⟩, l1, k1, p_sub hleft one1 (p_sqr haq l1)⟩
  have mxP : ∀ {x : Rat}, (if 0 ≤ x then x else 0) = x ∧ 0 ≤ x ∨ (if 0 ≤ x then x else 0) = 0 ∧ x ≤ 0 := by
    intro x
    by_cases c : 0 ≤ x
    · exact .inl ⟨if_pos c, c⟩
    · exact .inr ⟨if_neg c, by grind⟩
  have vA : ∀ d, InT X Y Z al sin cos ⟨nn, m, r, rt1, up, nn2⟩ d → Mem rt1 d.p → Mem asd d.A ∧ Mem l2 d.l2 := by
    intro d g hp
    obtain ⟨_, l1, k1, f1⟩ := vT d g
    have a1 := p_add hasd (p_mul hm1 (p_sub homk one1 k1) hp) (p_mul hm2 k1 (p_mul hrs g.r g.s))
    exact ⟨a1, p_sub hl2 f1 (p_sqr hsq2 a1)⟩
  have vH : ∀ d, InT X Y Z al sin cos ⟨nn, m, r, rt1, up, nn2⟩ d → Mem rt1 d.p → Mem up d.u → Mem ex (d.a * d.hx) ∧ Mem ey (d.a * d.hy) ∧ Mem ez d.ez ∧ Mem s4 d.sg := by
    intro d g hp hu
    obtain ⟨x1, y1, z1, _⟩ := vV d g.toInV
    obtain ⟨⟨t1, t2, b1, b2, b3⟩, l1, _, _⟩ := vT d g
    obtain ⟨a1, _⟩ := vA d g hp
    have e1 := p_mul hex g.a (p_add hhx (p_add hgx (p_mul hjx1 l1 t1) (p_mul hjx2 a1 b1)) (p_mul hjx3 hu x1))
    have e2 := p_mul hey g.a (p_add hhy (p_add hgy (p_mul hjy1 l1 t2) (p_mul hjy2 a1 b2)) (p_mul hjy3 hu y1))
    have e3 : Mem hz d.hz := p_add hhz (p_add hgz (p_mul hjz1 l1 tz0) (p_mul hjz2 a1 b3)) (p_mul hjz3 hu z1)
    have e4 : Mem ez d.ez := p_max hez e3 none0 (by
      rcases mxP (x := d.hz) with ⟨k, c⟩ | ⟨k, c⟩
      · exact .inl ⟨k, c⟩
      · exact .inr ⟨k, c⟩)
    exact ⟨e1, e2, e4, p_add hs4 (p_add hs3 (p_sqr hfx e1) (p_sqr hfy e2)) (p_sqr hfz e4)⟩
  have hu : u = [nz, nny, nx, rz, ry, rx, k2, nn2, s4, fz, s3, fy, fx, n2, ez, ey, ex] ++ u.drop 17 := by rw [hend]; rfl
  have ux : gt u 2 = nx := by rw [hend]; rfl
  have uy : gt u 1 = nny := by rw [hend]; rfl
  have uz : gt u 0 = nz := by rw [hend]; rfl
  refine ⟨⟨nn, m, r, rt1, up, nn2⟩, ?_⟩
  rw [ux, uy, uz]
  -- a point of the direction, of the rest
  obtain ⟨d1', hd1'⟩ : ∃ d : DP, InV X Y Z al ⟨nn, m, r, rt1, up, nn2⟩ d := by
    refine ⟨⟨al.lo.q, X.lo.q, Y.lo.q, Z.lo.q, nn.hi.q, 0, 0, 0, 0, 0, 0⟩, ⟨⟨Rat.le_refl, rt_le hal⟩, ⟨Rat.le_refl, rt_le hX⟩, ⟨Rat.le_refl, rt_le hY⟩, ⟨Rat.le_refl, rt_le hZ⟩⟩, ⟨nr, Rat.le_refl⟩, ?_, ?_, ?_⟩
    all_goals (
      have k := nnQ.2.2.1
      simp only [DP.S] at k
      have s1 := sq_nn (al.lo.q * X.lo.q); have s2 := sq_nn (al.lo.q * Y.lo.q); have s3 := sq_nn Z.lo.q)
    · exact clip1 (by grind) (by grind)
    · exact clip1 (by grind) (by grind)
    · exact ⟨nn_mul (by grind) hZ0, (clip1 (by grind) (by grind)).2⟩
  have mQ := fun d (g : InV X Y Z al ⟨nn, m, r, rt1, up, nn2⟩ d) => p_sqrt hm (vV d g).2.2.2
  have mQ1 := mQ _ hd1'
  have mr : m.lo.q ≤ m.hi.q := sq_le' mQ1.1 mQ1.2.2.2 (by have := mQ1.2.1; have := mQ1.2.2.1; grind)
  have m0 : 0 < m.lo.q := by
    rcases no_zero (rt_q mr) hd1.1 with e | e
    · exact e
    · have := mQ1.1; grind
  have hr0 : rt r = true := sq_rt (a := A) hA hr.1 hr.2.1 hr.2.2
  have tP := fun d (g : InT X Y Z al sin cos ⟨nn, m, r, rt1, up, nn2⟩ d) => rts_of hrt1 (p_max (z := if 0 ≤ d.left then d.left else 0) hmx (vT d g).2.2.2 none0 (mxP.elim (fun h => .inl h) fun h => .inr h)) mxP
  have uP := fun d (g : InT X Y Z al sin cos ⟨nn, m, r, rt1, up, nn2⟩ d) (hp : Mem rt1 d.p) => rts_of hup (p_max (z := if 0 ≤ d.l2 then d.l2 else 0) hmx2 (vA d g hp).2 none0 (mxP.elim (fun h => .inl h) fun h => .inr h)) mxP
  obtain ⟨d2', hd2', hp2, hu2⟩ : ∃ d : DP, InT X Y Z al sin cos ⟨nn, m, r, rt1, up, nn2⟩ d ∧ Mem rt1 d.p ∧ Mem up d.u := by
    have key : InT X Y Z al sin cos ⟨nn, m, r, rt1, up, nn2⟩ { d1' with m := m.hi.q, r := r.lo.q, c := cos.lo.q, s := sin.lo.q } := by
      have k := mQ1.2.2.1
      simp only [DP.Q] at k
      have s1 := sq_nn d1'.vx; have s2 := sq_nn d1'.vy
      refine ⟨⟨⟨hd1'.a, hd1'.x, hd1'.y, hd1'.z⟩, hd1'.n, hd1'.vx, hd1'.vy, hd1'.vz⟩, ⟨mr, Rat.le_refl⟩, ?_, ?_, ⟨Rat.le_refl, rt_le hr0⟩, ⟨Rat.le_refl, rt_le hc⟩, ⟨Rat.le_refl, rt_le hs⟩⟩
      · exact clip2 (x := -d1'.vy) (by grind) (by grind)
      · exact clip2 (x := d1'.vx) (by grind) (by grind)
    have t0 := tP _ key
    have key2 : InT X Y Z al sin cos ⟨nn, m, r, rt1, up, nn2⟩ { d1' with m := m.hi.q, r := r.lo.q, c := cos.lo.q, s := sin.lo.q, p := rt1.lo.q } := ⟨⟨⟨key.a, key.x, key.y, key.z⟩, key.n, key.vx, key.vy, key.vz⟩, key.m, key.tx, key.ty, key.r, key.c, key.s⟩
    have hp : Mem rt1 rt1.lo.q := ⟨Rat.le_refl, t0.rt⟩
    have u0 := uP _ key2 hp
    exact ⟨{ d1' with m := m.hi.q, r := r.lo.q, c := cos.lo.q, s := sin.lo.q, p := rt1.lo.q, u := up.lo.q }, ⟨⟨⟨key.a, key.x, key.y, key.z⟩, key.n, key.vx, key.vy, key.vz⟩, key.m, key.tx, key.ty, key.r, key.c, key.s⟩, hp, ⟨Rat.le_refl, u0.rt⟩⟩
  have sQ := fun d (g : InT X Y Z al sin cos ⟨nn, m, r, rt1, up, nn2⟩ d) (hp : Mem rt1 d.p) (hu : Mem up d.u) => p_sqrt hnn2 (vH d g hp hu).2.2.2
  have sQ1 := sQ _ hd2' hp2 hu2
  have sr : nn2.lo.q ≤ nn2.hi.q := sq_le' sQ1.1 sQ1.2.2.2 (by have := sQ1.2.1; have := sQ1.2.2.1; grind)
  have s0 : 0 < nn2.lo.q := by
    rcases no_zero (rt_q sr) hk2.1 with e | e
    · exact e
    · have := sQ1.1; grind
  exact {
    nn := fun d g => ⟨(p_sqrt hnn (vP d g).2.2).2.1, (p_sqrt hnn (vP d g).2.2).2.2.1⟩
    n0 := n0
    n1 := nr
    m := fun d g => ⟨(mQ d g).2.1, (mQ d g).2.2.1⟩
    m0 := m0
    m1 := mr
    r := ⟨hr.2.1, hr.2.2⟩
    p := tP
    u := uP
    s := fun d g hp hu => ⟨(sQ d g hp hu).2.1, (sQ d g hp hu).2.2.1⟩
    s0 := s0
    s1 := sr
    x := fun d g hp hu w hw c0 c1 => p_kept hnx (p_mul hrx (p_div hk2 (p_num hn2 one_q) hw) (vH d g hp hu).1) (by rw [mone_q]; exact c0) (by rw [one_q]; exact c1)
    y := fun d g hp hu w hw c0 c1 => p_kept hnny (p_mul hry (p_div hk2 (p_num hn2 one_q) hw) (vH d g hp hu).2.1) (by rw [mone_q]; exact c0) (by rw [one_q]; exact c1)
    z := fun d g hp hu w hw c0 c1 => p_kept hnz (p_mul hrz (p_div hk2 (p_num hn2 one_q) hw) (vH d g hp hu).2.2.1) (by rw [zq]; exact c0) (by rw [one_q]; exact c1) }
end Bu
