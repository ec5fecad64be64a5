/- VndfSeen, plain: what is drawn has length 1, is seen, and is drawn. -/
import Derived.Test.YtccmfddnbofgkaaGreatMb
import Derived.Test.YtccmfddnbofgkaaGreatLc
namespace Bu
set_option linter.all false
open Rx Go

def clipQ (l u v : Rat) : Rat := if v ≤ l then l else if u ≤ v then u else v
theorem kept_any {a : I} {l u : F} {v : Rat} (h : Mem a v) (hl : l.q ≤ u.q) : Mem (keptI a l u) (clipQ l.q u.q v) := by
  have h1 := h.lo; have h2 := h.hi
  constructor
  · show (mnF (mxF a.lo l) u).q ≤ _
    have m := mnF_q (mxF a.lo l) u
    have o := mxF_or a.lo l
    unfold clipQ
    split
    · rcases o with e | e <;> rw [e] at m ⊢
      · grind
      · exact m.1
    · split
      · exact m.2
      · rcases o with e | e <;> rw [e] at m ⊢ <;> grind
  · show _ ≤ (mnF (mxF a.hi l) u).q
    have m := mxF_q a.hi l
    unfold clipQ
    rcases mnF_or (mxF a.hi l) u with e | e <;> rw [e]
    · split
      · exact m.2
      · split
        · grind
        · grind
    · split
      · exact hl
      · split
        · exact Rat.le_refl
        · grind
/-- both lengths of what is made one -/
structure LongP (X Y Z : I) : Prop where
  lo : ∃ a b c, Mem X a ∧ Mem Y b ∧ Mem Z c ∧ a * a + b * b + c * c ≤ 1
  hi : ∃ a b c, Mem X a ∧ Mem Y b ∧ Mem Z c ∧ 1 ≤ a * a + b * b + c * c
theorem long_of {X Y Z nn X' Y' Z' : I} {x y z : Rat} (s : nn.lo.q * nn.lo.q ≤ x * x + y * y + z * z ∧ x * x + y * y + z * z ≤ nn.hi.q * nn.hi.q) (n0 : 0 < nn.lo.q) (n1 : nn.lo.q ≤ nn.hi.q) (z0 : 0 ≤ z)
    (hx : ∀ w, Mem nn w → Mem X (1 / w * x)) (hy : ∀ w, Mem nn w → Mem Y (1 / w * y)) (hz : ∀ w, Mem nn w → Mem Z (1 / w * z)) (eX : X' = keptI X mone64 one64) (eY : Y' = keptI Y mone64 one64) (eZ : Z' = keptI Z z64 one64) : LongP X' Y' Z' := by
  have mq := mone_q; have oq := one_q; have zq : z64.q = 0 := zero0_q
  subst eX; subst eY; subst eZ
  have cx : ∀ {v : Rat}, Mem X v → Mem (keptI X mone64 one64) (clipQ (-1) 1 v) := fun h => by have := kept_any (l := mone64) (u := one64) h (by rw [mq, oq]; grind); rwa [mq, oq] at this
  have cy : ∀ {v : Rat}, Mem Y v → Mem (keptI Y mone64 one64) (clipQ (-1) 1 v) := fun h => by have := kept_any (l := mone64) (u := one64) h (by rw [mq, oq]; grind); rwa [mq, oq] at this
  have cz : ∀ {v : Rat}, Mem Z v → Mem (keptI Z z64 one64) (clipQ 0 1 v) := fun h => by have := kept_any (l := z64) (u := one64) h (by rw [zq, oq]; grind); rwa [zq, oq] at this
  have small : ∀ v : Rat, clipQ (-1) 1 v * clipQ (-1) 1 v ≤ v * v := by
    intro v
    unfold clipQ
    split
    · have := Rat.mul_nonneg (show 0 ≤ -1 - v by grind) (show 0 ≤ 1 - v by grind); grind
    · split
      · have := Rat.mul_nonneg (show 0 ≤ v - 1 by grind) (show 0 ≤ v + 1 by grind); grind
      · exact Rat.le_refl
  have small0 : ∀ v : Rat, 0 ≤ v → clipQ 0 1 v * clipQ 0 1 v ≤ v * v := by
    intro v v0
    unfold clipQ
    split
    · have := sq_nn v; grind
    · split
      · have := Rat.mul_nonneg (show 0 ≤ v - 1 by grind) (show 0 ≤ v + 1 by grind); grind
      · exact Rat.le_refl
  have big : ∀ v : Rat, clipQ (-1) 1 v = v ∨ clipQ (-1) 1 v * clipQ (-1) 1 v = 1 := by
    intro v
    unfold clipQ
    split
    · right; grind
    · split
      · right; grind
      · exact .inl rfl
  have big0 : ∀ v : Rat, 0 ≤ v → clipQ 0 1 v = v ∨ clipQ 0 1 v * clipQ 0 1 v = 1 := by
    intro v v0
    unfold clipQ
    split
    · left; grind
    · split
      · right; grind
      · exact .inl rfl
  constructor
  · have hw : Mem nn nn.hi.q := ⟨n1, Rat.le_refl⟩
    have w0 : 0 < nn.hi.q := by grind
    refine ⟨_, _, _, cx (hx _ hw), cy (hy _ hw), cz (hz _ hw), ?_⟩
    have a := small (1 / nn.hi.q * x); have b := small (1 / nn.hi.q * y); have c := small0 (1 / nn.hi.q * z) (nn_mul w0 z0)
    have p := part_le w0 s.2
    generalize clipQ (-1) 1 (1 / nn.hi.q * x) = p1 at *
    generalize clipQ (-1) 1 (1 / nn.hi.q * y) = p2 at *
    generalize clipQ 0 1 (1 / nn.hi.q * z) = p3 at *
    generalize 1 / nn.hi.q = i at *
    grind
  · have hw : Mem nn nn.lo.q := ⟨Rat.le_refl, n1⟩
    refine ⟨_, _, _, cx (hx _ hw), cy (hy _ hw), cz (hz _ hw), ?_⟩
    have e1 : 1 / nn.lo.q * nn.lo.q = 1 := Rat.div_mul_cancel (by grind)
    have i0 : 0 < 1 / nn.lo.q := by rw [Rat.div_def, Rat.one_mul]; exact Rat.inv_pos.2 n0
    have c0 := nn_mul n0 z0
    have a := big (1 / nn.lo.q * x); have b := big (1 / nn.lo.q * y); have c := big0 (1 / nn.lo.q * z) c0
    have q1 := sq_nn (clipQ (-1) 1 (1 / nn.lo.q * x)); have q2 := sq_nn (clipQ (-1) 1 (1 / nn.lo.q * y)); have q3 := sq_nn (clipQ 0 1 (1 / nn.lo.q * z))
    rcases a with a | a
    · rcases b with b | b
      · rcases c with c | c
        · rw [a, b, c]
          have := Rat.mul_nonneg (show 0 ≤ x * x + y * y + z * z - nn.lo.q * nn.lo.q by grind) (Rat.le_of_lt (Rat.mul_pos i0 i0))
          generalize 1 / nn.lo.q = i at *
          have e2 : nn.lo.q * nn.lo.q * (i * i) = 1 := by grind
          grind
        · grind
      · grind
    · grind
theorem drA_long {X Y Z al sin cos A : I} {u : List I} (h : Chain drA [A, cos, sin, al, Z, Y, X] u) : LongP (gt u 2) (gt u 1) (gt u 0) := by
  obtain ⟨one, hone, none, hnone, sx, hsx, sy, hsy, n1, hn1, qx, hqx, qy, hqy, s1, hs1, qz, hqz, s2, hs2, nn, hnn, k, hk, wx, hwx, wy, hwy, wz, hwz, vx, hvx, vy, hvy, vz, hvz, ax, hax, ay, hay, q, hq, m, hm, ny, hny, d1, hd1, tx, htx, d2, hd2, ty, hty, tz, htz, bp1, hbp1, bq1, hbq1, bx, hbx, bp2, hbp2, bq2, hbq2, bY, hbY, bp3, hbp3, bq3, hbq3, bz, hbz, r, hr, al1, hal1, hf, hhf, o2, ho2, kk, hkk, aq, haq, left, hleft, omk, homk, mx, hmx, rt1, hrt1, m1, hm1, rs, hrs, m2, hm2, asd, hasd, sq2, hsq2, l2, hl2, mx2, hmx2, up, hup, jx1, hjx1, jy1, hjy1, jz1, hjz1, jx2, hjx2, jy2, hjy2, jz2, hjz2, gx, hgx, gy, hgy, gz, hgz, jx3, hjx3, jy3, hjy3, jz3, hjz3, hx, hhx, hy, hhy, hz, hhz, ex, hex, ey, hey, ez, hez, n2, hn2, fx, hfx, fy, hfy, s3, hs3, fz, hfz, s4, hs4, nn2, hnn2, k2, hk2, rx, hrx, ry, hry, rz, hrz, nx, hnx, nny, hnny, nz, hnz, hend⟩ := h
  have zq : z64.q = 0 := zero0_q
  have ux : gt u 2 = nx := by rw [hend]; rfl
  have uy : gt u 1 = nny := by rw [hend]; rfl
  have uz : gt u 0 = nz := by rw [hend]; rfl
  rw [ux, uy, uz]
  have rex := rt_le (AllR.rt hex)
  have rey := rt_le (AllR.rt hey)
  have r1 := rt_le (AllR.rt hjz1); have r2 := rt_le (AllR.rt hjz2); have r3 := rt_le (AllR.rt hjz3)
  have rgz := rt_le (dn_up hgz.1 hgz.2 (by show jz1.lo.q + jz2.lo.q ≤ jz1.hi.q + jz2.hi.q; grind))
  have rhz := rt_le (dn_up hhz.1 hhz.2 (by show gz.lo.q + jz3.lo.q ≤ gz.hi.q + jz3.hi.q; have : gz.lo.q ≤ gz.hi.q := rgz; grind))
  have none0 : Mem none 0 := p_num hnone zero0_q
  have mz : ∃ z, Mem ez z ∧ 0 ≤ z := by
    rcases (Rat.le_total : 0 ≤ hz.lo.q ∨ hz.lo.q ≤ 0) with c | c
    · exact ⟨_, p_max hez (show Mem hz hz.lo.q from ⟨Rat.le_refl, rhz⟩) none0 (.inl ⟨rfl, c⟩), c⟩
    · exact ⟨_, p_max hez (show Mem hz hz.lo.q from ⟨Rat.le_refl, rhz⟩) none0 (.inr ⟨rfl, c⟩), Rat.le_refl⟩
  obtain ⟨z, mz, z0⟩ := mz
  have mx : Mem ex ex.lo.q := ⟨Rat.le_refl, rex⟩
  have my : Mem ey ey.lo.q := ⟨Rat.le_refl, rey⟩
  have sQ := p_sqrt hnn2 (p_add hs4 (p_add hs3 (p_sqr hfx mx) (p_sqr hfy my)) (p_sqr hfz mz))
  have s1 : nn2.lo.q ≤ nn2.hi.q := sq_le' sQ.1 sQ.2.2.2 (by have := sQ.2.1; have := sQ.2.2.1; grind)
  have s0 : 0 < nn2.lo.q := by
    rcases no_zero (rt_q s1) hk2.1 with e | e
    · exact e
    · have := sQ.1; grind
  exact long_of ⟨sQ.2.1, sQ.2.2.1⟩ s0 s1 z0 (fun w hw => p_mul hrx (p_div hk2 (p_num hn2 one_q) hw) mx) (fun w hw => p_mul hry (p_div hk2 (p_num hn2 one_q) hw) my) (fun w hw => p_mul hrz (p_div hk2 (p_num hn2 one_q) hw) mz) hnx hnny hnz
theorem drB_long {X Y Z al sin cos A : I} {u : List I} (h : Chain drB [A, cos, sin, al, Z, Y, X] u) : LongP (gt u 2) (gt u 1) (gt u 0) := by
  obtain ⟨one, hone, none, hnone, sx, hsx, sy, hsy, n1, hn1, qx, hqx, qy, hqy, s1, hs1, qz, hqz, s2, hs2, nn, hnn, k, hk, wx, hwx, wy, hwy, wz, hwz, vx, hvx, vy, hvy, vz, hvz, ax, hax, ay, hay, q, hq, m, hm, ny, hny, d1, hd1, tx, htx, d2, hd2, ty, hty, tz, htz, bp1, hbp1, bq1, hbq1, bx, hbx, bp2, hbp2, bq2, hbq2, bY, hbY, bp3, hbp3, bq3, hbq3, bz, hbz, r, hr, al1, hal1, hf, hhf, o2, ho2, kk, hkk, aq, haq, left, hleft, omk, homk, mx, hmx, rt1, hrt1, m1, hm1, rs, hrs, m2, hm2, asd, hasd, sq2, hsq2, l2, hl2, mx2, hmx2, up, hup, jx1, hjx1, jy1, hjy1, jz1, hjz1, jx2, hjx2, jy2, hjy2, jz2, hjz2, gx, hgx, gy, hgy, gz, hgz, jx3, hjx3, jy3, hjy3, jz3, hjz3, hx, hhx, hy, hhy, hz, hhz, ex, hex, ey, hey, ez, hez, n2, hn2, fx, hfx, fy, hfy, s3, hs3, fz, hfz, s4, hs4, nn2, hnn2, k2, hk2, rx, hrx, ry, hry, rz, hrz, nx, hnx, nny, hnny, nz, hnz, hend⟩ := h
  have zq : z64.q = 0 := zero0_q
  have ux : gt u 2 = nx := by rw [hend]; rfl
  have uy : gt u 1 = nny := by rw [hend]; rfl
  have uz : gt u 0 = nz := by rw [hend]; rfl
  rw [ux, uy, uz]
  have rex := rt_le (AllR.rt hex)
  have rey := rt_le (AllR.rt hey)
  have r1 := rt_le (AllR.rt hjz1); have r2 := rt_le (AllR.rt hjz2); have r3 := rt_le (AllR.rt hjz3)
  have rgz := rt_le (dn_up hgz.1 hgz.2 (by show jz1.lo.q + jz2.lo.q ≤ jz1.hi.q + jz2.hi.q; grind))
  have rhz := rt_le (dn_up hhz.1 hhz.2 (by show gz.lo.q + jz3.lo.q ≤ gz.hi.q + jz3.hi.q; have : gz.lo.q ≤ gz.hi.q := rgz; grind))
  have none0 : Mem none 0 := p_num hnone zero0_q
  have mz : ∃ z, Mem ez z ∧ 0 ≤ z := by
    rcases (Rat.le_total : 0 ≤ hz.lo.q ∨ hz.lo.q ≤ 0) with c | c
    · exact ⟨_, p_max hez (show Mem hz hz.lo.q from ⟨Rat.le_refl, rhz⟩) none0 (.inl ⟨rfl, c⟩), c⟩
    · exact ⟨_, p_max hez (show Mem hz hz.lo.q from ⟨Rat.le_refl, rhz⟩) none0 (.inr ⟨rfl, c⟩), Rat.le_refl⟩
  obtain ⟨z, mz, z0⟩ := mz
  have mx : Mem ex ex.lo.q := ⟨Rat.le_refl, rex⟩
  have my : Mem ey ey.lo.q := ⟨Rat.le_refl, rey⟩
  have sQ := p_sqrt hnn2 (p_add hs4 (p_add hs3 (p_sqr hfx mx) (p_sqr hfy my)) (p_sqr hfz mz))
  have s1 : nn2.lo.q ≤ nn2.hi.q := sq_le' sQ.1 sQ.2.2.2 (by have := sQ.2.1; have := sQ.2.2.1; grind)
  have s0 : 0 < nn2.lo.q := by
    rcases no_zero (rt_q s1) hk2.1 with e | e
    · exact e
    · have := sQ.1; grind
  exact long_of ⟨sQ.2.1, sQ.2.2.1⟩ s0 s1 z0 (fun w hw => p_mul hrx (p_div hk2 (p_num hn2 one_q) hw) mx) (fun w hw => p_mul hry (p_div hk2 (p_num hn2 one_q) hw) my) (fun w hw => p_mul hrz (p_div hk2 (p_num hn2 one_q) hw) mz) hnx hnny hnz
/-- some point of it is seen -/
def SeenP (X Y Z : I) (n : V3) : Prop := ∃ a b c x y z, Mem n.x a ∧ Mem n.y b ∧ Mem n.z c ∧ Mem X x ∧ Mem Y y ∧ Mem Z z ∧ 0 ≤ a * x + b * y + c * z
theorem DrT.seen {X Y Z al sin cos A : I} {R : DR} {n : V3} (T : DrT X Y Z al sin cos A R n) (hX : rt X = true) (hY : rt Y = true) (hZ : rt Z = true) (hZ0 : 0 ≤ Z.lo.q) (hal : rt al = true) (hA : rt A = true) (hs : rt sin = true) (hc : rt cos = true) : SeenP X Y Z n := by
  have lX := rt_le hX; have lY := rt_le hY; have lZ := rt_le hZ; have la := rt_le hal; have lA := rt_le hA; have ls := rt_le hs; have lc := rt_le hc
  obtain ⟨ra, rb⟩ := T.r
  have mr : Mem R.r R.r.lo.q := ⟨Rat.le_refl, sq_le' ra.nn rb.nn (by have := ra.le; have := rb.ge; grind)⟩
  have mN : Mem R.nn R.nn.hi.q := ⟨T.n1, Rat.le_refl⟩
  have mM : Mem R.m R.m.hi.q := ⟨T.m1, Rat.le_refl⟩
  have n0 : 0 < R.nn.hi.q := by have := T.n0; have := T.n1; grind
  have m0 : 0 < R.m.hi.q := by have := T.m0; have := T.m1; grind
  have key : ∀ p u, Mem R.rt1 p ∨ True → InT X Y Z al sin cos R ⟨al.lo.q, X.lo.q, Y.lo.q, Z.lo.q, R.nn.hi.q, R.m.hi.q, R.r.lo.q, cos.lo.q, sin.lo.q, p, u⟩ := by
    intro p u _
    have i0 : In0 X Y Z al ⟨al.lo.q, X.lo.q, Y.lo.q, Z.lo.q, R.nn.hi.q, R.m.hi.q, R.r.lo.q, cos.lo.q, sin.lo.q, p, u⟩ := ⟨⟨Rat.le_refl, la⟩, ⟨Rat.le_refl, lX⟩, ⟨Rat.le_refl, lY⟩, ⟨Rat.le_refl, lZ⟩⟩
    have hS := (T.nn _ i0).2
    unfold DP.S at hS
    simp only at hS
    have s1 := sq_nn (al.lo.q * X.lo.q); have s2 := sq_nn (al.lo.q * Y.lo.q); have s3 := sq_nn Z.lo.q
    have iV : InV X Y Z al R ⟨al.lo.q, X.lo.q, Y.lo.q, Z.lo.q, R.nn.hi.q, R.m.hi.q, R.r.lo.q, cos.lo.q, sin.lo.q, p, u⟩ := ⟨i0, mN, clip1 (x := al.lo.q * X.lo.q) n0 (by grind), clip1 (x := al.lo.q * Y.lo.q) n0 (by grind), nn_mul n0 hZ0, (clip1 (x := Z.lo.q) n0 (by grind)).2⟩
    have hQ := (T.m _ iV).2
    generalize hd : (⟨al.lo.q, X.lo.q, Y.lo.q, Z.lo.q, R.nn.hi.q, R.m.hi.q, R.r.lo.q, cos.lo.q, sin.lo.q, p, u⟩ : DP) = d at *
    have em : d.m = R.m.hi.q := by rw [← hd]
    have t1 := sq_nn d.vx; have t2 := sq_nn d.vy
    unfold DP.Q at hQ
    refine ⟨iV, by rw [em]; exact mM, ?_, ?_, by rw [← hd]; exact mr, by rw [← hd]; exact ⟨Rat.le_refl, lc⟩, by rw [← hd]; exact ⟨Rat.le_refl, ls⟩⟩
    · unfold DP.tx; rw [em]; exact clip2 (x := -d.vy) m0 (by grind)
    · unfold DP.ty; rw [em]; exact clip2 (x := d.vx) m0 (by grind)
  have g0 := key 0 0 (.inr trivial)
  have hp : Mem R.rt1 R.rt1.lo.q := ⟨Rat.le_refl, (T.p _ g0).rt⟩
  have g1 := key R.rt1.lo.q 0 (.inr trivial)
  have U := T.u _ g1 hp
  have hu : Mem R.up R.up.hi.q := ⟨U.rt, Rat.le_refl⟩
  have u0 : 0 ≤ R.up.hi.q := by have := U.nn; have := U.rt; grind
  have g2 := key R.rt1.lo.q R.up.hi.q (.inr trivial)
  have hw : Mem R.nn2 R.nn2.hi.q := ⟨T.s1, Rat.le_refl⟩
  have w0 : 0 < R.nn2.hi.q := by have := T.s0; have := T.s1; grind
  have hS := (T.s _ g2 hp hu).2
  generalize hd : (⟨al.lo.q, X.lo.q, Y.lo.q, Z.lo.q, R.nn.hi.q, R.m.hi.q, R.r.lo.q, cos.lo.q, sin.lo.q, R.rt1.lo.q, R.up.hi.q⟩ : DP) = d at *
  have ea : d.a = al.lo.q := by rw [← hd]
  have ex : d.x = X.lo.q := by rw [← hd]
  have ey : d.y = Y.lo.q := by rw [← hd]
  have ez : d.z = Z.lo.q := by rw [← hd]
  have en : d.n = R.nn.hi.q := by rw [← hd]
  have eu : d.u = R.up.hi.q := by rw [← hd]
  have hp' : Mem R.rt1 d.p := by rw [← hd]; exact hp
  have hu' : Mem R.up d.u := by rw [eu]; exact hu
  have z0 : 0 ≤ d.ez ∧ d.hz ≤ d.ez := by
    unfold DP.ez
    split
    · next c => exact ⟨c, Rat.le_refl⟩
    · next c => exact ⟨Rat.le_refl, Rat.le_of_lt (Rat.not_le.1 c)⟩
  unfold DP.sg at hS
  have q1 := sq_nn (d.a * d.hx); have q2 := sq_nn (d.a * d.hy); have q3 := sq_nn d.ez
  have c1 := clip1 (x := d.a * d.hx) w0 (by grind)
  have c2 := clip1 (x := d.a * d.hy) w0 (by grind)
  have c3 := clip1 (x := d.ez) w0 (by grind)
  refine ⟨_, _, _, X.lo.q, Y.lo.q, Z.lo.q, T.x d g2 hp' hu' _ hw c1.1 c1.2, T.y d g2 hp' hu' _ hw c2.1 c2.2, T.z d g2 hp' hu' _ hw (nn_mul w0 z0.1) c3.2, ⟨Rat.le_refl, lX⟩, ⟨Rat.le_refl, lY⟩, ⟨Rat.le_refl, lZ⟩, ?_⟩
  have fin : 0 ≤ d.a * d.hx * d.x + d.a * d.hy * d.y + d.ez * d.z := by
    have h1 := Rat.mul_nonneg (show 0 ≤ d.ez - d.hz by grind) (show 0 ≤ d.z by rw [ez]; exact hZ0)
    have n0' : 0 < d.n := by rw [en]; exact n0
    have k1 : d.a * d.x = d.n * d.vx := by
      unfold DP.vx
      have e : 1 / d.n * d.n = 1 := Rat.div_mul_cancel (by grind)
      generalize 1 / d.n = i at *
      grind
    have k2 : d.a * d.y = d.n * d.vy := by
      unfold DP.vy
      have e : 1 / d.n * d.n = 1 := Rat.div_mul_cancel (by grind)
      generalize 1 / d.n = i at *
      grind
    have k3 : d.z = d.n * d.vz := by
      unfold DP.vz
      have e : 1 / d.n * d.n = 1 := Rat.div_mul_cancel (by grind)
      generalize 1 / d.n = i at *
      grind
    have e1 : d.tx = -d.vy * (1 / d.m) := by unfold DP.tx; rw [Rat.div_def, Rat.div_def, Rat.one_mul]
    have e2 : d.ty = d.vx * (1 / d.m) := by unfold DP.ty; rw [Rat.div_def, Rat.div_def, Rat.one_mul]
    have hv : d.hx * d.vx + d.hy * d.vy + d.hz * d.vz = d.u * (d.vx * d.vx + d.vy * d.vy + d.vz * d.vz) := by
      unfold DP.hx DP.hy DP.hz DP.bx DP.bY DP.bz
      rw [e1, e2]
      generalize 1 / d.m = i
      generalize d.vx = a; generalize d.vy = b; generalize d.vz = c; generalize d.L = l; generalize d.A = q; generalize d.u = w
      grind
    have s0 : 0 ≤ d.vx * d.vx + d.vy * d.vy + d.vz * d.vz := by have := sq_nn d.vx; have := sq_nn d.vy; have := sq_nn d.vz; grind
    have h2 := Rat.mul_nonneg (Rat.le_of_lt n0') (Rat.mul_nonneg (show 0 ≤ d.u by rw [eu]; exact u0) s0)
    rw [← hv] at h2
    generalize d.hx = p1 at *
    generalize d.hy = p2 at *
    generalize d.hz = p3 at *
    generalize d.ez = p4 at *
    generalize d.vx = v1 at *
    generalize d.vy = v2 at *
    generalize d.vz = v3 at *
    have k4 : d.a * p1 * d.x = p1 * (d.n * v1) := by rw [← k1]; grind
    have k5 : d.a * p2 * d.y = p2 * (d.n * v2) := by rw [← k2]; grind
    have k6 : p3 * d.z = p3 * (d.n * v3) := by rw [← k3]
    rw [k4, k5]
    grind
  have i0 : 0 < 1 / R.nn2.hi.q := by rw [Rat.div_def, Rat.one_mul]; exact Rat.inv_pos.2 w0
  have := Rat.mul_nonneg (Rat.le_of_lt i0) fin
  rw [← ex, ← ey, ← ez]
  generalize 1 / R.nn2.hi.q = i at *
  generalize d.hx = p1 at *
  generalize d.hy = p2 at *
  generalize d.ez = p4 at *
  grind
/-- all that a draw tells of its length and of its cosine -/
theorem dr_seen {v : V3} {al : I} {d e : Int} (hv : OneP v) (ha : AlP al) (hd : u64w d) (he : u64w e) (h : (drR KkR (envR v al d e)).2 = 0) :
    LongP (drR KkR (envR v al d e)).1.x (drR KkR (envR v al d e)).1.y (drR KkR (envR v al d e)).1.z ∧ SeenP v.x v.y v.z (drR KkR (envR v al d e)).1 := by
  have nr := dr_nr h
  have hu := unI_U d hd.1 hd.2
  have c1 := cosM_in (unI e).lo (unI e).hi
  have s1 := sinM_in (unI e).lo (unI e).hi
  have up : 0 ≤ v.z.lo.q := by have := hv.up; grind
  by_cases st : (v.x.lo.k = 0 ∧ v.x.hi.k = 0) ∧ v.y.lo.k = 0 ∧ v.y.hi.k = 0
  · have hx : v.x.lo.q = 0 := by rw [show v.x.lo = F.zero from F.ext' st.1.1, q_zero]
    have hy : v.y.lo.q = 0 := by rw [show v.y.lo = F.zero from F.ext' st.2.1, q_zero]
    refine ⟨?_, ?_⟩
    · rcases drR_0 h with ⟨_, k, e⟩ | ⟨k, e⟩
      · rw [e]; exact drA_long (eval_chain k).2
      · rw [e]; exact drB_long (eval_chain k).2
    · have n0 : 0 ≤ (drR KkR (envR v al d e)).1.z.lo.q := by rw [← q_zero]; exact q_le.2 nr.up
      refine ⟨_, _, _, _, _, _, ⟨Rat.le_refl, q_le.2 nr.x.rt⟩, ⟨Rat.le_refl, q_le.2 nr.y.rt⟩, ⟨Rat.le_refl, q_le.2 nr.z.rt⟩, ⟨Rat.le_refl, q_le.2 hv.x.rt⟩, ⟨Rat.le_refl, q_le.2 hv.y.rt⟩, ⟨Rat.le_refl, q_le.2 hv.z.rt⟩, ?_⟩
      rw [hx, hy]
      have := Rat.mul_nonneg n0 up
      grind
  · obtain ⟨k, eq⟩ := dr_B hv ha st h
    rw [eq]
    refine ⟨drB_long (eval_chain k).2, ?_⟩
    obtain ⟨R, T⟩ := drB_tells (rt_q ha.rt) (in1_rt hv.x) (in1_rt hv.y) (in1_rt hv.z) up (rt_q hu.rt) (in1_rt s1) (in1_rt c1) (eval_chain k).2
    exact DrT.seen T (in1_rt hv.x) (in1_rt hv.y) (in1_rt hv.z) up (rt_q ha.rt) (rt_q hu.rt) (in1_rt s1) (in1_rt c1)
/-! the same sums -/
theorem Dn.uniq {r r' : F} {v : Rat} (h : Dn r v) (k : Dn r' v) : r = r' := F.ext' (Int.le_antisymm (q_le.1 (k.top r h.le)) (q_le.1 (h.top r' k.le)))
theorem Up.uniq {r r' : F} {v : Rat} (h : Up r v) (k : Up r' v) : r = r' := F.ext' (Int.le_antisymm (q_le.1 (h.bot r' k.ge)) (q_le.1 (k.bot r h.ge)))
theorem AllR.uniq {r r' : I} {p q s t : Rat} (h : AllR r p q s t) (k : AllR r' p s q t) : r = r' := by
  have l1 : r.lo.q ≤ r'.lo.q := k.top (c := r.lo) h.lo.1 h.lo.2.2.1 h.lo.2.1 h.lo.2.2.2
  have l2 : r'.lo.q ≤ r.lo.q := h.top (c := r'.lo) k.lo.1 k.lo.2.2.1 k.lo.2.1 k.lo.2.2.2
  have u1 : r.hi.q ≤ r'.hi.q := h.bot (c := r'.hi) k.hi.1 k.hi.2.2.1 k.hi.2.1 k.hi.2.2.2
  have u2 : r'.hi.q ≤ r.hi.q := k.bot (c := r.hi) h.hi.1 h.hi.2.2.1 h.hi.2.1 h.hi.2.2.2
  exact I.one (F.ext' (Int.le_antisymm (q_le.1 l1) (q_le.1 l2))) (F.ext' (Int.le_antisymm (q_le.1 u1) (q_le.1 u2)))
theorem mul_swap {i j k l : Nat} {v w : List I} {r r' : I} (h : Fact (.mul i j) v r) (g : Fact (.mul k l) w r') (e1 : gt v i = gt w l) (e2 : gt v j = gt w k) : r = r' := by
  have h' : AllR r _ _ _ _ := h
  have g' : AllR r' _ _ _ _ := g
  rw [e1, e2] at h'
  refine AllR.uniq h' ?_
  rw [Rat.mul_comm (gt w l).lo.q, Rat.mul_comm (gt w l).lo.q, Rat.mul_comm (gt w l).hi.q, Rat.mul_comm (gt w l).hi.q]
  exact g'
theorem add_same {i j k l : Nat} {v w : List I} {r r' : I} (h : Fact (.add i j) v r) (g : Fact (.add k l) w r') (e1 : gt v i = gt w k) (e2 : gt v j = gt w l) : r = r' := by
  have h' : Dn r.lo _ ∧ Up r.hi _ := h
  have g' : Dn r'.lo _ ∧ Up r'.hi _ := g
  rw [e1, e2] at h'
  exact I.one (h'.1.uniq g'.1) (h'.2.uniq g'.2)
def c20 : F := toF 4517110426252607488
theorem c20_q : c20.q = 1 / 1048576 := by have : c20.q * 1048576 = 1 := q_of' (n := 1) (s := 20) (by decide +kernel) rfl; grind
set_option maxRecDepth 100000 in
theorem od_box : decide (c20.k ≤ (gt (evalK KkR dnP boxN 0).1 2).lo.k) = true ∧ decide ((evalK KkR vsP [boxZ, box1, box1, box0, box1, box1] 0).2 = 0) = true ∧ vsP.all monoB = true := by decide +kernel
/-- the grains of what is drawn -/
theorem dr_gr {v : V3} {al : I} {d e : Int} (hv : OneP v) (ha : AlP al) (hd : u64w d) (he : u64w e) (gx : GrI (55, some 0) v.x) (gy : GrI (55, some 0) v.y) (h : (drR KkR (envR v al d e)).2 = 0) :
    GrI (820, some 0) (drR KkR (envR v al d e)).1.x ∧ GrI (820, some 0) (drR KkR (envR v al d e)).1.y ∧ GrI (820, some 0) (drR KkR (envR v al d e)).1.z := by
  have hu := unI_U d hd.1 hd.2
  have hw := unI_U e he.1 he.2
  have c1 := cosM_in (unI e).lo (unI e).hi
  have s1 := sinM_in (unI e).lo (unI e).hi
  have gd := unI_gr d hd.1 hd.2
  have ge := unI_gr e he.1 he.2
  obtain ⟨gs, gc⟩ := sc_gr hw.lo (by have := hw.rt; have := hw.hi; grind) (by have := hw.lo; have := hw.rt; grind) hw.hi ge.lo ge.hi
  have iU : In1 (unI d) := ⟨q_le.1 (by rw [mone_q]; have := hu.lo; grind), q_le.1 (by rw [one_q]; exact hu.hi), q_le.1 hu.rt⟩
  have gz : GrI (7, some 0) v.z := big_G (1 / 128) hv.up (q_le.2 hv.z.rt) (by rw [pw_7]; grind) (by have := q_le.2 hv.z.hi; rwa [one_q] at this) (by grind)
  have ga : GrI (5, some 0) al := big_G (1 / 32) ha.lo ha.rt (by rw [pw_5]; grind) ha.hi (by grind)
  have env := env_G (g := drG0) (v := envR v al d e) (by
    intro p hp
    simp only [drG0, envR, drEnv, List.zip_cons_cons, List.zip_nil_right, List.mem_cons, List.not_mem_nil, or_false] at hp
    rcases hp with rfl | rfl | rfl | rfl | rfl | rfl | rfl
    · exact gr_in gd iU
    · exact gr_in gc c1
    · exact gr_in gs s1
    · exact ga
    · exact gz
    · exact gy
    · exact gx) rfl
  have ok := drG_ok
  simp only [Bool.and_eq_true] at ok
  obtain ⟨⟨⟨⟨⟨a1, a2⟩, a3⟩, b1⟩, b2⟩, b3⟩ := ok
  have up : ∀ {g : List (Nat × Option Nat)} {i : Nat} {a : I}, nG g i = true → GrI (g.getD i g0) a → GrI (820, some 0) a := by
    intro g i a hn hg
    have hn := of_decide_eq_true hn
    exact ⟨hg.lo.mono hn.1 fun u hu => ⟨0, hn.2, Nat.zero_le _⟩, hg.hi.mono hn.1 fun u hu => ⟨0, hn.2, Nat.zero_le _⟩⟩
  rcases drR_0 h with ⟨_, k, e⟩ | ⟨k, e⟩
  · rw [e]
    have G := grRun_ok env (eval_chain k).2
    exact ⟨up a1 (G _), up a2 (G _), up a3 (G _)⟩
  · rw [e]
    have G := grRun_ok env (eval_chain k).2
    exact ⟨up b1 (G _), up b2 (G _), up b3 (G _)⟩
end Bu
