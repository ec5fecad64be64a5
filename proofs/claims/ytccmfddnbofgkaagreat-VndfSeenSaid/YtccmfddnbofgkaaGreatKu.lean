/- VndfAlong, plain: all obligations. -/
import Derived.Test.YtccmfddnbofgkaaGreatKt
namespace Bu
set_option linter.all false
open Rx Go

theorem kept_in1 {a : I} (h : a.lo.q ≤ a.hi.q) : In1 (keptI a mone64 one64) := by
  have k := q_le.1 h
  have l : mone64.k ≤ one64.k := q_le.1 (by rw [mone_q, one_q]; grind)
  refine ⟨?_, ?_, ?_⟩ <;> simp only [keptI, mnF_k, mxF_k] <;> omega
theorem drB_n1 {X Y Z al sin cos A : I} {u : List I} (h : Chain drB [A, cos, sin, al, Z, Y, X] u) : In1 (gt u 2) ∧ In1 (gt u 1) := by
  obtain ⟨one, hone, none, hnone, sx, hsx, sy, hsy, n1, hn1, qx, hqx, qy, hqy, s1, hs1, qz, hqz, s2, hs2, nn, hnn, k, hk, wx, hwx, wy, hwy, wz, hwz, vx, hvx, vy, hvy, vz, hvz, ax, hax, ay, hay, q, hq, m, hm, ny, hny, d1, hd1, tx, htx, d2, hd2, ty, hty, tz, htz, bp1, hbp1, bq1, hbq1, bx, hbx, bp2, hbp2, bq2, hbq2, bY, hbY, bp3, hbp3, bq3, hbq3, bz, hbz, r, hr, al1, hal1, hf, hhf, o2, ho2, kk, hkk, aq, haq, left, hleft, omk, homk, mx, hmx, rt1, hrt1, m1, hm1, rs, hrs, m2, hm2, asd, hasd, sq2, hsq2, l2, hl2, mx2, hmx2, up, hup, jx1, hjx1, jy1, hjy1, jz1, hjz1, jx2, hjx2, jy2, hjy2, jz2, hjz2, gx, hgx, gy, hgy, gz, hgz, jx3, hjx3, jy3, hjy3, jz3, hjz3, hx, hhx, hy, hhy, hz, hhz, ex, hex, ey, hey, ez, hez, n2, hn2, fx, hfx, fy, hfy, s3, hs3, fz, hfz, s4, hs4, nn2, hnn2, k2, hk2, rx, hrx, ry, hry, rz, hrz, nx, hnx, nny, hnny, nz, hnz, hend⟩ := h
  have ux : gt u 2 = nx := by rw [hend]; rfl
  have uy : gt u 1 = nny := by rw [hend]; rfl
  rw [ux, uy]
  have e1 : nx = keptI rx mone64 one64 := hnx
  have e2 : nny = keptI ry mone64 one64 := hnny
  rw [e1, e2]
  exact ⟨kept_in1 (rt_le hrx.rt), kept_in1 (rt_le hry.rt)⟩
theorem drA_p1 {v : List I} (h : (evalK KkR drA v 0).2 = 0) : (evalK KkR drP1 v 0).2 = 0 := by
  have e : drA = drP1 ++ drA.drop drP1.length := by
    have := List.take_append_drop drP1.length drA
    rw [show drA.take drP1.length = drP1 from rfl] at this
    exact this.symm
  rw [e, evalK_app] at h
  apply Classical.byContradiction
  intro k
  exact k (by rw [eval_kept k] at h; exact h)
section
variable {a b c d e : Int}
theorem alO1_ok (ha : wN32 a = true) (hb : wN32 b = true) (hc : wN32 c = true) (hd : u64w d) (he : u64w e) : obsB (alO1 WR a b c d e) = true :=
  ob2 (vo_ok (oneV_ok a b c) al_one hd he) (oneO_ok ha hb hc)
theorem al_meets {v : V3} (hv : OneP v) (hd : u64w d) (he : u64w e) (h0 : (drR KkR (envR v (pt one64) d e)).2 = 0)
    (hm : z64.k < (gt (evalK KkR alP1 [cosM atR (unI e).lo (unI e).hi, unI d, (drR KkR (envR v (pt one64) d e)).1.y, (drR KkR (envR v (pt one64) d e)).1.x, v.y, v.x] 0).1 0).lo.k) :
    (evalK KkR alP [cosM atR (unI e).lo (unI e).hi, unI d, (drR KkR (envR v (pt one64) d e)).1.y, (drR KkR (envR v (pt one64) d e)).1.x, v.y, v.x] 0).2 = 0 ∧
    meetsB (gt (evalK KkR alP [cosM atR (unI e).lo (unI e).hi, unI d, (drR KkR (envR v (pt one64) d e)).1.y, (drR KkR (envR v (pt one64) d e)).1.x, v.y, v.x] 0).1 0)
      (gt (evalK KkR alP [cosM atR (unI e).lo (unI e).hi, unI d, (drR KkR (envR v (pt one64) d e)).1.y, (drR KkR (envR v (pt one64) d e)).1.x, v.y, v.x] 0).1 8) = true := by
  have hu := unI_U d hd.1 hd.2
  have c1 := cosM_in (unI e).lo (unI e).hi
  have zq : z64.q = 0 := zero0_q
  have hn : (evalK KkR drB (envR v (pt one64) d e) 0).2 = 0 → (drR KkR (envR v (pt one64) d e)).1 = drV KkR drB (envR v (pt one64) d e) → In1 (drR KkR (envR v (pt one64) d e)).1.x ∧ In1 (drR KkR (envR v (pt one64) d e)).1.y := by
    intro h1 h2
    rw [h2]
    exact drB_n1 (eval_chain h1).2
  have hcase := drR_0 h0
  generalize hnn : (drR KkR (envR v (pt one64) d e)).1 = n at *
  obtain ⟨r, t, xx, yy, ss, m, eP, d1, r6, d6, u6, m2, r1, ms, hal⟩ := al_rows (nx := n.x) (ny := n.y) hv.x hv.y hu c1
  rw [eP] at hm
  have m0 : 0 < m.lo.q := by rw [← zq]; exact q_lt.2 hm
  have mX : Mem v.x v.x.lo.q := ⟨Rat.le_refl, q_le.2 hv.x.rt⟩
  have mY : Mem v.y v.y.lo.q := ⟨Rat.le_refl, q_le.2 hv.y.rt⟩
  have mS := ms _ _ mX mY
  have P0 : 0 < v.x.lo.q * v.x.lo.q + v.y.lo.q * v.y.lo.q := by
    have := Rat.mul_pos m0 m0; have := d6.le; have := mS.lo; grind
  have hB : (evalK KkR drB (envR v (pt one64) d e) 0).2 = 0 ∧ n = drV KkR drB (envR v (pt one64) d e) := by
    rcases hcase with ⟨k1, k2, _⟩ | k
    · exfalso
      have hc := (eval_chain (drA_p1 k2)).2
      have := p1_q (rt_q (a := pt one64) Rat.le_refl) (in1_rt hv.x) (in1_rt hv.y) (in1_rt hv.z) (by have := hv.up; grind) hc one_mem mX mY (by grind)
      have z := q_le.2 (Int.le_of_eq (of_decide_eq_true k1))
      rw [zq] at z
      have : (drQ KkR (envR v (pt one64) d e)).hi.q ≤ 0 := z
      unfold drQ at this
      have h : 0 < (gt (evalK KkR drP1 (envR v (pt one64) d e) 0).1 0).hi.q := by assumption
      grind
    · exact k
  obtain ⟨i1, i2⟩ := hn hB.1 hB.2
  obtain ⟨R, co, si, h⟩ := dr_ab hv hd he hB.1
  rw [← hB.2] at h
  obtain ⟨al, eE, eA, eT, hA⟩ := hal m0 i1 i2
  refine ⟨by rw [eE], ?_⟩
  rw [eA, eT]
  obtain ⟨rm1, rm2, rm3⟩ := h.rm
  have er : R.r.lo.q = r.lo.q := by
    have a := d1.top _ rm2 h.T.r.1.le
    have b := h.T.r.1.top _ d1.nn d1.le
    grind
  have cc : co * co ≤ 1 := by have := h.cs; have := sq_nn si; grind
  have hL : R.r.lo.q * co * (R.r.lo.q * co) ≤ 1 := by
    have := Rat.mul_nonneg (sq_nn R.r.lo.q) (show 0 ≤ 1 - co * co by grind)
    grind
  refine along_meets (L := R.r.lo.q * co) (abs1 (b := 0) (v := 0) (by grind)).1 (m2 _ _ ⟨by rw [er]; exact Rat.le_refl, by rw [er]; exact rt_le r1⟩ h.mc) fun ep he0 _ => ?_
  obtain ⟨hx, hy, k1, k2, k3⟩ := h.along he0
  have lo := d6.le; have hi := u6.ge
  obtain ⟨w, w1, w2, w3, w4⟩ := near_root (v := v.x.lo.q * v.x.lo.q + v.y.lo.q * v.y.lo.q) m0 (rt_le r6) (by have := mS.lo; grind) (by have := mS.hi; grind) he0
  obtain ⟨g, g0, g1, g2, g3⟩ := k3 w (by grind) w3 w4
  exact ⟨g, by rw [← g0]; exact hA _ _ _ _ _ mX mY k1 k2 ⟨w1, w2⟩, g1, g2, g3⟩
theorem alO2_ok (ha : wN32 a = true) (hb : wN32 b = true) (hc : wN32 c = true) (hd : u64w d) (he : u64w e) {n : V3} {r : Int} {s : Bool} (h0 : r = 0)
    (hs : decide ((gt (evalK WR.K alP1 (alEnv WR (oneV WR a b c) n d e) 0).1 0).lo.k ≤ z64.k) = s) : obsB (alO2 WR a b c d e n r s) = true := by
  subst h0
  exact obsB_yes hs (obsB_yes (decide_eq_true hd) (obsB_yes (unI_in e he.1 he.2) (obsB_yes (decide_eq_true he) (obsB_yes (by decide) (obsB_yes (by decide) (alO1_ok ha hb hc hd he))))))
theorem alO3_ok (ha : wN32 a = true) (hb : wN32 b = true) (hc : wN32 c = true) (hd : u64w d) (he : u64w e) {n : V3} {r : Int} (h0 : r = 0)
    (hs : decide ((gt (evalK WR.K alP1 (alEnv WR (oneV WR a b c) n d e) 0).1 0).lo.k ≤ z64.k) = false)
    (h1 : (alE WR (oneV WR a b c) n d e).2 = 0) (h2 : WR.me (gt (alE WR (oneV WR a b c) n d e).1 0) (gt (alE WR (oneV WR a b c) n d e).1 8) = true) : obsB (alO3 WR a b c d e n r) = true :=
  obsB_yes h2 (obsB_yes (decide_eq_true h1) (obsB_yes (decide_eq_true h0) (alO2_ok ha hb hc hd he h0 hs)))
end
end Bu
