/- VndfAlong, plain: the case with a leaning direction. -/
import Derived.Test.YtoafllcnnhhebaaGreatKr
namespace Bu
set_option linter.all false
open Rx Go

theorem dr_ab {v : V3} {d e : Int} (hv : OneP v) (hd : u64w d) (he : u64w e) (h : (evalK KkR drB (envR v (pt one64) d e) 0).2 = 0) :
    ∃ R c s, AB v.x v.y v.z (sinM atR (unI e).lo (unI e).hi) (cosM atR (unI e).lo (unI e).hi) (unI d) R (drV KkR drB (envR v (pt one64) d e)) v.x.lo.q v.y.lo.q v.z.lo.q c s := by
  have hc := (eval_chain h).2
  have hu := unI_U d hd.1 hd.2
  have c1 := cosM_in (unI e).lo (unI e).hi
  have s1 := sinM_in (unI e).lo (unI e).hi
  obtain ⟨R, T⟩ := drB_tells (rt_q (a := pt one64) Rat.le_refl) (in1_rt hv.x) (in1_rt hv.y) (in1_rt hv.z) (by have := hv.up; grind) (rt_q hu.rt) (in1_rt s1) (in1_rt c1) hc
  obtain ⟨s, c, ms, mc, k⟩ := (circ_M (unI_in e he.1 he.2)).low
  exact ⟨R, c, s, ⟨T, ⟨Rat.le_refl, q_le.2 hv.x.rt⟩, ⟨Rat.le_refl, q_le.2 hv.y.rt⟩, ⟨Rat.le_refl, q_le.2 hv.z.rt⟩, by have := hv.up; grind, mc, ms, k, by have := hu.hi; have := hu.rt; grind, rt_q hu.rt⟩⟩
/-- a direction that leans draws no case of its own -/
theorem p1_q {X Y Z al sin cos A : I} {u : List I} (hal : rt al = true) (hX : rt X = true) (hY : rt Y = true) (hZ : rt Z = true) (hZ0 : 0 ≤ Z.lo.q) (h : Chain drP1 [A, cos, sin, al, Z, Y, X] u) {a x y : Rat} (ha : Mem al a) (hx : Mem X x) (hy : Mem Y y) (hp : 0 < a * x * (a * x) + a * y * (a * y)) :
    0 < (gt u 0).hi.q := by
  obtain ⟨one, hone, none, hnone, sx, hsx, sy, hsy, n1, hn1, qx, hqx, qy, hqy, s1, hs1, qz, hqz, s2, hs2, nn, hnn, k, hk, wx, hwx, wy, hwy, wz, hwz, vx, hvx, vy, hvy, vz, hvz, ax, hax, ay, hay, q, hq, hend⟩ := h
  have zq : z64.q = 0 := zero0_q
  have e1 := p_mul hsx ha hx
  have e2 := p_mul hsy ha hy
  have mz : Mem Z Z.lo.q := ⟨Rat.le_refl, rt_le hZ⟩
  have es := p_add hs2 (p_add hs1 (p_sqr hqx e1) (p_sqr hqy e2)) (p_sqr hqz mz)
  have nnQ := p_sqrt hnn es
  have nr : nn.lo.q ≤ nn.hi.q := sq_le' nnQ.1 nnQ.2.2.2 (by have := nnQ.2.1; have := nnQ.2.2.1; grind)
  have n0 : 0 < nn.lo.q := by
    rcases no_zero (rt_q nr) hk.1 with e | e
    · exact e
    · have := nnQ.1; grind
  have sz := sq_nn Z.lo.q
  have hn : 0 < nn.hi.q := by grind
  have ek := p_div hk (p_num hn1 one_q) (show Mem nn nn.hi.q from ⟨nr, Rat.le_refl⟩)
  have k1 := nnQ.2.2.1
  have b1 := clip1 (x := a * x) hn (by have := sq_nn (a * y); grind)
  have b2 := clip1 (x := a * y) hn (by have := sq_nn (a * x); grind)
  have x1 := p_kept hvx (p_mul hwx ek e1) (by rw [mone_q]; exact b1.1) (by rw [one_q]; exact b1.2)
  have y1 := p_kept hvy (p_mul hwy ek e2) (by rw [mone_q]; exact b2.1) (by rw [one_q]; exact b2.2)
  have qq := (p_add hq (p_sqr hax x1) (p_sqr hay y1)).hi
  have i0 : 0 < 1 / nn.hi.q := by rw [Rat.div_def, Rat.one_mul]; exact Rat.inv_pos.2 hn
  have pos := Rat.mul_pos (Rat.mul_pos i0 i0) hp
  have uq : gt u 0 = q := by rw [hend]; rfl
  rw [uq]
  generalize 1 / nn.hi.q = w at *
  grind
end Bu
