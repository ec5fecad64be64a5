/- vec.Unit, plain: the unit vector of a triple above the horizon. -/
import Derived.Test.YtccmfddnbofgkaaGreatKj
import Derived.Test.YtccmfddnbofgkaaGreatKk
namespace Bu
set_option linter.all false
open Rx Go

theorem sqrt_mk {a : I} (hr : rt a = true) (h0 : 0 ≤ a.lo.q) : ∃ r, cSqrt qSqrt 0 a = (r, 0) ∧ rt r = true ∧ SqD r.lo a.lo ∧ SqU r.hi a.hi := by
  have l := rt_le hr
  obtain ⟨x, e1, s1⟩ := (qSqrt_gen h0).1
  obtain ⟨y, e2, s2⟩ := (qSqrt_gen (a := a.hi) (by grind)).2
  refine ⟨⟨x, y⟩, ?_, sq_rt (r := ⟨x, y⟩) hr h0 s1 s2, s1, s2⟩
  unfold cSqrt
  rw [e1, e2, ends_mk rfl rfl, ask_mk hr rfl]
theorem quot_bd {x y d M : Rat} (hd : 0 < d) (hy : d ≤ y) (h1 : -(M * d) ≤ x) (h2 : x ≤ M * d) (hM : 0 ≤ M) : -M ≤ x / y ∧ x / y ≤ M := by
  have y0 : 0 < y := by grind
  have e : x / y * y = x := Rat.div_mul_cancel (by grind)
  have k := Rat.mul_nonneg hM (show 0 ≤ y - d by grind)
  generalize x / y = q at *
  constructor
  · refine Rat.le_of_mul_le_mul_right (c := y) ?_ y0
    grind
  · refine Rat.le_of_mul_le_mul_right (c := y) ?_ y0
    grind
theorem div_mk {a b : I} (ha : rt a = true) (hb : rt b = true) (h0 : 0 < b.lo.q) (h1 : -(9007199254740992 * b.lo.q) ≤ a.lo.q) (h2 : a.hi.q ≤ 9007199254740992 * b.lo.q) :
    ∃ r, cDiv pDiv 0 a b = (r, 0) ∧ AllR r (a.lo.q / b.lo.q) (a.lo.q / b.hi.q) (a.hi.q / b.lo.q) (a.hi.q / b.hi.q) := by
  have la := rt_le ha; have lb := rt_le hb
  have z : hasB b F.zero = false := by
    unfold hasB
    rw [hb, Bool.true_and, Bool.and_eq_false_iff, decide_eq_false_iff_not, decide_eq_false_iff_not]
    left; intro k; have := q_le.2 k; rw [q_zero] at this; grind
  obtain ⟨c, hc⟩ := low_ex
  obtain ⟨d, hd⟩ := big_ex
  have p1 := quot_bd (x := a.lo.q) (y := b.lo.q) h0 Rat.le_refl h1 (by grind) (by grind)
  have p2 := quot_bd (x := a.lo.q) (y := b.hi.q) h0 lb h1 (by grind) (by grind)
  have p3 := quot_bd (x := a.hi.q) (y := b.lo.q) h0 Rat.le_refl (by grind) h2 (by grind)
  have p4 := quot_bd (x := a.hi.q) (y := b.hi.q) h0 lb (by grind) h2 (by grind)
  obtain ⟨r, e, hr, _⟩ := all_has (div_four (a := a) hb z) (c := c) (d := d) (by rw [hc]; exact p1.1) (by rw [hc]; exact p2.1) (by rw [hc]; exact p3.1) (by rw [hc]; exact p4.1) (by rw [hd]; exact p1.2) (by rw [hd]; exact p2.2) (by rw [hd]; exact p3.2) (by rw [hd]; exact p4.2)
  refine ⟨r, ?_, hr⟩
  unfold cDiv
  rw [z, cond_false, e, ask_mk (by rw [ha, hb]; rfl) rfl]
theorem fl_ex (m : Int) (s : Nat) (hm : m.natAbs ≤ 9007199254740992) (hs : s ≤ 900) (w : Rat) (hw : ((2 ^ s : Nat) : Rat) * w = m) : ∃ c : F, c.q = w := by
  obtain ⟨c, hc⟩ := grid m hm s (by omega) (by omega)
  refine ⟨c, ?_⟩
  have hp := pow_q s
  generalize ((2 ^ s : Nat) : Rat) = p at *
  have : (c.q - w) * p = 0 := by grind
  rcases Rat.mul_eq_zero.1 this with e | e <;> grind
/-- a direction above the horizon -/
structure OneP (v : V3) : Prop where
  x : In1 v.x
  y : In1 v.y
  z : In1 v.z
  up : 1 / 128 ≤ v.z.lo.q
theorem pt_in {x : F} (h : N1 x) : In1 (pt x) := ⟨q_le.1 (by rw [mone_q]; exact h.lo), q_le.1 (by rw [one_q]; exact h.hi), Int.le_refl _⟩
theorem un_okE {x y z : F} (hx : N1 x) (hy : N1 y) (z0 : 1 / 64 ≤ z.q) (z1 : z.q ≤ 1) : (unE KkR x y z).2 = 0 ∧ OneP (unV KkR x y z) := by
  have hz : N1 z := ⟨by grind, z1⟩
  have ix := pt_in hx; have iy := pt_in hy; have iz := pt_in hz
  obtain ⟨qx, e1, a1, m1⟩ := sqr_in ix
  obtain ⟨qy, e2, a2, m2⟩ := sqr_in iy
  obtain ⟨s1, e3, d3, u3⟩ := cAdd_ok a1.sm a2.sm
  obtain ⟨qz, e4, a4, m4⟩ := sqr_in iz
  have l1 := a1.lo; have h1 := a1.hi; have r1 := a1.rt; have l2 := a2.lo; have h2 := a2.hi; have r2 := a2.rt
  obtain ⟨f2, g2⟩ := fl_ex 2 0 (by decide) (by decide) 2 (by decide +kernel)
  obtain ⟨f4, g4⟩ := fl_ex 4 0 (by decide) (by decide) 4 (by decide +kernel)
  have s1lo : 0 ≤ s1.lo.q := dn_nn d3 (by grind)
  have s1hi : s1.hi.q ≤ 2 := by have := u3.bot f2 (by rw [g2]; grind); rwa [g2] at this
  have s1rt : s1.lo.q ≤ s1.hi.q := by have := d3.le; have := u3.ge; grind
  have s1sm : Sm s1 := ⟨by grind, s1rt, by grind⟩
  obtain ⟨s2, e5, d5, u5⟩ := cAdd_ok s1sm a4.sm
  obtain ⟨f12, g12⟩ := fl_ex 1 12 (by decide) (by decide) (1 / 4096) (by decide +kernel)
  obtain ⟨f6, g6⟩ := fl_ex 1 6 (by decide) (by decide) (1 / 64) (by decide +kernel)
  obtain ⟨f7, g7⟩ := fl_ex 1 7 (by decide) (by decide) (1 / 128) (by decide +kernel)
  -- the square of z
  have qzlo : 1 / 4096 ≤ qz.lo.q := by
    obtain ⟨r, e, d, _⟩ := cSqr_ok iz.sm
    have e' : cSqr dMul 0 (pt z) = (qz, 0) := e4
    rw [e'] at e
    obtain rfl : qz = r := congrArg Prod.fst e
    have b := bare_ends (a := pt z) (decide_eq_true (Int.le_refl _))
    have hb : (bareI (pt z)).lo.q * (bareI (pt z)).lo.q = z.q * z.q := by
      rcases b.1 with k | k
      · have a := k.lo; have c := k.hi
        have : (bareI (pt z)).lo.q = z.q := by have : (pt z).lo.q = z.q := rfl; have : (pt z).hi.q = z.q := rfl; grind
        rw [this]
      · have a := k.lo; have c := k.hi
        have : -(bareI (pt z)).lo.q = z.q := by have : (pt z).lo.q = z.q := rfl; have : (pt z).hi.q = z.q := rfl; grind
        grind
    rw [hb] at d
    rw [← g12]
    refine d.top f12 ?_
    rw [g12]
    have := sq_bd (x := 1 / 64) (m := z.q) (by grind) z0
    grind
  have l4 := a4.lo; have h4 := a4.hi; have r4 := a4.rt
  have s2lo : 1 / 4096 ≤ s2.lo.q := by have := d5.top f12 (by rw [g12]; grind); rwa [g12] at this
  have s2hi : s2.hi.q ≤ 4 := by have := u5.bot f4 (by rw [g4]; grind); rwa [g4] at this
  have s2rt : s2.lo.q ≤ s2.hi.q := by have := d5.le; have := u5.ge; grind
  obtain ⟨nn, e6, r6, d6, u6⟩ := sqrt_mk (rt_q s2rt) (by grind)
  have nlo : 1 / 64 ≤ nn.lo.q := by have := d6.top f6 (by rw [g6]; grind) (by rw [g6]; grind); rwa [g6] at this
  have nhi : nn.hi.q ≤ 2 := by have := u6.bot f2 (by rw [g2]; grind) (by rw [g2]; grind); rwa [g2] at this
  have nrt := rt_le r6
  have pr : ∀ w : F, rt (pt w) = true := fun w => decide_eq_true (Int.le_refl _)
  have bd : ∀ {w : F}, N1 w → -(9007199254740992 * nn.lo.q) ≤ (pt w).lo.q ∧ (pt w).hi.q ≤ 9007199254740992 * nn.lo.q := by
    intro w hw
    have a := hw.lo; have b := hw.hi
    have : (pt w).lo.q = w.q := rfl
    have : (pt w).hi.q = w.q := rfl
    constructor <;> grind
  obtain ⟨dx, e7, _⟩ := div_mk (pr x) r6 (by grind) (bd hx).1 (bd hx).2
  obtain ⟨dy, e8, _⟩ := div_mk (pr y) r6 (by grind) (bd hy).1 (bd hy).2
  obtain ⟨dz, e9, h9⟩ := div_mk (pr z) r6 (by grind) (bd hz).1 (bd hz).2
  have hE : unE KkR x y z = ([withI dz, dz, withI dy, dy, withI dx, dx, nn, s2, qz, s1, qy, qx, pt z, pt y, pt x], 0) := by
    unfold unE unP
    refine (eval_cons (r := pt x) (e' := 0) ?_).trans ?_
    · exact rfl
    refine (eval_cons (r := pt y) (e' := 0) ?_).trans ?_
    · exact rfl
    refine (eval_cons (r := pt z) (e' := 0) ?_).trans ?_
    · exact rfl
    refine (eval_cons (r := qx) (e' := 0) ?_).trans ?_
    · exact e1
    refine (eval_cons (r := qy) (e' := 0) ?_).trans ?_
    · exact e2
    refine (eval_cons (r := s1) (e' := 0) ?_).trans ?_
    · exact e3
    refine (eval_cons (r := qz) (e' := 0) ?_).trans ?_
    · exact e4
    refine (eval_cons (r := s2) (e' := 0) ?_).trans ?_
    · exact e5
    refine (eval_cons (r := nn) (e' := 0) ?_).trans ?_
    · exact e6
    refine (eval_cons (r := dx) (e' := 0) ?_).trans ?_
    · exact e7
    refine (eval_cons (r := withI dx) (e' := 0) ?_).trans ?_
    · exact rfl
    refine (eval_cons (r := dy) (e' := 0) ?_).trans ?_
    · exact e8
    refine (eval_cons (r := withI dy) (e' := 0) ?_).trans ?_
    · exact rfl
    refine (eval_cons (r := dz) (e' := 0) ?_).trans ?_
    · exact e9
    refine (eval_cons (r := withI dz) (e' := 0) ?_).trans ?_
    · exact rfl
    rfl
  have hV : unV KkR x y z = ⟨withI dx, withI dy, withI dz⟩ := by unfold unV; rw [hE]; rfl
  rw [hV]
  refine ⟨by rw [hE], withI_in _, withI_in _, withI_in _, ?_⟩
  -- z by the length
  have pz : (pt z).lo.q = z.q ∧ (pt z).hi.q = z.q := ⟨rfl, rfl⟩
  have low : ∀ {w : Rat}, nn.lo.q ≤ w → w ≤ nn.hi.q → 1 / 128 ≤ z.q / w := by
    intro w w0 w1
    have e : z.q / w * w = z.q := Rat.div_mul_cancel (by grind)
    generalize z.q / w = t at *
    apply Rat.not_lt.1
    intro g
    have := Rat.mul_pos (show 0 < 1 / 128 - t by grind) (show 0 < w by grind)
    grind
  have dzlo : 1 / 128 ≤ dz.lo.q := by
    rw [← g7]
    have a := low Rat.le_refl nrt
    have b := low nrt Rat.le_refl
    refine h9.top ?_ ?_ ?_ ?_ <;> (rw [g7]; simp only [pz.1, pz.2]; assumption)
  have zn : z.q ≤ nn.hi.q := by
    refine sq_le' (by grind) (by grind) ?_
    have a := u6.ge
    have b := (m4 z.q ⟨Rat.le_refl, Rat.le_refl⟩).hi
    have c := u5.ge
    grind
  have top : z.q / nn.hi.q ≤ 1 := by
    have e : z.q / nn.hi.q * nn.hi.q = z.q := Rat.div_mul_cancel (by grind)
    generalize z.q / nn.hi.q = t at *
    apply Rat.not_lt.1
    intro g
    have := Rat.mul_pos (show 0 < t - 1 by grind) (show 0 < nn.hi.q by grind)
    grind
  have mz : Mem dz (z.q / nn.hi.q) := ⟨by have := h9.lo.2.1; simpa only [pz.1] using this, by have := h9.hi.2.1; simpa only [pz.1] using this⟩
  have b := low nrt Rat.le_refl
  show 1 / 128 ≤ (withI dz).lo.q
  rw [withI_eq mz (by grind) top]
  exact Rat.le_trans dzlo (mxF_q _ _).1
theorem un_ok {x y z : F} (hx : N1 x) (hy : N1 y) (z0 : 1 / 64 ≤ z.q) (z1 : z.q ≤ 1) : OneP (unV KkR x y z) := (un_okE hx hy z0 z1).2
theorem un_B {x y z : F} (hx : N1 x) (hy : N1 y) (z0 : 1 / 64 ≤ z.q) (z1 : z.q ≤ 1) : unB x y z = true := by
  have kt : decide (tiny64.k ≤ d64.k) = true := by decide +kernel
  have kh : decide (one64.k ≤ huge64.k) = true := by decide +kernel
  have kd : d64.q * 64 = 1 := q_of' (n := 1) (s := 6) (by decide +kernel) rfl
  have k1 := of_decide_eq_true kt
  have k2 := of_decide_eq_true kh
  have ab : ∀ {w : F}, N1 w → w.abs.k ≤ one64.k := by
    intro w hw
    have a := q_le.1 (show w.q ≤ one64.q by rw [one_q]; exact hw.hi)
    have b := q_le.1 (show mone64.q ≤ w.q by rw [mone_q]; exact hw.lo)
    have c : mone64.k = -one64.k := by decide +kernel
    show ((w.k.natAbs : Nat) : Int) ≤ _
    omega
  have z2 : d64.k ≤ z.abs.k := by
    have a := q_le.1 (show d64.q ≤ z.q by grind)
    show _ ≤ ((z.k.natAbs : Nat) : Int)
    omega
  have a := ab hx; have b := ab hy; have c := ab (w := z) ⟨by grind, z1⟩
  unfold unB mostF
  have e : (mxF (mxF x.abs y.abs) z.abs).k = max (max x.abs.k y.abs.k) z.abs.k := by rw [mxF_k, mxF_k]
  rw [e, Bool.and_eq_true, Bool.not_eq_true', Bool.not_eq_true', decide_eq_false_iff_not, decide_eq_false_iff_not]
  constructor <;> omega
end Bu
