/- vec.Unit, plain: the unit vector of a triple above the horizon. VndfTurned, plain: what is rounded has one answer. Two lines of interval arithmetic side by side: each row of the one is a row of the other, or that turned; found by looking. What mirrors of a leaf send, plain: no errors, the same both ways, points. micro, fresnel, lambert by the reckoner. micro.Look and what it calls as known functions. micro.Look as a known function. pairs.Value, by the reckoner and the table. pairs: runs of Right, look and the four methods. pairs: look, the four methods, densities: runs. pairs: look and the methods as known functions of a leaf. pairs.Value as a known function. pairs.Value and pairs.Density as known functions. pairs.Density as a known function. -/
import Derived.Test.YtgjohjgmlleebaaGreatM10
namespace Bu
set_option linter.all false
open Rx Go

theorem sqrt_mk {a : I} (hr : rt a = true) (h0 : 0 ≤ a.lo.q) : ∃ r, cSqrt qSqrt 0 a = (r, 0) ∧ rt r = true ∧ SqD r.lo a.lo ∧ SqU r.hi a.hi := by
  have l := rt_le hr
  obtain ⟨x, e1, s1⟩ := (qSqrt_gen h0).1
  obtain ⟨y, e2, s2⟩ := (qSqrt_gen (a := a.hi) (by grind)).2
  refine ⟨⟨x, y⟩, ?_, sq_rt (r := ⟨x, y⟩) hr h0 s1 s2, s1, s2⟩
  unfold cSqrt
  rw [e1, e2, ends_mk rfl rfl, ask_mk hr rfl]
theorem quot_bd {x y d M : Rat} (hd : 0 < d) (hy : d ≤ y) (h1 : -(M * d) ≤ x) (h2 : x ≤ M * d) (hM : 0 ≤ M) : -M ≤ x / y ∧ x / y ≤ M := by
  have y0 : 0 < y := by grind
  have e : x / y * y = x := Rat.div_mul_cancel (by grind)
  have k := Rat.mul_nonneg hM (show 0 ≤ y - d by grind)
  generalize x / y = q at *
  constructor
  · refine Rat.le_of_mul_le_mul_right (c := y) ?_ y0
    grind
  · refine Rat.le_of_mul_le_mul_right (c := y) ?_ y0
    grind
theorem div_mk {a b : I} (ha : rt a = true) (hb : rt b = true) (h0 : 0 < b.lo.q) (h1 : -(9007199254740992 * b.lo.q) ≤ a.lo.q) (h2 : a.hi.q ≤ 9007199254740992 * b.lo.q) :
    ∃ r, cDiv pDiv 0 a b = (r, 0) ∧ AllR r (a.lo.q / b.lo.q) (a.lo.q / b.hi.q) (a.hi.q / b.lo.q) (a.hi.q / b.hi.q) := by
  have la := rt_le ha; have lb := rt_le hb
  have z : hasB b F.zero = false := by
    unfold hasB
    rw [hb, Bool.true_and, Bool.and_eq_false_iff, decide_eq_false_iff_not, decide_eq_false_iff_not]
    left; intro k; have := q_le.2 k; rw [q_zero] at this; grind
  obtain ⟨c, hc⟩ := low_ex
  obtain ⟨d, hd⟩ := big_ex
  have p1 := quot_bd (x := a.lo.q) (y := b.lo.q) h0 Rat.le_refl h1 (by grind) (by grind)
  have p2 := quot_bd (x := a.lo.q) (y := b.hi.q) h0 lb h1 (by grind) (by grind)
  have p3 := quot_bd (x := a.hi.q) (y := b.lo.q) h0 Rat.le_refl (by grind) h2 (by grind)
  have p4 := quot_bd (x := a.hi.q) (y := b.hi.q) h0 lb (by grind) h2 (by grind)
  obtain ⟨r, e, hr, _⟩ := all_has (div_four (a := a) hb z) (c := c) (d := d) (by rw [hc]; exact p1.1) (by rw [hc]; exact p2.1) (by rw [hc]; exact p3.1) (by rw [hc]; exact p4.1) (by rw [hd]; exact p1.2) (by rw [hd]; exact p2.2) (by rw [hd]; exact p3.2) (by rw [hd]; exact p4.2)
  refine ⟨r, ?_, hr⟩
  unfold cDiv
  rw [z, cond_false, e, ask_mk (by rw [ha, hb]; rfl) rfl]
theorem fl_ex (m : Int) (s : Nat) (hm : m.natAbs ≤ 9007199254740992) (hs : s ≤ 900) (w : Rat) (hw : ((2 ^ s : Nat) : Rat) * w = m) : ∃ c : F, c.q = w := by
  obtain ⟨c, hc⟩ := grid m hm s (by omega) (by omega)
  refine ⟨c, ?_⟩
  have hp := pow_q s
  generalize ((2 ^ s : Nat) : Rat) = p at *
  have : (c.q - w) * p = 0 := by grind
  rcases Rat.mul_eq_zero.1 this with e | e <;> grind
/-- a direction above the horizon -/
structure OneP (v : V3) : Prop where
  x : In1 v.x
  y : In1 v.y
  z : In1 v.z
  up : 1 / 128 ≤ v.z.lo.q
theorem pt_in {x : F} (h : N1 x) : In1 (pt x) := ⟨q_le.1 (by rw [mone_q]; exact h.lo), q_le.1 (by rw [one_q]; exact h.hi), Int.le_refl _⟩
theorem un_okE {x y z : F} (hx : N1 x) (hy : N1 y) (z0 : 1 / 64 ≤ z.q) (z1 : z.q ≤ 1) : (unE KkR x y z).2 = 0 ∧ OneP (unV KkR x y z) := by
  have hz : N1 z := ⟨by grind, z1⟩
  have ix := pt_in hx; have iy := pt_in hy; have iz := pt_in hz
  obtain ⟨qx, e1, a1, m1⟩ := sqr_in ix
  obtain ⟨qy, e2, a2, m2⟩ := sqr_in iy
  obtain ⟨s1, e3, d3, u3⟩ := cAdd_ok a1.sm a2.sm
  obtain ⟨qz, e4, a4, m4⟩ := sqr_in iz
  have l1 := a1.lo; have h1 := a1.hi; have r1 := a1.rt; have l2 := a2.lo; have h2 := a2.hi; have r2 := a2.rt
  obtain ⟨f2, g2⟩ := fl_ex 2 0 (by decide) (by decide) 2 (by decide +kernel)
  obtain ⟨f4, g4⟩ := fl_ex 4 0 (by decide) (by decide) 4 (by decide +kernel)
  have s1lo : 0 ≤ s1.lo.q := dn_nn d3 (by grind)
  have s1hi : s1.hi.q ≤ 2 := by have := u3.bot f2 (by rw [g2]; grind); rwa [g2] at this
  have s1rt : s1.lo.q ≤ s1.hi.q := by have := d3.le; have := u3.ge; grind
  have s1sm : Sm s1 := ⟨by grind, s1rt, by grind⟩
  obtain ⟨s2, e5, d5, u5⟩ := cAdd_ok s1sm a4.sm
  obtain ⟨f12, g12⟩ := fl_ex 1 12 (by decide) (by decide) (1 / 4096) (by decide +kernel)
  obtain ⟨f6, g6⟩ := fl_ex 1 6 (by decide) (by decide) (1 / 64) (by decide +kernel)
  obtain ⟨f7, g7⟩ := fl_ex 1 7 (by decide) (by decide) (1 / 128) (by decide +kernel)
  -- the square of z
  have qzlo : 1 / 4096 ≤ qz.lo.q := by
    obtain ⟨r, e, d, _⟩ := cSqr_ok iz.sm
    have e' : cSqr dMul 0 (pt z) = (qz, 0) := e4
    rw [e'] at e
    obtain rfl : qz = r := congrArg Prod.fst e
    have b := bare_ends (a := pt z) (decide_eq_true (Int.le_refl _))
    have hb : (bareI (pt z)).lo.q * (bareI (pt z)).lo.q = z.q * z.q := by
      rcases b.1 with k | k
      · have a := k.lo; have c := k.hi
        have : (bareI (pt z)).lo.q = z.q := by have : (pt z).lo.q = z.q := rfl; have : (pt z).hi.q = z.q := rfl; grind
        rw [this]
      · have a := k.lo; have c := k.hi
        have : -(bareI (pt z)).lo.q = z.q := by have : (pt z).lo.q = z.q := rfl; have : (pt z).hi.q = z.q := rfl; grind
        grind
    rw [hb] at d
    rw [← g12]
    refine d.top f12 ?_
    rw [g12]
    have := sq_bd (x := 1 / 64) (m := z.q) (by grind) z0
    grind
  have l4 := a4.lo; have h4 := a4.hi; have r4 := a4.rt
  have s2lo : 1 / 4096 ≤ s2.lo.q := by have := d5.top f12 (by rw [g12]; grind); rwa [g12] at this
  have s2hi : s2.hi.q ≤ 4 := by have := u5.bot f4 (by rw [g4]; grind); rwa [g4] at this
  have s2rt : s2.lo.q ≤ s2.hi.q := by have := d5.le; have := u5.ge; grind
  obtain ⟨nn, e6, r6, d6, u6⟩ := sqrt_mk (rt_q s2rt) (by grind)
  have nlo : 1 / 64 ≤ nn.lo.q := by have := d6.top f6 (by rw [g6]; grind) (by rw [g6]; grind); rwa [g6] at this
  have nhi : nn.hi.q ≤ 2 := by have := u6.bot f2 (by rw [g2]; grind) (by rw [g2]; grind); rwa [g2] at this
  have nrt := rt_le r6
  have pr : ∀ w : F, rt (pt w) = true := fun w => decide_eq_true (Int.le_refl _)
  have bd : ∀ {w : F}, N1 w → -(9007199254740992 * nn.lo.q) ≤ (pt w).lo.q ∧ (pt w).hi.q ≤ 9007199254740992 * nn.lo.q := by
    intro w hw
    have a := hw.lo; have b := hw.hi
    have : (pt w).lo.q = w.q := rfl
    have : (pt w).hi.q = w.q := rfl
    constructor <;> grind
  obtain ⟨dx, e7, _⟩ := div_mk (pr x) r6 (by grind) (bd hx).1 (bd hx).2
  obtain ⟨dy, e8, _⟩ := div_mk (pr y) r6 (by grind) (bd hy).1 (bd hy).2
  obtain ⟨dz, e9, h9⟩ := div_mk (pr z) r6 (by grind) (bd hz).1 (bd hz).2
  have hE : unE KkR x y z = ([withI dz, dz, withI dy, dy, withI dx, dx, nn, s2, qz, s1, qy, qx, pt z, pt y, pt x], 0) := by
    unfold unE unP
    refine (eval_cons (r := pt x) (e' := 0) ?_).trans ?_
    · exact rfl
    refine (eval_cons (r := pt y) (e' := 0) ?_).trans ?_
    · exact rfl
    refine (eval_cons (r := pt z) (e' := 0) ?_).trans ?_
    · exact rfl
    refine (eval_cons (r := qx) (e' := 0) ?_).trans ?_
    · exact e1
    refine (eval_cons (r := qy) (e' := 0) ?_).trans ?_
    · exact e2
    refine (eval_cons (r := s1) (e' := 0) ?_).trans ?_
    · exact e3
    refine (eval_cons (r := qz) (e' := 0) ?_).trans ?_
    · exact e4
    refine (eval_cons (r := s2) (e' := 0) ?_).trans ?_
    · exact e5
    refine (eval_cons (r := nn) (e' := 0) ?_).trans ?_
    · exact e6
    refine (eval_cons (r := dx) (e' := 0) ?_).trans ?_
    · exact e7
    refine (eval_cons (r := withI dx) (e' := 0) ?_).trans ?_
    · exact rfl
    refine (eval_cons (r := dy) (e' := 0) ?_).trans ?_
    · exact e8
    refine (eval_cons (r := withI dy) (e' := 0) ?_).trans ?_
    · exact rfl
    refine (eval_cons (r := dz) (e' := 0) ?_).trans ?_
    · exact e9
    refine (eval_cons (r := withI dz) (e' := 0) ?_).trans ?_
    · exact rfl
    rfl
  have hV : unV KkR x y z = ⟨withI dx, withI dy, withI dz⟩ := by unfold unV; rw [hE]; rfl
  rw [hV]
  refine ⟨by rw [hE], withI_in _, withI_in _, withI_in _, ?_⟩
  -- z by the length
  have pz : (pt z).lo.q = z.q ∧ (pt z).hi.q = z.q := ⟨rfl, rfl⟩
  have low : ∀ {w : Rat}, nn.lo.q ≤ w → w ≤ nn.hi.q → 1 / 128 ≤ z.q / w := by
    intro w w0 w1
    have e : z.q / w * w = z.q := Rat.div_mul_cancel (by grind)
    generalize z.q / w = t at *
    apply Rat.not_lt.1
    intro g
    have := Rat.mul_pos (show 0 < 1 / 128 - t by grind) (show 0 < w by grind)
    grind
  have dzlo : 1 / 128 ≤ dz.lo.q := by
    rw [← g7]
    have a := low Rat.le_refl nrt
    have b := low nrt Rat.le_refl
    refine h9.top ?_ ?_ ?_ ?_ <;> (rw [g7]; simp only [pz.1, pz.2]; assumption)
  have zn : z.q ≤ nn.hi.q := by
    refine sq_le' (by grind) (by grind) ?_
    have a := u6.ge
    have b := (m4 z.q ⟨Rat.le_refl, Rat.le_refl⟩).hi
    have c := u5.ge
    grind
  have top : z.q / nn.hi.q ≤ 1 := by
    have e : z.q / nn.hi.q * nn.hi.q = z.q := Rat.div_mul_cancel (by grind)
    generalize z.q / nn.hi.q = t at *
    apply Rat.not_lt.1
    intro g
    have := Rat.mul_pos (show 0 < t - 1 by grind) (show 0 < nn.hi.q by grind)
    grind
  have mz : Mem dz (z.q / nn.hi.q) := ⟨by have := h9.lo.2.1; simpa only [pz.1] using this, by have := h9.hi.2.1; simpa only [pz.1] using this⟩
  have b := low nrt Rat.le_refl
  show 1 / 128 ≤ (withI dz).lo.q
  rw [withI_eq mz (by grind) top]
  exact Rat.le_trans dzlo (mxF_q _ _).1
theorem un_ok {x y z : F} (hx : N1 x) (hy : N1 y) (z0 : 1 / 64 ≤ z.q) (z1 : z.q ≤ 1) : OneP (unV KkR x y z) := (un_okE hx hy z0 z1).2
theorem un_B {x y z : F} (hx : N1 x) (hy : N1 y) (z0 : 1 / 64 ≤ z.q) (z1 : z.q ≤ 1) : unB x y z = true := by
  have kt : decide (tiny64.k ≤ d64.k) = true := by decide +kernel
  have kh : decide (one64.k ≤ huge64.k) = true := by decide +kernel
  have kd : d64.q * 64 = 1 := q_of' (n := 1) (s := 6) (by decide +kernel) rfl
  have k1 := of_decide_eq_true kt
  have k2 := of_decide_eq_true kh
  have ab : ∀ {w : F}, N1 w → w.abs.k ≤ one64.k := by
    intro w hw
    have a := q_le.1 (show w.q ≤ one64.q by rw [one_q]; exact hw.hi)
    have b := q_le.1 (show mone64.q ≤ w.q by rw [mone_q]; exact hw.lo)
    have c : mone64.k = -one64.k := by decide +kernel
    show ((w.k.natAbs : Nat) : Int) ≤ _
    omega
  have z2 : d64.k ≤ z.abs.k := by
    have a := q_le.1 (show d64.q ≤ z.q by grind)
    show _ ≤ ((z.k.natAbs : Nat) : Int)
    omega
  have a := ab hx; have b := ab hy; have c := ab (w := z) ⟨by grind, z1⟩
  unfold unB mostF
  have e : (mxF (mxF x.abs y.abs) z.abs).k = max (max x.abs.k y.abs.k) z.abs.k := by rw [mxF_k, mxF_k]
  rw [e, Bool.and_eq_true, Bool.not_eq_true', Bool.not_eq_true', decide_eq_false_iff_not, decide_eq_false_iff_not]
  constructor <;> omega
end Bu
namespace Bu
set_option linter.all false
open Rx Go

theorem Dn.one {r s : F} {v : Rat} (h : Dn r v) (k : Dn s v) : r = s := by
  have a := h.top _ k.le; have b := k.top _ h.le
  exact q_inj (by grind)
theorem Up.one {r s : F} {v : Rat} (h : Up r v) (k : Up s v) : r = s := by
  have a := h.bot _ k.ge; have b := k.bot _ h.ge
  exact q_inj (by grind)
theorem RD.one {v : Rat} {p s : F × Int} (h : RD v p) (k : RD v s) : p.2 = s.2 ∧ (p.2 = 0 → p.1 = s.1) := by
  rcases h with ⟨a, b⟩ | ⟨a, b⟩ <;> rcases k with ⟨c, d⟩ | ⟨c, d⟩
  · exact ⟨by rw [a, c], fun _ => b.one d⟩
  · exact absurd (d p.1) (by have := b.le; grind)
  · exact absurd (b s.1) (by have := d.le; grind)
  · exact ⟨by rw [a, c], fun h => by rw [a] at h; exact absurd h (by decide)⟩
theorem RU.one {v : Rat} {p s : F × Int} (h : RU v p) (k : RU v s) : p.2 = s.2 ∧ (p.2 = 0 → p.1 = s.1) := by
  rcases h with ⟨a, b⟩ | ⟨a, b⟩ <;> rcases k with ⟨c, d⟩ | ⟨c, d⟩
  · exact ⟨by rw [a, c], fun _ => b.one d⟩
  · exact absurd (d p.1) (by have := b.ge; grind)
  · exact absurd (b s.1) (by have := d.ge; grind)
  · exact ⟨by rw [a, c], fun h => by rw [a] at h; exact absurd h (by decide)⟩
theorem SqD.one {r s a : F} (h : SqD r a) (k : SqD s a) : r = s := by
  have a := h.top _ k.nn k.le; have b := k.top _ h.nn h.le
  exact q_inj (by grind)
theorem SqU.one {r s a : F} (h : SqU r a) (k : SqU s a) : r = s := by
  have a := h.bot _ k.nn k.ge; have b := k.bot _ h.nn h.ge
  exact q_inj (by grind)
/-- the other way round, turned -/
theorem Dn.turn {r : F} {v : Rat} (h : Dn r v) : Up r.neg (-v) := by
  refine ⟨by rw [q_neg]; have := h.le; grind, fun c hc => ?_⟩
  have := h.top c.neg (by rw [q_neg]; grind)
  rw [q_neg] at this ⊢; grind
theorem Up.turn {r : F} {v : Rat} (h : Up r v) : Dn r.neg (-v) := by
  refine ⟨by rw [q_neg]; have := h.ge; grind, fun c hc => ?_⟩
  have := h.bot c.neg (by rw [q_neg]; grind)
  rw [q_neg] at this ⊢; grind
theorem I.one {a b : I} (h1 : a.lo = b.lo) (h2 : a.hi = b.hi) : a = b := by cases a; cases b; simp only at h1 h2; subst h1; subst h2; rfl
theorem AllR.one {r u : I} {p q s t p' q' s' t' : Rat} (h : AllR r p q s t) (k : AllR u p' q' s' t')
    (hp : (p' = p ∨ p' = q ∨ p' = s ∨ p' = t) ∧ (q' = p ∨ q' = q ∨ q' = s ∨ q' = t) ∧ (s' = p ∨ s' = q ∨ s' = s ∨ s' = t) ∧ (t' = p ∨ t' = q ∨ t' = s ∨ t' = t))
    (hk : (p = p' ∨ p = q' ∨ p = s' ∨ p = t') ∧ (q = p' ∨ q = q' ∨ q = s' ∨ q = t') ∧ (s = p' ∨ s = q' ∨ s = s' ∨ s = t') ∧ (t = p' ∨ t = q' ∨ t = s' ∨ t = t')) : r = u := by
  obtain ⟨a1, a2, a3, a4⟩ := h.lo; obtain ⟨b1, b2, b3, b4⟩ := h.hi
  obtain ⟨c1, c2, c3, c4⟩ := k.lo; obtain ⟨d1, d2, d3, d4⟩ := k.hi
  have e1 : ∀ x, (x = p ∨ x = q ∨ x = s ∨ x = t) → r.lo.q ≤ x ∧ x ≤ r.hi.q := by rintro x (rfl | rfl | rfl | rfl) <;> exact ⟨by assumption, by assumption⟩
  have e2 : ∀ x, (x = p' ∨ x = q' ∨ x = s' ∨ x = t') → u.lo.q ≤ x ∧ x ≤ u.hi.q := by rintro x (rfl | rfl | rfl | rfl) <;> exact ⟨by assumption, by assumption⟩
  obtain ⟨p1, p2, p3, p4⟩ := hp; obtain ⟨k1, k2, k3, k4⟩ := hk
  have f1 := k.top (e1 _ p1).1 (e1 _ p2).1 (e1 _ p3).1 (e1 _ p4).1
  have f2 := h.top (e2 _ k1).1 (e2 _ k2).1 (e2 _ k3).1 (e2 _ k4).1
  have g1 := k.bot (e1 _ p1).2 (e1 _ p2).2 (e1 _ p3).2 (e1 _ p4).2
  have g2 := h.bot (e2 _ k1).2 (e2 _ k2).2 (e2 _ k3).2 (e2 _ k4).2
  exact I.one (q_inj (by grind)) (q_inj (by grind))
theorem turn_q (a : I) : (turnI a).lo.q = -a.hi.q ∧ (turnI a).hi.q = -a.lo.q := ⟨q_neg _, q_neg _⟩
theorem AllR.turn {r : I} {p q s t : Rat} (h : AllR r p q s t) : AllR (turnI r) (-p) (-q) (-s) (-t) := by
  obtain ⟨a1, a2, a3, a4⟩ := h.lo; obtain ⟨b1, b2, b3, b4⟩ := h.hi
  obtain ⟨e1, e2⟩ := turn_q r
  refine ⟨⟨by grind, by grind, by grind, by grind⟩, ⟨by grind, by grind, by grind, by grind⟩, ?_, ?_⟩
  · rcases h.hiE with k | k | k | k
    · exact .inl k.turn
    · exact .inr (.inl k.turn)
    · exact .inr (.inr (.inl k.turn))
    · exact .inr (.inr (.inr k.turn))
  · rcases h.loE with k | k | k | k
    · exact .inl k.turn
    · exact .inr (.inl k.turn)
    · exact .inr (.inr (.inl k.turn))
    · exact .inr (.inr (.inr k.turn))
section
variable {v w : List I} {i j i' j' : Nat} {r u : I}
end
end Bu
namespace Bu
set_option linter.all false
open Rx Go

/-- all rows tell what they do, of right arguments -/
def ChainR : List Bu.Op → List I → List I → Prop
  | [], v, u => u = v
  | o :: l, v, u => ∃ r, (Fact o v r ∧ ArgsRt o v) ∧ ChainR l (r :: v) u
theorem eval_chainR : ∀ {l : List Bu.Op} {v : List I} {e : Int}, (evalK KkR l v e).2 = 0 → ChainR l v (evalK KkR l v e).1
  | [], _, _, _ => rfl
  | o :: l, v, e, h => by
    have h2 := eval_chainR (l := l) h
    obtain ⟨g1, g3, g2⟩ := step_fact (eval_chain (l := l) h).1
    exact ⟨_, ⟨g2, g3⟩, h2⟩
theorem chain_drop : ∀ {l : List Bu.Op} {v u : List I}, ChainR l v u → u.drop l.length = v
  | [], v, u, h => h
  | o :: l, v, u, ⟨r, _, h⟩ => by
    have := chain_drop h
    rw [show (o :: l).length = l.length + 1 from rfl, ← List.drop_drop, this]; rfl
theorem chain_at : ∀ {l : List Bu.Op} {v u : List I}, ChainR l v u → ∀ {p : Nat} {o : Bu.Op}, l.reverse[p]? = some o → Fact o (u.drop (p + 1)) (gt u p) ∧ ArgsRt o (u.drop (p + 1))
  | [], _, _, _, p, o, h => by simp at h
  | o :: l, v, u, ⟨r, f, h⟩, p, o', hp => by
    rw [List.reverse_cons] at hp
    by_cases k : p < l.reverse.length
    · rw [List.getElem?_append_left k] at hp
      exact chain_at h hp
    · rw [List.getElem?_append_right (by omega)] at hp
      have hl : l.reverse.length = l.length := List.length_reverse
      have d := chain_drop h
      have e : p - l.reverse.length = 0 := by
        cases c : p - l.reverse.length with
        | zero => rfl
        | succ n => rw [c] at hp; simp at hp
      rw [e] at hp
      have pe : p = l.length := by omega
      subst pe
      have eo : o = o' := by simpa using hp
      subst eo
      have e1 : gt u l.length = r := by
        have : (u.drop l.length)[0]? = some r := by rw [d]; rfl
        rw [List.getElem?_drop] at this
        unfold gt
        rw [List.getD_eq_getElem?_getD, show l.length = l.length + 0 from rfl, this]; rfl
      have e2 : u.drop (l.length + 1) = v := by rw [← List.drop_drop, d]; rfl
      rw [e1, e2]; exact f
end Bu
namespace Bu
set_option linter.all false
open Rx Go

theorem one_box {v : V3} (h : OneP v) : InB v.x b11 ∧ InB v.y b11 ∧ InB v.z bzz := by
  have e : bzz.lo.q = 1 / 128 := by have : bzz.lo.q * 128 = 1 := q_of' (n := 1) (s := 7) (by decide +kernel) rfl; grind
  exact ⟨⟨h.x.lo, h.x.hi, h.x.rt⟩, ⟨h.y.lo, h.y.hi, h.y.rt⟩, ⟨q_le.1 (by rw [e]; exact h.up), h.z.hi, h.z.rt⟩⟩
end Bu
namespace Bu
set_option linter.all false
open Rx Go

/-- value, or error: of a line's place -/
def lnR (E : List I × Int) (i : Nat) : I × Int := bif neB E.2 then (I.zero, E.2) else (gt E.1 i, 0)
def fdK (K : Kk) (c n : I) : List I × Int := evalK K frD [c, n] 0
def u01O (c : I) : Obs := [(decide (c.hi.k ≤ one64.k), true), (decide (z64.k ≤ c.lo.k), true), (rt c, true)]
def bndO (c : I) (l h : F) : Obs := [(decide (c.hi.k ≤ h.k), true), (decide (l.k ≤ c.lo.k), true), (rt c, true)]
def kHf (f : V3 → V3 → List I × Int) : List SV → Dec → Option (SV × Dec × Obs)
  | [.agg [.fl a, .fl b, .fl c, .fl d, .fl e, .fl f'], .agg [.fl g, .fl h, .fl i, .fl j, .fl k, .fl l]], ds =>
    some (.tup [.agg [.fl (lnR (f ⟨⟨a, b⟩, ⟨c, d⟩, ⟨e, f'⟩⟩ ⟨⟨g, h⟩, ⟨i, j⟩, ⟨k, l⟩⟩) 0).1.lo, .fl (lnR (f ⟨⟨a, b⟩, ⟨c, d⟩, ⟨e, f'⟩⟩ ⟨⟨g, h⟩, ⟨i, j⟩, ⟨k, l⟩⟩) 0).1.hi], .agg [.fl (lnR (f ⟨⟨a, b⟩, ⟨c, d⟩, ⟨e, f'⟩⟩ ⟨⟨g, h⟩, ⟨i, j⟩, ⟨k, l⟩⟩) 3).1.lo, .fl (lnR (f ⟨⟨a, b⟩, ⟨c, d⟩, ⟨e, f'⟩⟩ ⟨⟨g, h⟩, ⟨i, j⟩, ⟨k, l⟩⟩) 3).1.hi], .si .i64 (f ⟨⟨a, b⟩, ⟨c, d⟩, ⟨e, f'⟩⟩ ⟨⟨g, h⟩, ⟨i, j⟩, ⟨k, l⟩⟩).2], ds, dirO ⟨⟨a, b⟩, ⟨c, d⟩, ⟨e, f'⟩⟩ ++ dirO ⟨⟨g, h⟩, ⟨i, j⟩, ⟨k, l⟩⟩)
  | _, _ => none
def kI2 (f : I → I → I × Int) (o : I → I → Obs) : List SV → Dec → Option (SV × Dec × Obs)
  | [.agg [.fl a, .fl b], .agg [.fl c, .fl d]], ds => some (.tup [.agg [.fl (f ⟨a, b⟩ ⟨c, d⟩).1.lo, .fl (f ⟨a, b⟩ ⟨c, d⟩).1.hi], .si .i64 (f ⟨a, b⟩ ⟨c, d⟩).2], ds, o ⟨a, b⟩ ⟨c, d⟩)
  | _, _ => none
end Bu
namespace Go.Proofs.YtgjohjgmlleebaaGreat
set_option linter.all false
open Go.RowKit Bu Rx

theorem fdRun (K : Kk) (c n : I) (b : Bool) : valR ((run Tryz.prog EG (lookO (OCL K)) 80).1 27 [ivS c, ivS n] [] (some [true, true, false, false, false, false, b])) = some (.tup (bif b then [ivS I.zero, .si .i64 (fdK K c n).2] else [ivS (gt (fdK K c n).1 0), .i .i64 0]), some [], [(neB (fdK K c n).2, b), (decide (four64.k < n.hi.k), false), (decide (n.lo.k < minIo.k), false), (decide (one64.k < c.hi.k), false), (decide (c.lo.k < z64.k), false), (rt n, true), (rt c, true)]) := by cases b <;> kernel_rfl
end Go.Proofs.YtgjohjgmlleebaaGreat
namespace Bu
set_option linter.all false
open Rx Go

theorem ob_c {c b : Bool} {ob : Obs} (h : c = b) (k : ObsOk ob) : ObsOk ((c, b) :: ob) := fun q hq => by
  rcases List.mem_cons.1 hq with rfl | hq
  · exact h
  · exact k q hq
theorem ob_n : ObsOk [] := fun _ h => by cases h
theorem ob_a {a b : Obs} (h : ObsOk a) (k : ObsOk b) : ObsOk (a ++ b) := fun q hq => by
  rcases List.mem_append.1 hq with hq | hq
  · exact h q hq
  · exact k q hq
theorem ob_l {a b : Obs} (h : ObsOk (a ++ b)) : ObsOk a := fun q hq => h q (List.mem_append_left _ hq)
theorem ob_r {a b : Obs} (h : ObsOk (a ++ b)) : ObsOk b := fun q hq => h q (List.mem_append_right _ hq)
theorem ob_h {c b : Bool} {ob : Obs} (h : ObsOk ((c, b) :: ob)) : c = b := h (c, b) (List.mem_cons_self ..)
theorem ob_t {c b : Bool} {ob : Obs} (h : ObsOk ((c, b) :: ob)) : ObsOk ob := fun q hq => h q (List.mem_cons_of_mem _ hq)
theorem not_lt {a b : Int} (h : decide (a ≤ b) = true) : decide (b < a) = false := decide_eq_false (by have := of_decide_eq_true h; omega)
def fdO (c n : I) : Obs := bndO n minIo four64 ++ u01O c
structure Gl4 where
  ln : I
  hf : I
  v : I
  d : I
def Gl4.sv (g : Gl4) : SV := .agg [.fl g.ln.lo, .fl g.ln.hi, .fl g.hf.lo, .fl g.hf.hi, .fl g.v.lo, .fl g.v.hi, .fl g.d.lo, .fl g.d.hi]
def Gl4.zero : Gl4 := ⟨I.zero, I.zero, I.zero, I.zero⟩
def glO (v u : V3) (al : I) : Obs := alO al ++ (dirO v ++ dirO u)
end Bu
namespace Go.Proofs.YtgjohjgmlleebaaGreat
set_option linter.all false
open Go.RowKit Bu Rx

theorem I2_of {g : FuncId} {O : OracleF} (hO : OracleOk Tryz.prog O) {n : Nat} {E : I → I → List I × Int} {i : Nat} {o o' : I → I → Obs} {l : Bool → List Bool} (run : ∀ c d b, valR ((run Tryz.prog EG O n).1 g [ivS c, ivS d] [] (some (l b))) = some (.tup (bif b then [ivS I.zero, .si .i64 (E c d).2] else [ivS (gt (E c d).1 i), .i .i64 0]), some [], (neB (E c d).2, b) :: o' c d))
    (ho : ∀ c d, ObsOk (o c d) → ObsOk (o' c d)) : PlainOk Tryz.prog g (kI2 (fun c d => lnR (E c d) i) o) := by
  intro args ds x ds' ob h hob
  unfold kI2 at h
  split at h
  · rename_i a b c d
    simp only [Option.some.injEq, Prod.mk.injEq] at h
    obtain ⟨rfl, _, rfl⟩ := h
    refine ⟨[.agg #[.float .f64 a.b, .float .f64 b.b], .agg #[.float .f64 c.b, .float .f64 d.b]], _, rfl, rfl, fun w => ?_⟩
    have r := run ⟨a, b⟩ ⟨c, d⟩ (neB (E ⟨a, b⟩ ⟨c, d⟩).2)
    unfold lnR
    cases k : neB (E ⟨a, b⟩ ⟨c, d⟩).2 <;> rw [k] at r <;> exact calls_of_val goodG hO n r (ob_c rfl (ho _ _ hob)) rfl rfl w
  · cases h
theorem fdG : PlainOk Tryz.prog 27 (kI2 (fun c n => lnR (fdK KkR c n) 0) fdO) := I2_of oracleCL (l := fun b => [true, true, false, false, false, false, b]) (fdRun KkR) fun c n h => by
  have a := ob_l h; have b := ob_r h
  exact ob_c (not_lt (ob_h a)) (ob_c (not_lt (ob_h (ob_t a))) (ob_c (not_lt (ob_h b)) (ob_c (not_lt (ob_h (ob_t b))) (ob_c (ob_h (ob_t (ob_t a))) (ob_c (ob_h (ob_t (ob_t b))) ob_n)))))
end Go.Proofs.YtgjohjgmlleebaaGreat
namespace Bu
set_option linter.all false
open Rx Go

theorem dir_z {v : V3} (h : ObsOk (dirO v)) : ObsOk (u01O v.z) := ob_c (ob_h h) (ob_c (ob_h (ob_t h)) (ob_c (ob_h (ob_t (ob_t (ob_t (ob_t (ob_t (ob_t h))))))) ob_n))
end Bu
namespace Go.Proofs.YtgjohjgmlleebaaGreat
set_option linter.all false
open Go.RowKit Bu Rx

end Go.Proofs.YtgjohjgmlleebaaGreat
namespace Rx
set_option linter.all false
open Go Go.RowKit

def stO (P : Program) (E : ExtF) (O : OracleF) (n : Nat) (c : Code) (s : St) : St := match (run P E O n).2 c s with | some (_, s') => s' | none => s
def opsOf : Code → Array Oper | .region _ ops _ => ops | _ => #[]
end Rx
namespace Go.Proofs.YtgjohjgmlleebaaGreat
set_option linter.all false
open Go.RowKit Bu Rx

def nodeS (k : Int) (f : Nat → F) : SV := .agg [.i .u8 k, .fl (f 0), .fl (f 1), .fl (f 2), .fl (f 3), .fl (f 4), .fl (f 5), .fl (f 6), .fl (f 7), .fl (f 8), .fl (f 9), .fl (f 10), .fl (f 11), .fl (f 12), .fl (f 13), .fl (f 14), .fl (f 15), .i .i64 0, .i .i64 0]
def kLk (o : SV → Obs) : List SV → Dec → Option (SV × Dec × Obs)
  | [x], ds => some (.i .i64 0, ds, o x)
  | _, _ => none
def kLf (g : SV → I × Int) (o : SV → Obs) : List SV → Dec → Option (SV × Dec × Obs)
  | [x], ds => some (.tup [.agg [.fl (g x).1.lo, .fl (g x).1.hi], .si .i64 (g x).2], ds, o x)
  | _, _ => none
structure Lfs where
  lk : SV → Obs
  g : SV → I × Int
  o : SV → Obs
/-- look, and the one method -/
noncomputable def OVl (L : Lfs) (m : Nat) : OracleF := lookO [(85, plainO (kLk L.lk)), (m, plainO (kLf L.g L.o))]
noncomputable def vC : Code := bodyOf Tryz.prog 142
noncomputable def vR0 : Code := seqL vC
noncomputable def vR1 : Code := seqL (seqR vC)
noncomputable def vX : Code := seqL (seqR (seqR vC))
noncomputable def vR5 : Code := seqL (seqR (seqR (seqR vC)))
noncomputable def vR6 : Code := seqL (seqR (seqR (seqR (seqR vC))))
section
variable (L : Lfs) (g : Nat) (k : Int) (f : Nat → F) (c : Int) (v u : V3) (r : Nat)
def vArgs : List SV := [nodeS k f, .si .i64 c, v.sv, u.sv]
noncomputable def vs0 : St := ⟨vArgs k f c v u ++ List.replicate 30 (.tup []), [], none, []⟩
noncomputable def vs1 : St := stO Tryz.prog EG (OVl L g) 60 vR0 (vs0 k f c v u)
noncomputable def vs2 : St := stO Tryz.prog EG (OVl L g) 60 vR1 (vs1 L g k f c v u)
noncomputable def vs3 : St := stO Tryz.prog EG (OVl L g) 60 vX (vs2 L g k f c v u)
end
noncomputable def o5 (i : Nat) : Oper := (opsOf vR5).toList.getD i default
noncomputable def o6 (i : Nat) : Oper := (opsOf vR6).toList.getD i default
theorem l5 : (opsOf vR5).toList = o5 0 :: o5 1 :: o5 2 :: o5 3 :: o5 4 :: (opsOf vR5).toList.drop 5 := by kernel_rfl
theorem l6 : (opsOf vR6).toList = (opsOf vR6).toList.take 3 ++ o6 3 :: (opsOf vR6).toList.drop 4 := by kernel_rfl
theorem g5 : (o5 0).guard = none ∧ (o5 1).guard = none ∧ (o5 2).guard = none ∧ (o5 3).guard = none ∧ (o5 4).guard = none ∧ (o6 3).guard = none := ⟨by kernel_rfl, by kernel_rfl, by kernel_rfl, by kernel_rfl, by kernel_rfl, by kernel_rfl⟩
theorem d5 : (o5 0).dst = some 24 ∧ (o5 1).dst = none ∧ (o5 2).dst = none ∧ (o5 3).dst = none ∧ (o5 4).dst = none ∧ (o6 3).dst = some 29 := ⟨by kernel_rfl, by kernel_rfl, by kernel_rfl, by kernel_rfl, by kernel_rfl, by kernel_rfl⟩
theorem p5 : (o5 0).op = Op.makeMap 225 none ∧ (o5 1).op = Op.insert 225 (.tmp 24) (.const (.int .u8 1)) (.func 191) ∧ (o5 2).op = Op.insert 225 (.tmp 24) (.const (.int .u8 2)) (.func 192) ∧ (o5 3).op = Op.insert 225 (.tmp 24) (.const (.int .u8 3)) (.func 193) ∧ (o5 4).op = Op.insert 225 (.tmp 24) (.const (.int .u8 4)) (.func 194) ∧ (o6 3).op = Op.lookup 225 (.tmp 26) (.tmp 28) false := ⟨by kernel_rfl, by kernel_rfl, by kernel_rfl, by kernel_rfl, by kernel_rfl, by kernel_rfl⟩
attribute [irreducible] o5 o6 vC vR0 vR1 vX vR5 vR6
end Go.Proofs.YtgjohjgmlleebaaGreat
namespace Bu
set_option linter.all false
open Rx Go

def q3E (f b : Nat → F) (i : Nat) : Bool := decide ((f i).k = (b i).k) && (decide ((f (i + 1)).k = (b (i + 1)).k) && (decide ((f (i + 2)).k = (b (i + 2)).k) && true))
def eqNd (f b : Nat → F) : Bool := q3E f b 0 && (q3E f b 3 && (q3E f b 6 && (q3E f b 9 && (decide ((f 12).k = (b 12).k) && (decide ((f 13).k = (b 13).k) && (decide ((f 14).k = (b 14).k) && (decide ((f 15).k = (b 15).k) && ((0 : Int) == 0 && ((0 : Int) == 0 && true)))))))))
/-- but for the fields of a kind: 0 -/
def bare1 (f : Nat → F) (i : Nat) : F := bif Nat.blt i 3 then f i else z64
def bare2 (f : Nat → F) (i : Nat) : F := bif Nat.blt i 3 || Nat.beq i 12 then f i else z64
def bare3 (f : Nat → F) (i : Nat) : F := bif Nat.beq i 13 || Nat.beq i 14 then f i else z64
def bare4 (f : Nat → F) (i : Nat) : F := bif Nat.beq i 13 || (Nat.blt 5 i && Nat.blt i 12) then f i else z64
def rngO (x l h : F) (o : Obs) : Obs := (decide (h.k < x.k), false) :: (decide (x.k < l.k), false) :: o
def rtO1 (f : Nat → F) : Obs := (eqNd f (bare1 f), true) :: rngO (f 2) z64 one64 (rngO (f 1) z64 one64 (rngO (f 0) z64 one64 []))
def rtO2 (f : Nat → F) : Obs := (eqNd f (bare2 f), true) :: rngO (f 12) z64 one64 (rngO (f 2) z64 one64 (rngO (f 1) z64 one64 (rngO (f 0) z64 one64 [])))
def rtO3 (f : Nat → F) : Obs := (eqNd f (bare3 f), true) :: rngO (f 14) minIo four64 (rngO (f 13) minA one64 [])
def rtO4 (f : Nat → F) : Obs := (eqNd f (bare4 f), true) :: rngO (f 11) minMt maxMt (rngO (f 10) minMt maxMt (rngO (f 9) minMt maxMt (rngO (f 8) minMt maxMt (rngO (f 7) minMt maxMt (rngO (f 6) minMt maxMt (rngO (f 13) minA one64 []))))))
/-- a leaf that may be -/
def rtOb (k : Int) (f : Nat → F) : Obs := match k with
  | 1 => rtO1 f
  | 2 => rtO2 f
  | 3 => rtO3 f
  | 4 => rtO4 f
  | _ => [(false, true)]
end Bu
namespace Go.Proofs.YtgjohjgmlleebaaGreat
set_option linter.all false
open Go.RowKit Bu Rx

end Go.Proofs.YtgjohjgmlleebaaGreat
namespace Bu
set_option linter.all false
open Rx Go

def pF (x : F) : I := ⟨x, x⟩
end Bu
namespace Go.Proofs.YtgjohjgmlleebaaGreat
set_option linter.all false
open Go.RowKit Bu Rx

/-- a node, out of its cells -/
def ndF (a0 a1 a2 a3 a4 a5 a6 a7 a8 a9 a10 a11 a12 a13 a14 a15 : F) (i : Nat) : F := [a0, a1, a2, a3, a4, a5, a6, a7, a8, a9, a10, a11, a12, a13, a14, a15].getD i z64
end Go.Proofs.YtgjohjgmlleebaaGreat
namespace Bu
set_option linter.all false
open Rx Go

/-- a leaf: kind, numbers, channel, directions -/
structure Lf where
  k : Int
  f : Nat → F
  c : Int
  v : V3
  u : V3
end Bu
namespace Go.Proofs.YtgjohjgmlleebaaGreat
set_option linter.all false
open Go.RowKit Bu Rx

def etaF (f : Nat → F) : Nat → F := ndF (f 0) (f 1) (f 2) (f 3) (f 4) (f 5) (f 6) (f 7) (f 8) (f 9) (f 10) (f 11) (f 12) (f 13) (f 14) (f 15)
def lkOl (l : Lf) : Obs := dirO l.u ++ (dirO l.v ++ ([(decide (l.c < 3), true), (decide (0 ≤ l.c), true)] ++ rtOb l.k (etaF l.f)))
end Go.Proofs.YtgjohjgmlleebaaGreat
namespace Bu
set_option linter.all false
open Rx Go

end Bu
namespace Go.Proofs.YtgjohjgmlleebaaGreat
set_option linter.all false
open Go.RowKit Bu Rx

def chO (l : Lf) : Obs := [(decide (l.c < 3), true), (decide (0 ≤ l.c), true)]
def olL (l : Lf) : Obs := chO l ++ u01O (pF (l.f l.c.toNat))
def olO (l : Lf) : Obs := chO l ++ (bndO (pF (l.f l.c.toNat)) z64 one64 ++ (bndO (pF (l.f 12)) z64 one64 ++ (dirO l.v ++ dirO l.u)))
def olP (l : Lf) : Obs := glO l.v l.u (pF (l.f 13)) ++ bndO (pF (l.f 14)) minIo four64
def olM (l : Lf) : Obs := chO l ++ (glO l.v l.u (pF (l.f 13)) ++ (bndO (pF (l.f (6 + l.c.toNat))) minMt maxMt ++ bndO (pF (l.f (9 + l.c.toNat))) minMt maxMt))
end Go.Proofs.YtgjohjgmlleebaaGreat
namespace Go.Proofs.YtgjohjgmlleebaaGreat
set_option linter.all false
open Go.RowKit Bu Rx

section
variable (L : Lfs) (k : Int) (f : Nat → F) (c : Int) (v u : V3) (r : Nat)
end
def vlO (l : Lf) : Obs := lkOl l ++ match l.k with
  | 1 => olL l
  | 2 => olO l
  | 3 => olP l
  | 4 => olM l
  | _ => [(false, true)]
end Go.Proofs.YtgjohjgmlleebaaGreat
namespace Go.Proofs.YtgjohjgmlleebaaGreat
set_option linter.all false
open Go.RowKit Bu Rx

def dnO4 (l : Lf) : Obs := lkOl l ++ match l.k with
  | 1 => u01O l.v.z
  | 2 => u01O l.v.z
  | 3 => glO l.v l.u (pF (l.f 13))
  | 4 => glO l.v l.u (pF (l.f 13))
  | _ => [(false, true)]
end Go.Proofs.YtgjohjgmlleebaaGreat
