/- Packages fresnel, lambert, oren, micro, pairs: straight lines. What the laws of layer 13 ask. vndf.Draw, plain: what its rows tell where there is no error. vec.Unit, plain: the unit vector of a triple above the horizon. VndfTurned, plain: what is rounded has one answer. Two lines of interval arithmetic side by side: each row of the one is a row of the other, or that turned; found by looking. What mirrors of a leaf send, plain: no errors, the same both ways, points. -/
import Derived.Test.YtlhlcefkmhhmjaaGreatZ20
namespace Bu
set_option linter.all false
open Rx Go

def four64 : F := toF 4616189618054758400
def three64 : F := toF 4613937818241073152
def minIo : F := toF 4607463893776728064
def minMt : F := toF 4589168020290535424
def maxMt : F := toF 4625196817309499392
/-- of n, c -/
def frD : List Op := [.num (one64), .sqr 2, .sub 0 1, .sqr 3, .add 1 0, .sqrt 0, .sub 0 6, .add 1 7, .div 1 0, .sqr 0, .add 4 10, .mul 11 0, .sub 0 11, .sub 7 13, .mul 14 0, .add 0 14, .div 3 0, .sqr 0, .num (q2), .mul 0 9, .add 19 2, .mul 1 0, .kept z64 one64 0]
/-- of k, eta, c -/
def frC : List Op := [.num (q2), .sqr 1, .num (one64), .sub 0 1, .kept z64 one64 0, .sqr 6, .sqr 8, .sub 1 0, .sub 0 3, .sqr 0, .num (four64), .mul 5 4, .mul 1 0, .add 3 0, .sqrt 0, .add 0 6, .num (z64), .max 1 0, .mul 17 0, .sqrt 0, .add 5 18, .num (two64), .mul 0 2, .mul 0 23, .sub 3 0, .add 4 1, .div 1 0, .kept z64 one64 0, .mul 26 13, .sqr 24, .add 1 0, .mul 7 26, .sub 1 0, .add 2 1, .div 1 0, .mul 7 0, .kept z64 one64 0, .add 9 0, .mul 37 0]
/-- of X, Y, Z, U, V, W -/
def miH : List Op := [.add 5 2, .add 5 2, .add 5 2, .sqr 2, .sqr 2, .add 1 0, .sqr 3, .add 1 0, .sqrt 0, .num (q2), .mul 0 1, .kept z64 one64 0, .add 15 12, .div 0 4, .kept z64 one64 0]
/-- of Z, W, d, both, one -/
def miV : List Op := [.num (four64), .mul 3 2, .mul 1 6, .mul 0 6, .div 2 0, .mul 5 7, .mul 5 9, .div 1 0]
/-- of al, c, d -/
def gg2 : List Op := [.sqr 2, .num (one64), .sqr 3, .num (one64), .sub 0 1, .div 0 2, .num (q2), .num (one64), .mul 7 2, .add 1 0, .sqrt 0, .num (one64), .sub 1 0, .mul 6 0, .hid 0, .add 13 0, .sqr 16, .num (one64), .sub 0 1, .div 0 2, .num (q2), .num (one64), .mul 21 2, .add 1 0, .sqrt 0, .num (one64), .sub 1 0, .mul 6 0, .hid 0, .add 13 0, .num (one64), .div 0 1]
/-- of rho -/
def lbV : List Op := [.lit (PIc), .div 1 0]
def bz1 : I := ⟨z64, one64⟩
def b11 : I := ⟨mone64, one64⟩
def bzz : I := ⟨toF 4575657221408423936, one64⟩
end Bu
namespace Bu
set_option linter.all false
open Rx Go

def zI : I := pt (toF 0)
def upV : V3 := ⟨zI, zI, pt one64⟩
/-- a direction by numbers -/
def d64 : F := toF 4580160821035794432
end Bu
namespace Bu
set_option linter.all false
open Rx Go

theorem p_div {i j : Nat} {v : List I} {r : I} {x y : Rat} (h : Fact (.div i j) v r) (hx : Mem (gt v i) x) (hy : Mem (gt v j) y) : Mem r (x / y) := div_in hy.rt h.1 h.2 hx hy
end Bu
namespace Bu
set_option linter.all false
open Rx Go

theorem sqrt_mk {a : I} (hr : rt a = true) (h0 : 0 ≤ a.lo.q) : ∃ r, cSqrt qSqrt 0 a = (r, 0) ∧ rt r = true ∧ SqD r.lo a.lo ∧ SqU r.hi a.hi := by
  have l := rt_le hr
  obtain ⟨x, e1, s1⟩ := (qSqrt_gen h0).1
  obtain ⟨y, e2, s2⟩ := (qSqrt_gen (a := a.hi) (by grind)).2
  refine ⟨⟨x, y⟩, ?_, sq_rt (r := ⟨x, y⟩) hr h0 s1 s2, s1, s2⟩
  unfold cSqrt
  rw [e1, e2, ends_mk rfl rfl, ask_mk hr rfl]
theorem quot_bd {x y d M : Rat} (hd : 0 < d) (hy : d ≤ y) (h1 : -(M * d) ≤ x) (h2 : x ≤ M * d) (hM : 0 ≤ M) : -M ≤ x / y ∧ x / y ≤ M := by
  have y0 : 0 < y := by grind
  have e : x / y * y = x := Rat.div_mul_cancel (by grind)
  have k := Rat.mul_nonneg hM (show 0 ≤ y - d by grind)
  generalize x / y = q at *
  constructor
  · refine Rat.le_of_mul_le_mul_right (c := y) ?_ y0
    grind
  · refine Rat.le_of_mul_le_mul_right (c := y) ?_ y0
    grind
theorem div_mk {a b : I} (ha : rt a = true) (hb : rt b = true) (h0 : 0 < b.lo.q) (h1 : -(9007199254740992 * b.lo.q) ≤ a.lo.q) (h2 : a.hi.q ≤ 9007199254740992 * b.lo.q) :
    ∃ r, cDiv pDiv 0 a b = (r, 0) ∧ AllR r (a.lo.q / b.lo.q) (a.lo.q / b.hi.q) (a.hi.q / b.lo.q) (a.hi.q / b.hi.q) := by
  have la := rt_le ha; have lb := rt_le hb
  have z : hasB b F.zero = false := by
    unfold hasB
    rw [hb, Bool.true_and, Bool.and_eq_false_iff, decide_eq_false_iff_not, decide_eq_false_iff_not]
    left; intro k; have := q_le.2 k; rw [q_zero] at this; grind
  obtain ⟨c, hc⟩ := low_ex
  obtain ⟨d, hd⟩ := big_ex
  have p1 := quot_bd (x := a.lo.q) (y := b.lo.q) h0 Rat.le_refl h1 (by grind) (by grind)
  have p2 := quot_bd (x := a.lo.q) (y := b.hi.q) h0 lb h1 (by grind) (by grind)
  have p3 := quot_bd (x := a.hi.q) (y := b.lo.q) h0 Rat.le_refl (by grind) h2 (by grind)
  have p4 := quot_bd (x := a.hi.q) (y := b.hi.q) h0 lb (by grind) h2 (by grind)
  obtain ⟨r, e, hr, _⟩ := all_has (div_four (a := a) hb z) (c := c) (d := d) (by rw [hc]; exact p1.1) (by rw [hc]; exact p2.1) (by rw [hc]; exact p3.1) (by rw [hc]; exact p4.1) (by rw [hd]; exact p1.2) (by rw [hd]; exact p2.2) (by rw [hd]; exact p3.2) (by rw [hd]; exact p4.2)
  refine ⟨r, ?_, hr⟩
  unfold cDiv
  rw [z, cond_false, e, ask_mk (by rw [ha, hb]; rfl) rfl]
theorem fl_ex (m : Int) (s : Nat) (hm : m.natAbs ≤ 9007199254740992) (hs : s ≤ 900) (w : Rat) (hw : ((2 ^ s : Nat) : Rat) * w = m) : ∃ c : F, c.q = w := by
  obtain ⟨c, hc⟩ := grid m hm s (by omega) (by omega)
  refine ⟨c, ?_⟩
  have hp := pow_q s
  generalize ((2 ^ s : Nat) : Rat) = p at *
  have : (c.q - w) * p = 0 := by grind
  rcases Rat.mul_eq_zero.1 this with e | e <;> grind
/-- a direction above the horizon -/
structure OneP (v : V3) : Prop where
  x : In1 v.x
  y : In1 v.y
  z : In1 v.z
  up : 1 / 128 ≤ v.z.lo.q
theorem pt_in {x : F} (h : N1 x) : In1 (pt x) := ⟨q_le.1 (by rw [mone_q]; exact h.lo), q_le.1 (by rw [one_q]; exact h.hi), Int.le_refl _⟩
theorem un_okE {x y z : F} (hx : N1 x) (hy : N1 y) (z0 : 1 / 64 ≤ z.q) (z1 : z.q ≤ 1) : (unE KkR x y z).2 = 0 ∧ OneP (unV KkR x y z) := by
  have hz : N1 z := ⟨by grind, z1⟩
  have ix := pt_in hx; have iy := pt_in hy; have iz := pt_in hz
  obtain ⟨qx, e1, a1, m1⟩ := sqr_in ix
  obtain ⟨qy, e2, a2, m2⟩ := sqr_in iy
  obtain ⟨s1, e3, d3, u3⟩ := cAdd_ok a1.sm a2.sm
  obtain ⟨qz, e4, a4, m4⟩ := sqr_in iz
  have l1 := a1.lo; have h1 := a1.hi; have r1 := a1.rt; have l2 := a2.lo; have h2 := a2.hi; have r2 := a2.rt
  obtain ⟨f2, g2⟩ := fl_ex 2 0 (by decide) (by decide) 2 (by decide +kernel)
  obtain ⟨f4, g4⟩ := fl_ex 4 0 (by decide) (by decide) 4 (by decide +kernel)
  have s1lo : 0 ≤ s1.lo.q := dn_nn d3 (by grind)
  have s1hi : s1.hi.q ≤ 2 := by have := u3.bot f2 (by rw [g2]; grind); rwa [g2] at this
  have s1rt : s1.lo.q ≤ s1.hi.q := by have := d3.le; have := u3.ge; grind
  have s1sm : Sm s1 := ⟨by grind, s1rt, by grind⟩
  obtain ⟨s2, e5, d5, u5⟩ := cAdd_ok s1sm a4.sm
  obtain ⟨f12, g12⟩ := fl_ex 1 12 (by decide) (by decide) (1 / 4096) (by decide +kernel)
  obtain ⟨f6, g6⟩ := fl_ex 1 6 (by decide) (by decide) (1 / 64) (by decide +kernel)
  obtain ⟨f7, g7⟩ := fl_ex 1 7 (by decide) (by decide) (1 / 128) (by decide +kernel)
  -- the square of z
  have qzlo : 1 / 4096 ≤ qz.lo.q := by
    obtain ⟨r, e, d, _⟩ := cSqr_ok iz.sm
    have e' : cSqr dMul 0 (pt z) = (qz, 0) := e4
    rw [e'] at e
    obtain rfl : qz = r := congrArg Prod.fst e
    have b := bare_ends (a := pt z) (decide_eq_true (Int.le_refl _))
    have hb : (bareI (pt z)).lo.q * (bareI (pt z)).lo.q = z.q * z.q := by
      rcases b.1 with k | k
      · have a := k.lo; have c := k.hi
        have : (bareI (pt z)).lo.q = z.q := by have : (pt z).lo.q = z.q := rfl; have : (pt z).hi.q = z.q := rfl; grind
        rw [this]
      · have a := k.lo; have c := k.hi
        have : -(bareI (pt z)).lo.q = z.q := by have : (pt z).lo.q = z.q := rfl; have : (pt z).hi.q = z.q := rfl; grind
        grind
    rw [hb] at d
    rw [← g12]
    refine d.top f12 ?_
    rw [g12]
    have := sq_bd (x := 1 / 64) (m := z.q) (by grind) z0
    grind
  have l4 := a4.lo; have h4 := a4.hi; have r4 := a4.rt
  have s2lo : 1 / 4096 ≤ s2.lo.q := by have := d5.top f12 (by rw [g12]; grind); rwa [g12] at this
  have s2hi : s2.hi.q ≤ 4 := by have := u5.bot f4 (by rw [g4]; grind); rwa [g4] at this
  have s2rt : s2.lo.q ≤ s2.hi.q := by have := d5.le; have := u5.ge; grind
  obtain ⟨nn, e6, r6, d6, u6⟩ := sqrt_mk (rt_q s2rt) (by grind)
  have nlo : 1 / 64 ≤ nn.lo.q := by have := d6.top f6 (by rw [g6]; grind) (by rw [g6]; grind); rwa [g6] at this
  have nhi : nn.hi.q ≤ 2 := by have := u6.bot f2 (by rw [g2]; grind) (by rw [g2]; grind); rwa [g2] at this
  have nrt := rt_le r6
  have pr : ∀ w : F, rt (pt w) = true := fun w => decide_eq_true (Int.le_refl _)
  have bd : ∀ {w : F}, N1 w → -(9007199254740992 * nn.lo.q) ≤ (pt w).lo.q ∧ (pt w).hi.q ≤ 9007199254740992 * nn.lo.q := by
    intro w hw
    have a := hw.lo; have b := hw.hi
    have : (pt w).lo.q = w.q := rfl
    have : (pt w).hi.q = w.q := rfl
    constructor <;> grind
  obtain ⟨dx, e7, _⟩ := div_mk (pr x) r6 (by grind) (bd hx).1 (bd hx).2
  obtain ⟨dy, e8, _⟩ := div_mk (pr y) r6 (by grind) (bd hy).1 (bd hy).2
  obtain ⟨dz, e9, h9⟩ := div_mk (pr z) r6 (by grind) (bd hz).1 (bd hz).2
  have hE : unE KkR x y z = ([withI dz, dz, withI dy, dy, withI dx, dx, nn, s2, qz, s1, qy, qx, pt z, pt y, pt x], 0) := by
    unfold unE unP
    refine (eval_cons (r := pt x) (e' := 0) ?_).trans ?_
    · exact rfl
    refine (eval_cons (r := pt y) (e' := 0) ?_).trans ?_
    · exact rfl
    refine (eval_cons (r := pt z) (e' := 0) ?_).trans ?_
    · exact rfl
    refine (eval_cons (r := qx) (e' := 0) ?_).trans ?_
    · exact e1
    refine (eval_cons (r := qy) (e' := 0) ?_).trans ?_
    · exact e2
    refine (eval_cons (r := s1) (e' := 0) ?_).trans ?_
    · exact e3
    refine (eval_cons (r := qz) (e' := 0) ?_).trans ?_
    · exact e4
    refine (eval_cons (r := s2) (e' := 0) ?_).trans ?_
    · exact e5
    refine (eval_cons (r := nn) (e' := 0) ?_).trans ?_
    · exact e6
    refine (eval_cons (r := dx) (e' := 0) ?_).trans ?_
    · exact e7
    refine (eval_cons (r := withI dx) (e' := 0) ?_).trans ?_
    · exact rfl
    refine (eval_cons (r := dy) (e' := 0) ?_).trans ?_
    · exact e8
    refine (eval_cons (r := withI dy) (e' := 0) ?_).trans ?_
    · exact rfl
    refine (eval_cons (r := dz) (e' := 0) ?_).trans ?_
    · exact e9
    refine (eval_cons (r := withI dz) (e' := 0) ?_).trans ?_
    · exact rfl
    rfl
  have hV : unV KkR x y z = ⟨withI dx, withI dy, withI dz⟩ := by unfold unV; rw [hE]; rfl
  rw [hV]
  refine ⟨by rw [hE], withI_in _, withI_in _, withI_in _, ?_⟩
  -- z by the length
  have pz : (pt z).lo.q = z.q ∧ (pt z).hi.q = z.q := ⟨rfl, rfl⟩
  have low : ∀ {w : Rat}, nn.lo.q ≤ w → w ≤ nn.hi.q → 1 / 128 ≤ z.q / w := by
    intro w w0 w1
    have e : z.q / w * w = z.q := Rat.div_mul_cancel (by grind)
    generalize z.q / w = t at *
    apply Rat.not_lt.1
    intro g
    have := Rat.mul_pos (show 0 < 1 / 128 - t by grind) (show 0 < w by grind)
    grind
  have dzlo : 1 / 128 ≤ dz.lo.q := by
    rw [← g7]
    have a := low Rat.le_refl nrt
    have b := low nrt Rat.le_refl
    refine h9.top ?_ ?_ ?_ ?_ <;> (rw [g7]; simp only [pz.1, pz.2]; assumption)
  have zn : z.q ≤ nn.hi.q := by
    refine sq_le' (by grind) (by grind) ?_
    have a := u6.ge
    have b := (m4 z.q ⟨Rat.le_refl, Rat.le_refl⟩).hi
    have c := u5.ge
    grind
  have top : z.q / nn.hi.q ≤ 1 := by
    have e : z.q / nn.hi.q * nn.hi.q = z.q := Rat.div_mul_cancel (by grind)
    generalize z.q / nn.hi.q = t at *
    apply Rat.not_lt.1
    intro g
    have := Rat.mul_pos (show 0 < t - 1 by grind) (show 0 < nn.hi.q by grind)
    grind
  have mz : Mem dz (z.q / nn.hi.q) := ⟨by have := h9.lo.2.1; simpa only [pz.1] using this, by have := h9.hi.2.1; simpa only [pz.1] using this⟩
  have b := low nrt Rat.le_refl
  show 1 / 128 ≤ (withI dz).lo.q
  rw [withI_eq mz (by grind) top]
  exact Rat.le_trans dzlo (mxF_q _ _).1
theorem un_ok {x y z : F} (hx : N1 x) (hy : N1 y) (z0 : 1 / 64 ≤ z.q) (z1 : z.q ≤ 1) : OneP (unV KkR x y z) := (un_okE hx hy z0 z1).2
theorem un_B {x y z : F} (hx : N1 x) (hy : N1 y) (z0 : 1 / 64 ≤ z.q) (z1 : z.q ≤ 1) : unB x y z = true := by
  have kt : decide (tiny64.k ≤ d64.k) = true := by decide +kernel
  have kh : decide (one64.k ≤ huge64.k) = true := by decide +kernel
  have kd : d64.q * 64 = 1 := q_of' (n := 1) (s := 6) (by decide +kernel) rfl
  have k1 := of_decide_eq_true kt
  have k2 := of_decide_eq_true kh
  have ab : ∀ {w : F}, N1 w → w.abs.k ≤ one64.k := by
    intro w hw
    have a := q_le.1 (show w.q ≤ one64.q by rw [one_q]; exact hw.hi)
    have b := q_le.1 (show mone64.q ≤ w.q by rw [mone_q]; exact hw.lo)
    have c : mone64.k = -one64.k := by decide +kernel
    show ((w.k.natAbs : Nat) : Int) ≤ _
    omega
  have z2 : d64.k ≤ z.abs.k := by
    have a := q_le.1 (show d64.q ≤ z.q by grind)
    show _ ≤ ((z.k.natAbs : Nat) : Int)
    omega
  have a := ab hx; have b := ab hy; have c := ab (w := z) ⟨by grind, z1⟩
  unfold unB mostF
  have e : (mxF (mxF x.abs y.abs) z.abs).k = max (max x.abs.k y.abs.k) z.abs.k := by rw [mxF_k, mxF_k]
  rw [e, Bool.and_eq_true, Bool.not_eq_true', Bool.not_eq_true', decide_eq_false_iff_not, decide_eq_false_iff_not]
  constructor <;> omega
end Bu
namespace Bu
set_option linter.all false
open Rx Go

theorem Dn.one {r s : F} {v : Rat} (h : Dn r v) (k : Dn s v) : r = s := by
  have a := h.top _ k.le; have b := k.top _ h.le
  exact q_inj (by grind)
theorem Up.one {r s : F} {v : Rat} (h : Up r v) (k : Up s v) : r = s := by
  have a := h.bot _ k.ge; have b := k.bot _ h.ge
  exact q_inj (by grind)
theorem RD.one {v : Rat} {p s : F × Int} (h : RD v p) (k : RD v s) : p.2 = s.2 ∧ (p.2 = 0 → p.1 = s.1) := by
  rcases h with ⟨a, b⟩ | ⟨a, b⟩ <;> rcases k with ⟨c, d⟩ | ⟨c, d⟩
  · exact ⟨by rw [a, c], fun _ => b.one d⟩
  · exact absurd (d p.1) (by have := b.le; grind)
  · exact absurd (b s.1) (by have := d.le; grind)
  · exact ⟨by rw [a, c], fun h => by rw [a] at h; exact absurd h (by decide)⟩
theorem RU.one {v : Rat} {p s : F × Int} (h : RU v p) (k : RU v s) : p.2 = s.2 ∧ (p.2 = 0 → p.1 = s.1) := by
  rcases h with ⟨a, b⟩ | ⟨a, b⟩ <;> rcases k with ⟨c, d⟩ | ⟨c, d⟩
  · exact ⟨by rw [a, c], fun _ => b.one d⟩
  · exact absurd (d p.1) (by have := b.ge; grind)
  · exact absurd (b s.1) (by have := d.ge; grind)
  · exact ⟨by rw [a, c], fun h => by rw [a] at h; exact absurd h (by decide)⟩
theorem SqD.one {r s a : F} (h : SqD r a) (k : SqD s a) : r = s := by
  have a := h.top _ k.nn k.le; have b := k.top _ h.nn h.le
  exact q_inj (by grind)
theorem SqU.one {r s a : F} (h : SqU r a) (k : SqU s a) : r = s := by
  have a := h.bot _ k.nn k.ge; have b := k.bot _ h.nn h.ge
  exact q_inj (by grind)
/-- the other way round, turned -/
theorem Dn.turn {r : F} {v : Rat} (h : Dn r v) : Up r.neg (-v) := by
  refine ⟨by rw [q_neg]; have := h.le; grind, fun c hc => ?_⟩
  have := h.top c.neg (by rw [q_neg]; grind)
  rw [q_neg] at this ⊢; grind
theorem Up.turn {r : F} {v : Rat} (h : Up r v) : Dn r.neg (-v) := by
  refine ⟨by rw [q_neg]; have := h.ge; grind, fun c hc => ?_⟩
  have := h.bot c.neg (by rw [q_neg]; grind)
  rw [q_neg] at this ⊢; grind
theorem I.one {a b : I} (h1 : a.lo = b.lo) (h2 : a.hi = b.hi) : a = b := by cases a; cases b; simp only at h1 h2; subst h1; subst h2; rfl
theorem AllR.one {r u : I} {p q s t p' q' s' t' : Rat} (h : AllR r p q s t) (k : AllR u p' q' s' t')
    (hp : (p' = p ∨ p' = q ∨ p' = s ∨ p' = t) ∧ (q' = p ∨ q' = q ∨ q' = s ∨ q' = t) ∧ (s' = p ∨ s' = q ∨ s' = s ∨ s' = t) ∧ (t' = p ∨ t' = q ∨ t' = s ∨ t' = t))
    (hk : (p = p' ∨ p = q' ∨ p = s' ∨ p = t') ∧ (q = p' ∨ q = q' ∨ q = s' ∨ q = t') ∧ (s = p' ∨ s = q' ∨ s = s' ∨ s = t') ∧ (t = p' ∨ t = q' ∨ t = s' ∨ t = t')) : r = u := by
  obtain ⟨a1, a2, a3, a4⟩ := h.lo; obtain ⟨b1, b2, b3, b4⟩ := h.hi
  obtain ⟨c1, c2, c3, c4⟩ := k.lo; obtain ⟨d1, d2, d3, d4⟩ := k.hi
  have e1 : ∀ x, (x = p ∨ x = q ∨ x = s ∨ x = t) → r.lo.q ≤ x ∧ x ≤ r.hi.q := by rintro x (rfl | rfl | rfl | rfl) <;> exact ⟨by assumption, by assumption⟩
  have e2 : ∀ x, (x = p' ∨ x = q' ∨ x = s' ∨ x = t') → u.lo.q ≤ x ∧ x ≤ u.hi.q := by rintro x (rfl | rfl | rfl | rfl) <;> exact ⟨by assumption, by assumption⟩
  obtain ⟨p1, p2, p3, p4⟩ := hp; obtain ⟨k1, k2, k3, k4⟩ := hk
  have f1 := k.top (e1 _ p1).1 (e1 _ p2).1 (e1 _ p3).1 (e1 _ p4).1
  have f2 := h.top (e2 _ k1).1 (e2 _ k2).1 (e2 _ k3).1 (e2 _ k4).1
  have g1 := k.bot (e1 _ p1).2 (e1 _ p2).2 (e1 _ p3).2 (e1 _ p4).2
  have g2 := h.bot (e2 _ k1).2 (e2 _ k2).2 (e2 _ k3).2 (e2 _ k4).2
  exact I.one (q_inj (by grind)) (q_inj (by grind))
theorem turn_q (a : I) : (turnI a).lo.q = -a.hi.q ∧ (turnI a).hi.q = -a.lo.q := ⟨q_neg _, q_neg _⟩
theorem AllR.turn {r : I} {p q s t : Rat} (h : AllR r p q s t) : AllR (turnI r) (-p) (-q) (-s) (-t) := by
  obtain ⟨a1, a2, a3, a4⟩ := h.lo; obtain ⟨b1, b2, b3, b4⟩ := h.hi
  obtain ⟨e1, e2⟩ := turn_q r
  refine ⟨⟨by grind, by grind, by grind, by grind⟩, ⟨by grind, by grind, by grind, by grind⟩, ?_, ?_⟩
  · rcases h.hiE with k | k | k | k
    · exact .inl k.turn
    · exact .inr (.inl k.turn)
    · exact .inr (.inr (.inl k.turn))
    · exact .inr (.inr (.inr k.turn))
  · rcases h.loE with k | k | k | k
    · exact .inl k.turn
    · exact .inr (.inl k.turn)
    · exact .inr (.inr (.inl k.turn))
    · exact .inr (.inr (.inr k.turn))
section
variable {v w : List I} {i j i' j' : Nat} {r u : I}
end
end Bu
namespace Bu
set_option linter.all false
open Rx Go

/-- all rows tell what they do, of right arguments -/
def ChainR : List Bu.Op → List I → List I → Prop
  | [], v, u => u = v
  | o :: l, v, u => ∃ r, (Fact o v r ∧ ArgsRt o v) ∧ ChainR l (r :: v) u
theorem eval_chainR : ∀ {l : List Bu.Op} {v : List I} {e : Int}, (evalK KkR l v e).2 = 0 → ChainR l v (evalK KkR l v e).1
  | [], _, _, _ => rfl
  | o :: l, v, e, h => by
    have h2 := eval_chainR (l := l) h
    obtain ⟨g1, g3, g2⟩ := step_fact (eval_chain (l := l) h).1
    exact ⟨_, ⟨g2, g3⟩, h2⟩
abbrev Sg := Nat × Bool
def twS (z : Bool) (x : Sg) : Sg := (x.1, z != x.2)
/-- of a place: of a turned one that which it turns; of a number the first place that has it -/
def eqF (a b : F) : Bool := decide (a.k = b.k)
theorem eqF_ok {a b : F} (h : eqF a b = true) : a = b := F.ext' (of_decide_eq_true h)
def numAt (x : F) : List Bu.Op → Nat → Option Nat
  | [], _ => none
  | o :: t, p => match o with
    | .num y => bif eqF x y then some p else numAt x t (p + 1)
    | _ => numAt x t (p + 1)
def canon (L : List Bu.Op) (p : Nat) : Sg := match L[p]? with
  | some (.neg i) => (p + 1 + i, true)
  | some (.num x) => ((numAt x L 0).getD p, false)
  | _ => (p, false)
def eqI (a b : I) : Bool := eqF a.lo b.lo && eqF a.hi b.hi
theorem eqI_ok {a b : I} (h : eqI a b = true) : a = b := by
  obtain ⟨h1, h2⟩ := both h
  exact I.one (eqF_ok h1) (eqF_ok h2)
def eqS (x y : Sg) : Bool := x.1 == y.1 && x.2 == y.2
/-- is row o' (whose arguments are told by m) row o at place p (of the line L), turned if z? -/
def mate (L : List Bu.Op) (m : List Sg) (o' o : Bu.Op) (p : Nat) (z : Bool) : Bool :=
  let X := fun i => m.getD i (0, false)
  let A := fun i => canon L (p + 1 + i)
  let has := fun i => decide (i < m.length)
  match o', o with
  | .add i j, .add a b => has i && has j && (eqS (X i) (twS z (A a)) && eqS (X j) (twS z (A b)) || eqS (X i) (twS z (A b)) && eqS (X j) (twS z (A a)))
  | .sub i j, .sub a b => has i && has j && (eqS (X i) (twS z (A a)) && eqS (X j) (twS z (A b)) || eqS (X i) (twS (!z) (A b)) && eqS (X j) (twS (!z) (A a)))
  | .mul i j, .mul a b => has i && has j && (eqS (X i) (A a) && eqS (X j) (twS z (A b)) || eqS (X i) (twS true (A a)) && eqS (X j) (twS (!z) (A b)) || eqS (X i) (A b) && eqS (X j) (twS z (A a)) || eqS (X i) (twS true (A b)) && eqS (X j) (twS (!z) (A a)))
  | .div i j, .div a b => has i && has j && eqS (X i) (twS z (A a)) && eqS (X j) (A b)
  | .max i j, .max a b => has i && has j && !z && (eqS (X i) (A a) && eqS (X j) (A b))
  | .sqr i, .sqr a => has i && !z && (eqS (X i) (A a) || eqS (X i) (twS true (A a)))
  | .sqrt i, .sqrt a => has i && !z && eqS (X i) (A a)
  | .num x, .num y => !z && eqF x y
  | .lit x, .lit y => !z && eqI x y
  | .kept l h i, .kept l' h' a => has i && eqF l l' && eqF h h' && (!z && eqS (X i) (A a) || z && eqF l mone64 && eqF h one64 && eqS (X i) (twS true (A a)))
  | .wi i, .wi a => has i && !z && eqS (X i) (A a)
  | .hid i, .hid a => has i && !z && eqS (X i) (A a)
  | _, _ => false
/-- looks for a row's mate, from place p on -/
def seek (L : List Bu.Op) (m : List Sg) (o' : Bu.Op) : List Bu.Op → Nat → Option Sg
  | [], _ => none
  | o :: t, p => bif mate L m o' o p false then some (p, false) else bif mate L m o' o p true then some (p, true) else seek L m o' t (p + 1)
end Bu
namespace Bu
set_option linter.all false
open Rx Go

/-- the row at the same place first -/
def seek2 (L : List Bu.Op) (m : List Sg) (o' : Bu.Op) (p : Nat) : Option Sg := match L[p]? with
  | some o => bif mate L m o' o p false then some (p, false) else seek L m o' L 0
  | none => seek L m o' L 0
def twin2 (L : List Bu.Op) : List Bu.Op → List Sg → Option (List Sg)
  | [], m => some m
  | o :: t, m => match o with
    | .neg i => bif decide (i < m.length) then twin2 L t (twS true (m.getD i (0, false)) :: m) else none
    | o => match seek2 L m o t.length with
      | some x => twin2 L t ((bif x.2 then twS true (canon L x.1) else canon L x.1) :: m)
      | none => none
def tw1 (l t : List Bu.Op) (ps : List Nat) (i j : Nat) : Bool := match twin2 l.reverse t (ps.map fun p => (l.length + p, false)) with
  | some k => decide (i < k.length) && eqS (k.getD i (0, false)) (j, false)
  | none => false
theorem one_box {v : V3} (h : OneP v) : InB v.x b11 ∧ InB v.y b11 ∧ InB v.z bzz := by
  have e : bzz.lo.q = 1 / 128 := by have : bzz.lo.q * 128 = 1 := q_of' (n := 1) (s := 7) (by decide +kernel) rfl; grind
  exact ⟨⟨h.x.lo, h.x.hi, h.x.rt⟩, ⟨h.y.lo, h.y.hi, h.y.rt⟩, ⟨q_le.1 (by rw [e]; exact h.up), h.z.hi, h.z.rt⟩⟩
def miE (v u : V3) : List I × Int := evalK KkR miH [u.z, u.y, u.x, v.z, v.y, v.x] 0
def hfI (v u : V3) : I := gt (miE v u).1 3
def lnI (v u : V3) : I := gt (miE v u).1 0
theorem q_mono : miH.all monoB = true ∧ gg2.all monoB = true ∧ gg1.all monoB = true ∧ ggD.all monoB = true ∧ miV.all monoB = true ∧ frD.all monoB = true ∧ frC.all monoB = true := by decide +kernel
def Ga (v u : V3) (al : I) : I := gt (evalK KkR gg2 [u.z, v.z, al] 0).1 0
def Gb (u : V3) (al : I) : I := gt (evalK KkR gg1 [u.z, al] 0).1 0
def Da (v u : V3) (al : I) : I := gt (evalK KkR ggD [lnI v u, al] 0).1 0
def giE (v u : V3) (al : I) : List I × Int := evalK KkR miV [Gb u al, Ga v u al, Da v u al, u.z, v.z] 0
def giV (v u : V3) (al : I) : I := gt (giE v u al).1 3
def giD (v u : V3) (al : I) : I := gt (giE v u al).1 0
end Bu
